/- Part of a proof (S10 S11 S12 S15 S13 S16 S17 S14 S18 S19 S20 S21 S22 S23 S24 S25 S26 S27 Zab VC1 ML1 ML2 ML3); no condition. -/
import Derived.ChangeArms
import Derived.ChangeSame
import Derived.SizedLaws
import Derived.Test.YtacaginbdjepcaaGreatDoorProg
import Derived.KernelRfl
import Derived.Laws.IdiomRangeMap
import Derived.Test.YtacaginbdjepcaaGreatDoorP6
set_option linter.unusedSimpArgs false
set_option linter.unusedVariables false
set_option linter.unnecessarySimpa false
namespace Go.Abs.S
open Go.Abs
theorem yY(s:List UInt8):fD true (.str s)=some (.int .i64 (s.length:Int)):=_root_.id rfl
theorem bi{s:List UInt8}{i:Nat}{b:UInt8}(h:s[i]?=some b)(k:IntKind):iC (.str s) (.int k (i:Int))=some (.int .u8 (b.toNat:Int)):=by
 show (match (s[i]?:Option UInt8) with | some b=>some (af.int .u8 b.toNat) | none=>none)=_
 rw[h]
theorem ja{y n:Nat}(h:n<=y):bd (.int .i64 (n:Int)) y=some n:=by
 show (bif Nat.ble n y then some n else none)=_
 rw[NB h]; rfl
theorem wZ{s:List UInt8}{l h:Nat}(h1:l<=h)(h2:h<=s.length):eI (.str s) (some (.int .i64 (l:Int))) (some (.int .i64 (h:Int)))=some (.str ((s.drop l).take (h-l))):=by
 simp only[eI,iD,Ci,ja h2,ja h1]
theorem nX{s:List UInt8}{l:Nat}(h1:l<=s.length):eI (.str s) (some (.int .i64 (l:Int))) none=some (.str (s.drop l)):=by
 simp only[eI,iD,Ci,ja h1]
 rw[List.take_of_length_le (by simp)]
theorem nY{s:List UInt8}{h:Nat}(h2:h<=s.length):eI (.str s) none (some (.int .i64 (h:Int)))=some (.str (s.take h)):=by
 simp only[eI,iD,Ci,ja h2,List.drop_zero,Nat.sub_zero]
theorem yZ(x y:List UInt8):bV .eql (.str x) (.str y)=some (.bool (decide (x=y))):=by
 simp only[bV,FF]
 by_cases h:x=y <;> simp[h]
theorem yX(x y:List UInt8):bV .neq (.str x) (.str y)=some (.bool (!decide (x=y))):=by
 simp only[bV,FF]
 by_cases h:x=y <;> simp[h]
theorem jS{x y:List UInt8}(h:x.length+y.length<=9223372036854775807):bV .add (.str x) (.str y)=some (.str (x++y)):=by
 simp only[bV,FF,NB h,cond_true]
theorem Aw(k k':IntKind)(n:Int):nM k (.int k' n)=some (.int k (k.wrap n)):=by
 simp only[nM,ku]
theorem CZ(b:Bool):CC .not (.bool b)=some (.bool (!b)):=_root_.id rfl
theorem uc(k:IntKind)(a b:Int)(h:b≠0):bV .quo (.int k a) (.int k b)=some (.int k (k.wrap (a.tdiv b))):=by
 simp[bV,bZ,cy,ji,h]
theorem Hr(k k':IntKind)(a:Int)(b:Nat):bV .shl (.int k a) (.int k' (b:Int))=some (.int k (k.wrap (a*2 ^ (min b k.bits)))):=by
 simp only[bV,bZ,cond_true,kU,na]
 rw[if_neg om]; rfl
theorem Hq(k k':IntKind)(a:Int)(b:Nat):bV .shr (.int k a) (.int k' (b:Int))=some (.int k (a.fdiv (2 ^ (min b k.bits)))):=by
 simp only[bV,bZ,cond_true,kU,na]
 rw[if_neg om]; rfl
theorem oQ(b:Bool):(aJ=af.bool b)=False:=by simp[aJ]
theorem dz{a:Int}(h1:0<=a)(h2:a<=255):IntKind.u8.wrap a=a:=IntWalk.u8_in _ ⟨h1,h2⟩
end Go.Abs.S
namespace Go.Abs.S
open Go.Abs
theorem ik(n m:Nat):(BitVec.ofInt m (n:Int)).toNat=n % 2 ^ m:=by
 rw[BitVec.toNat_ofInt]
 omega
theorem CD{a:Nat}(h:a<2 ^ 63):IntKind.i64.wrap (a:Int)=a:=by
 rw[IntKind.wrap_i64]; omega
theorem AE{a b:Nat}(ha:a<2 ^ 63)(hb:b<2 ^ 63):bV .or (.int .i64 (a:Int)) (.int .i64 (b:Int))=some (.int .i64 ((a ||| b:Nat):Int)):=by
 have e:(BitVec.ofInt IntKind.i64.bits (a:Int) ||| BitVec.ofInt IntKind.i64.bits (b:Int)).toNat=a ||| b:=by
  rw[BitVec.toNat_or,ik,ik]
  have h1:a % 2 ^ IntKind.i64.bits=a:=Nat.mod_eq_of_lt (by simp only[IntKind.bits]; omega)
  have h2:b % 2 ^ IntKind.i64.bits=b:=Nat.mod_eq_of_lt (by simp only[IntKind.bits]; omega)
  rw[h1,h2]
 simp only[bV,bZ,cond_false,if_true,cy,ji,e]
 rw[CD (Nat.or_lt_two_pow ha hb)]
theorem wm{k':IntKind}{a b:Nat}(hb:b<=63)(h:a*2 ^ b<2 ^ 63):bV .shl (.int .i64 (a:Int)) (.int k' (b:Int))=some (.int .i64 ((a*2 ^ b:Nat):Int)):=by
 rw[Hr]
 have e:min b IntKind.i64.bits=b:=by simp only[IntKind.bits]; omega
 rw[e]
 have e2:(a:Int)*2 ^ b=((a*2 ^ b:Nat):Int):=by simp
 rw[e2,CD h]
theorem DJ(n a:Nat){b:Nat}(h:b<2 ^ n):a*2 ^ n ||| b=a*2 ^ n+b:=by
 rw[Nat.mul_comm,Nat.two_pow_add_eq_or_of_lt h]
theorem xB(a b:Int):jj (.mm false) [.int .i64 a,.int .i64 b]=some (.int .i64 (if b<a then b else a)):=by
 simp only[jj,HE,Kk,HG,tE,cond_false]
 by_cases h:b<a <;> simp[h]
def gr(l:List Nat):List af:=l.map fun n:Nat=>.int .u8 (n:Int)
theorem fG(l:List Nat):(gr l).length=l.length:=by simp[gr]
theorem Gf{l:List Nat}{i:Nat}{n:Nat}(h:l[i]?=some n):(gr l)[i]?=some (.int .u8 (n:Int)):=by simp[gr,h]
theorem th(l:List Nat)(i n:Nat):gr (l.set i n)=(gr l).set i (.int .u8 (n:Int)):=by simp[gr]
end Go.Abs.S
namespace Go.Abs.S
open Go.Abs
theorem eU{a:Int}(h1:0<=a)(h2:a<4294967296):IntKind.u32.wrap a=a:=by
 rw[IntKind.wrap_u32]; omega
theorem jk{a:Int}(h1:0<=a)(h2:a<18446744073709551616):IntKind.u64.wrap a=a:=by
 rw[IntKind.wrap_u64]; omega
theorem mB{a:Nat}(b:Nat)(h:0<b)(ha:a<4294967296):bV .quo (.int .u32 (a:Int)) (.int .u32 (b:Int))=some (.int .u32 ((a / b:Nat):Int)):=by
 rw[uc _ _ _ om]
 have:(a:Int).tdiv b=((a / b:Nat):Int):=rfl
 have h2:=Nat.div_le_self a b
 rw[this,eU (Int.natCast_nonneg _) (by generalize a / b=q at *; omega)]
theorem mA{a:Nat}(b:Nat)(h:0<b):bV .rem (.int .u32 (a:Int)) (.int .u32 (b:Int))=some (.int .u32 ((a % b:Nat):Int)):=by
 rw[oA _ _ _ om]; rfl
theorem DD{a:Nat}(b:Nat)(h:0<b)(ha:a<18446744073709551616):bV .quo (.int .u64 (a:Int)) (.int .u64 (b:Int))=some (.int .u64 ((a / b:Nat):Int)):=by
 rw[uc _ _ _ om]
 have:(a:Int).tdiv b=((a / b:Nat):Int):=rfl
 have h2:=Nat.div_le_self a b
 rw[this,jk (Int.natCast_nonneg _) (by generalize a / b=q at *; omega)]
theorem I8{a:Nat}(b:Nat)(h:0<b):bV .rem (.int .u64 (a:Int)) (.int .u64 (b:Int))=some (.int .u64 ((a % b:Nat):Int)):=by
 rw[oA _ _ _ om]; rfl
theorem qF(k k':IntKind)(a:Nat){b:Nat}(hb:b<=k.bits):bV .shr (.int k (a:Int)) (.int k' (b:Int))=some (.int k ((a / 2 ^ b:Nat):Int)):=by
 rw[Hq,Nat.min_eq_left hb]
 congr 2
 have:((2:Int) ^ b)=((2 ^ b:Nat):Int):=by simp
 rw[this,Int.fdiv_eq_ediv_of_nonneg _ (Int.natCast_nonneg _)]
 rfl
theorem qc{a b:Nat}(ha:a<2 ^ 64)(hb:b<2 ^ 64):bV .and (.int .u64 (a:Int)) (.int .u64 (b:Int))=some (.int .u64 ((a &&& b:Nat):Int)):=by
 have e:(BitVec.ofInt IntKind.u64.bits (a:Int) &&& BitVec.ofInt IntKind.u64.bits (b:Int)).toNat=a &&& b:=by
  rw[BitVec.toNat_and,ik,ik]
  have h1:a % 2 ^ IntKind.u64.bits=a:=Nat.mod_eq_of_lt (by simp only[IntKind.bits]; omega)
  have h2:b % 2 ^ IntKind.u64.bits=b:=Nat.mod_eq_of_lt (by simp only[IntKind.bits]; omega)
  rw[h1,h2]
 simp only[bV,bZ,cond_false,if_true,cy,ji,e]
 have h3:=Nat.and_lt_two_pow a hb
 rw[jk om om]
def cV(s:List UInt8):List af:=s.map fun b=>.int .u8 (b.toNat:Int)
theorem gd(s:List UInt8):(cV s).length=s.length:=by simp[cV]
theorem jJ(s t:List UInt8):cV (s++t)=cV s++cV t:=by simp[cV]
theorem p6(s:List UInt8):(cV s).all af.one=true:=by simp[cV,af.one]
theorem fN:∀s:List UInt8,iX (cV s)=some s
 | []=>rfl
 | b::s=>by
  have h:=fN s
  show (match iX (cV s) with | some l=>some (UInt8.ofNat (Int.toNat (b.toNat:Int))::l) | none=>none)=_
  rw[h]
  simp
theorem za(H:ae)(s:List UInt8):iB 1 H (.str s)=some (s.length,cV s):=_root_.id rfl
def jK(b cap n:Nat):af:=.slice (some ⟨b,cap,0⟩) n (.known cap)
def td(H:ae)(b cap:Nat)(s:List UInt8):Prop:=∃l,Row H b l/\l.length=cap/\l.take s.length=cV s
theorem zE(z:af):∀k,lp [z] k=List.replicate k z
 | 0=>rfl
 | k+1=>by simp only[lp,zE z k,List.replicate_succ]; rfl
theorem EZ{H:ae}(z:af)(cap:Nat)(hc:cap<=1000000):∃H',gh 1 [z] H (.int .i64 (0:Int)) (.int .i64 (cap:Int))=some (jK H.next cap 0,H')/\td H' H.next cap []/\H'.next=H.next+1/\∀c,c≠H.next->H'.get c=H.get c:=by
 refine⟨H.push (.cells (List.replicate cap z) 0 false),?_,⟨_,jq _ _,by simp,by simp[cV]⟩,rfl,fun c hc=>by rw[ae.get_push,if_neg hc]⟩
 have h0:dV (.int .i64 (0:Int))=some 0:=rfl
 have h1:dV (.int .i64 (cap:Int))=some cap:=by
  show dV (.int .i64 (Int.ofNat cap))=some cap
  simp only[dV,NB (show cap<=9223372036854775807 by omega),cond_true]
 simp only[gh,h0,h1,zE,NB (Nat.zero_le _),NB (show 1*cap<=281474976710656 by omega),Bool.and_self,cond_true,List.length_replicate]
 rfl
theorem qi{H:ae}{b cap:Nat}{s x:List UInt8}(hb:td H b cap s){t:af}(hs:iB 1 H t=some (x.length,cV x))(hx:x≠[])(hf:s.length+x.length<=cap)(hc:cap<=1000000) :
  ∃H',bD 1 1 H (jK b cap s.length) t=some (jK b cap (s++x).length,H')/\td H' b cap (s++x)/\H'.next=H.next/\∀c,c≠b->H'.get c=H.get c:=by
 obtain⟨l,⟨low,h1,h2⟩,h3,h4⟩:=hb
 have hl:0<x.length:=List.length_pos_iff.2 hx
 have e0:Nat.beq x.length 0=false:=by rw[dy]; exact decide_eq_false om
 refine⟨H.set b (.cells (l.take s.length++(cV x++l.drop (s.length+x.length))) cap false),?_,⟨_,⟨cap,by rw[ae.get_set,if_pos rfl],?_⟩,?_,?_⟩,rfl,fun c hc=>by rw[ae.get_set,if_neg hc]⟩
 ·have hw:cG H ⟨b,cap,0+s.length*1⟩ (cV x)=some (H.set b (.cells (l.take s.length++(cV x++l.drop (s.length+x.length))) cap false)):=by
   unfold cG
   simp only[h1,Nat.zero_add,Nat.mul_one,NB (show low<=cap by omega),gd,NB hf,p6,h3,Nat.beq_refl,Bool.and_self,cond_true]
  simp only[bD,hs,e0,cond_false,jK,Nat.add_zero,Nat.mul_one,NB (show 2*(s.length+x.length)<=281474976710656 by omega),NB (show s.length+x.length<=9223372036854775807 by omega),gd,Nat.beq_refl,p6,Bool.and_self,show Nat.blt 0 1=true from rfl,cond_true,NB hf,lA]
  rw[Nat.mul_one]at hw
  rw[hw]
 ·simp[cV]; omega
 ·simp[cV]; omega
 ·rw[jJ,<- h4,<- NM]
  have e:(List.take s.length l++cV x).length=(s++x).length:=by simp[cV]; omega
  rw[<- e,List.take_left]
theorem yB{H:ae}{b cap:Nat}{s:List UInt8}(hb:td H b cap s)(hf:s.length<=cap):Ct H (jK b cap s.length)=some (.str s):=by
 obtain⟨l,⟨low,h1,h2⟩,h3,h4⟩:=hb
 have hr:aT H ⟨b,cap,0⟩ s.length=some (cV s):=by
  unfold aT
  simp only[h1,NB (show low<=cap by omega),NB (show cap<=l.length by omega),Nat.zero_add,NB hf,Bool.and_self,cond_true,List.drop_zero,h4]
 simp only[Ct,jK,hr,fN]
theorem Hn{H:ae}{b cap:Nat}{s:List UInt8}(hb:td H b cap s)(hf:s.length<=cap):iB 1 H (jK b cap s.length)=some (s.length,cV s):=by
 obtain⟨l,⟨low,h1,h2⟩,h3,h4⟩:=hb
 have hr:aT H ⟨b,cap,0⟩ s.length=some (cV s):=by
  unfold aT
  simp only[h1,NB (show low<=cap by omega),NB (show cap<=l.length by omega),Nat.zero_add,NB hf,Bool.and_self,cond_true,List.drop_zero,h4]
 simp only[iB,jK,Nat.mul_one,hr]
theorem td.same{H H':ae}{b cap:Nat}{s:List UInt8}(h:td H b cap s)(e:H'.get b=H.get b):td H' b cap s:=by
 obtain⟨l,h1,h2⟩:=h
 exact⟨l,h1.same e,h2⟩
theorem nZ{b cap k:Nat}(h:k<=cap)(hc:0<cap):gW cap 1 (ak b cap 0) none (some (.int .i64 (k:Int))) none=some (jK b cap k):=by
 have e:Nat.beq cap 0=false:=by rw[dy]; exact decide_eq_false om
 simp only[gW,ak,iD,Ci,ja h,Option.getD_none,e,cond_false,Nat.zero_mul,Nat.add_zero,Nat.sub_zero,jK]
def nO(H:ae)(g:Nat)(l:List af):Prop:=H.get g=some (.cells l 0 true)
theorem Jv{H:ae}{g n:Nat}{l:List af}(h:nO H g l)(hn:l.length=n){i:Nat}(hi:i<n)(k:IntKind):me (.gIdx g n 1) H [.int k (i:Int)]=some (ak g n i,H):=by
 have:xZ H g=some (ak g n 0):=by
  unfold xZ
  rw[h,<- hn]; rfl
 simp only[me,FJ,this,ud hi]
theorem G5{H:ae}{g n:Nat}{l:List af}(h:nO H g l)(hn:l.length=n){i:Nat}{x:af}(hi:l[i]?=some x):bg false 1 H (ak g n i)=some x:=by
 subst hn
 have hlt:=(NA.1 hi).1
 obtain⟨y,h4,h5⟩:=DA (ew h (Nat.zero_le _)) hlt
 rw[hi]at h4
 simp only[sJ]at h4
 subst h4
 simp only[Nat.zero_add]at h5
 simp only[bg,ak,h5,cond_false]
theorem nO.ext{n g:Nat}{H H':ae}{l:List af}(h:nO H g l)(hg:g<n)(e:bw n H H'):nO H' g l:=(e.old g hg).trans h
theorem bA{H:ae}{b n:Nat}{l:List af}(h:Row H b l)(hn:l.length=n){xs:List af}(hx:xs.length=n)(ho:xs.all af.one=true) :
  ∃H',bB n H (ak b n 0) (.agg xs)=some H'/\Row H' b xs/\H'.next=H.next/\∀c,c≠b->H'.get c=H.get c:=by
 subst hn
 obtain⟨low,h1,h2⟩:=h
 refine⟨H.set b (.cells xs l.length false),?_,⟨l.length,by rw[ae.get_set,if_pos rfl],om⟩,rfl,fun c hc=>by rw[ae.get_set,if_neg hc]⟩
 simp only[bB,ak,sx,hx,Nat.beq_refl,cond_true]
 unfold cG
 simp only[h1,hx,NB h2,Nat.beq_refl,Nat.zero_add,NB rL,ho,Bool.and_self,cond_true,List.take_zero,List.nil_append,List.drop_length,List.append_nil]
theorem dH{H:ae}{b n:Nat}{l:List af}(h:Row H b l)(hn:l.length=n):bg true n H (ak b n 0)=some (.agg l):=by
 subst hn
 obtain⟨low,h1,h2⟩:=h
 simp only[bg,ak,ew h1 h2,cond_true]
theorem M8(b n o:Nat):gj o (ak b n 0)=some (ak b n o):=by
 simp only[gj,ak,Nat.zero_add]
theorem JA{T:bK}{H:ae}(g:Bool)(n i:Nat)(K:af->ae->Prop){v:af}(h:bg g n H (T i)=some v)(hk:K v H):gX [.cell g n i] K .ret T H:=by
 simp only[gX,mi,h,cE]; exact hk
theorem EC{T:bK}{H:ae}(g g':Bool)(n n' i i':Nat)(K:af->ae->Prop){v v':af}(h:bg g n H (T i)=some v)(h':bg g' n' H (T i')=some v')(hk:K (.tuple [v,v']) H):gX [.cell g n i,.cell g' n' i'] K .ret T H:=by
 simp only[gX,mi,h,h',cE]; exact hk
theorem fZ{T:bK}{H:ae}(K:af->ae->Prop):gX [] K .normal T H=K (.tuple []) H:=by
 simp only[gX,mi,cE]; rfl
end Go.Abs.S
namespace Go.Abs.S
open Go.Abs
def bM(l:List (List UInt8)):List af:=l.map .str
theorem dB{l:List (List UInt8)}{i:Nat}{s:List UInt8}(h:l[i]?=some s):(bM l)[i]?=some (.str s):=by simp[bM,h]
end Go.Abs.S
namespace Go.Abs.S
open Go.Abs Go.WideShapes Go.ChangeShapes
variable {H:Type} {enc:TypeId×Value->H}
end Go.Abs.S
namespace Go.Abs.S
open Go.Abs Go.WideShapes Go.ChangeShapes
variable {H:Type} {enc:TypeId×Value->H}
end Go.Abs.S
namespace Go.Abs.S
open Go.Abs Go.WideShapes Go.ChangeShapes
variable {H:Type} {enc:TypeId×Value->H}
end Go.Abs.S
namespace Go.Abs.S
open Go.Abs
def dq(m n:Nat)(H:ae)(s:af)(L:List af)(k:Nat):Prop:=
 (s=cj/\L=[]/\k=0)∨∃b low,s=.slice (some ⟨b,L.length,0⟩) k (.open_ m)/\L.length=m*k/\n<=b/\b<H.next/\H.get b=some (.cells L low false)/\low<=L.length/\0<k
theorem dq.nil(m n:Nat)(H:ae):dq m n H cj [] 0:=.inl ⟨rfl,rfl,rfl⟩
theorem dq.ext{m n k:Nat}{H H':ae}{s:af}{L:List af}(h:dq m n H s L k)(e:bw H.next H H'):dq m n H' s L k:=by
 rcases h with h | ⟨b,low,h1,h2,h3,h4,h5,h6⟩
 ·exact .inl h
 ·exact .inr ⟨b,low,h1,h2,h3,NN h4 e.next,(e.old b h4).trans h5,h6⟩
theorem dq.len{m n k:Nat}{H:ae}{s:af}{L:List af}(h:dq m n H s L k):fD false s=some (.int .i64 (k:Int)):=by
 rcases h with⟨rfl,_,rfl⟩ | ⟨b,low,rfl,_⟩ <;> rfl
theorem dq.blk{m n k:Nat}{H:ae}{s:af}{L:List af}(h:dq m n H s L k):∀a j r,s=.slice (some a) j r->a.b<H.next:=by
 intro a j r he
 rcases h with⟨rfl,_⟩ | ⟨b,low,rfl,_,_,h4,_⟩
 ·simp[cj]at he
 ·simp only[af.slice.injEq,sJ]at he
  rw[<- he.1]; exact h4
def po(H:ae)(m:Nat):af:=.slice (some ⟨H.next,m,0⟩) 1 (.known 1)
theorem p7{m:Nat}{z xs:List af}(H:ae)(hz:z.length=m)(hx:xs.length=m):bU 1 z H [(0,m,.agg xs)]=some (po H m,H.push (.cells xs 0 false)):=by
 subst hz
 have hb:Nat.beq xs.length z.length=true:=by rw[hx]; exact Nat.beq_refl _
 simp only[bU,lp,List.append_nil,kq,sx,hx,Nat.beq_refl,Nat.zero_add,NB rL,Bool.and_self,cond_true,oX,List.take_zero,List.nil_append,List.drop_length,List.append_nil,po]
theorem Di{m:Nat}{xs:List af}(H:ae)(hx:xs.length=m):iB m (H.push (.cells xs 0 false)) (po H m)=some (1,xs):=by
 subst hx
 have:=ew (H:=H.push (.cells xs 0 false)) (b:=H.next) (l:=xs) (low:=0) (ro:=false) (by rw[ae.get_push,if_pos rfl]) (Nat.zero_le _)
 simp only[iB,po,Nat.one_mul,this]
theorem dq.push{m n k:Nat}{H:ae}{s:af}{L:List af}(h:dq m n H s L k)(hn:n<=H.next){xs:List af}(hx:xs.length=m)(ho:xs.all af.one=true)(hm:0<m){bytes:Nat}(hb:2*(k+1)*bytes<=281474976710656)(hb1:0<bytes) :
  ∃s' H',bD m bytes (H.push (.cells xs 0 false)) s (po H m)=some (s',H')/\dq m n H' s' (L++xs) (k+1)/\bw n H H'/\∀c,c<H.next->(∀a j r,s=.slice (some a) j r->c≠a.b)->H'.get c=H.get c:=by
 have hlen:k+1<=9223372036854775807:=by
  have:2*(k+1)<=2*(k+1)*bytes:=Nat.le_mul_of_pos_right _ hb1
  omega
 have hlt:Nat.blt 0 m=true:=by simpa[Nat.blt_eq] using hm
 have c1:∀j,j=k->(Nat.blt 0 m&&(Nat.ble ((2*(j+1)+0)*bytes) 281474976710656&&(Nat.ble (j+1) 9223372036854775807&&(Nat.beq xs.length (1*m)&&xs.all af.one))))=true:=by
  intro j hj
  subst hj
  simp only[Nat.add_zero,NB hb,NB hlen,hx,Nat.one_mul,Nat.beq_refl,ho,hlt,Bool.and_self]
 rcases h with⟨rfl,rfl,rfl⟩ | ⟨b,low,rfl,h2,h3,h4,h5,h6,h7⟩
 ·refine⟨.slice (some ⟨H.next+1,m,0⟩) 1 (.open_ m),(H.push (.cells xs 0 false)).push (.cells xs 0 false),?_,.inr ⟨H.next+1,0,by simp[hx],by simp[hx],om,Nat.lt_succ_self _,?_,Nat.zero_le _,om⟩,((bw.refl n H).push hn _).push (by rw[aN]; omega) _,fun c hc _=>by rw[ae.get_push,if_neg (by rw[aN]; omega),aS hc]⟩
  ·simp only[bD,Di H hx,cj]
   rw[show Nat.beq 1 0=false from rfl,cond_false,c1 0 rfl,cond_true,hx]
   rfl
  ·rw[ae.get_push]; exact if_pos rfl
 ·have hg:(H.push (.cells xs 0 false)).get b=some (.cells L low false):=by rw[ae.get_push,if_neg om]; exact h5
  have hgrow:cD (H.push (.cells xs 0 false)) ⟨b,L.length,0⟩ L.length xs=some ((H.push (.cells xs 0 false)).set b (.cells (L++xs) low false)):=by
   unfold cD
   simp only[hg,NB h6,NB rL,NB (Nat.zero_le _),NB (show L.length+1<=L.length+xs.length by omega),Nat.beq_refl,ho,Bool.and_self,cond_true,List.take_length]
  refine⟨.slice (some ⟨b,L.length+m,0⟩) (k+1) (.open_ m),(H.push (.cells xs 0 false)).set b (.cells (L++xs) low false),?_,.inr ⟨b,low,by simp[hx],by rw[lA,h2,hx,Nat.mul_add,Nat.mul_one],h3,by rw[hY,aN]; omega,by rw[ae.get_set,if_pos rfl],by simp; omega,om⟩,((bw.refl n H).push hn _).set h3 _,fun c hc hd=>by rw[ae.get_set,if_neg (hd _ _ _ rfl),aS hc]⟩
  have e0:0+k*m=L.length:=by rw[h2,Nat.mul_comm]; omega
  have e1:Nat.ble (0+(k+1)*m) L.length=false:=by
   rw[iZ]; refine decide_eq_false ?_
   rw[Nat.add_mul,Nat.one_mul]; omega
  simp only[bD,Di H hx]
  rw[show Nat.beq 1 0=false from rfl,cond_false,c1 k rfl,cond_true]
  simp only[Nat.beq_refl,cond_true,e1,cond_false,e0,hgrow,hx]
theorem M3{b lim k m:Nat}(K:IntKind){i:Nat}(h:i<k):gi m (.slice (some ⟨b,lim,0⟩) k (.open_ m)) (.int K (i:Int))=some (ak b lim (i*m)):=by
 show (bif Nat.blt i k then some (af.ptr (some ⟨b,lim,0+i*m⟩)) else none)=_
 have:Nat.blt i k=true:=by simpa[Nat.blt_eq] using h
 rw[this,Nat.zero_add]; rfl
end Go.Abs.S
namespace Go.Abs.S
open Go.Abs
def dP(v:af)(P:Nat->Prop):Prop:=∀a m r,v=.slice (some a) m r->P a.b
theorem dP.mono{v:af}{P Q:Nat->Prop}(h:dP v P)(k:∀b,P b->Q b):dP v Q:=fun a m r e=>k _ (h a m r e)
theorem GV{s:af}(h:LC s=true):s.one=true:=by
 rcases mL h with rfl | ⟨a,rfl⟩ <;> rfl
theorem oz(P:Nat->Prop):dP cj P:=by intro a m r h; simp[cj]at h
theorem fo{a:Ad}{m:Nat}{r:qR}{P:Nat->Prop}(h:P a.b):dP (.slice (some a) m r) P:=by
 intro a' m' r' e
 simp only[af.slice.injEq,sJ]at e
 rw[<- e.1]; exact h
theorem dP.and{v:af}{P Q:Nat->Prop}(h:dP v P)(k:dP v Q):dP v fun b=>P b/\Q b:=fun a m r e=>⟨h a m r e,k a m r e⟩
theorem xu{H:ae}{b n:Nat}{l:List af}(h:Row H b l)(hn:l.length=n){i k:Nat}(hik:i+k<=n):aT H ⟨b,n,i⟩ k=some ((l.drop i).take k):=by
 subst hn
 obtain⟨low,h1,h2⟩:=h
 unfold aT
 simp only[h1,NB h2,NB rL,NB hik,Bool.and_self,cond_true]
theorem my{H:ae}{b n:Nat}{l:List af}(h:Row H b l)(hn:l.length=n){i k:Nat}(hik:i+k<=n):bg true k H (ak b n i)=some (.agg ((l.drop i).take k)):=by
 simp only[bg,ak,xu h hn hik,cond_true]
theorem aF(b n i o:Nat):gj o (ak b n i)=some (ak b n (i+o)):=_root_.id rfl
theorem aG(b n i:Nat):b6 (ak b n i)=some (ak b n i):=_root_.id rfl
theorem dq.blk'{m n k:Nat}{H:ae}{s:af}{L:List af}(h:dq m n H s L k):dP s (·<H.next):=fun a j r e=>h.blk a j r e
theorem dq.same{m n k:Nat}{H H':ae}{s:af}{L:List af}(h:dq m n H s L k)(hn:H.next<=H'.next)(e:dP s fun b=>H'.get b=H.get b):dq m n H' s L k:=by
 rcases h with h | ⟨b,low,rfl,h2,h3,h4,h5,h6,h7⟩
 ·exact .inl h
 ·exact .inr ⟨b,low,rfl,h2,h3,om,(e _ _ _ rfl).trans h5,h6,h7⟩
theorem dq.one{m n k:Nat}{H:ae}{s:af}{L:List af}(h:dq m n H s L k):s.one=true:=by
 rcases h with⟨rfl,_⟩ | ⟨b,low,rfl,_⟩ <;> rfl
theorem dq.pushB{m k:Nat}{H:ae}{s:af}{L:List af}(h:dq m 0 H s L k){xs:List af}(hx:xs.length=m)(ho:xs.all af.one=true)(hm:0<m){bytes:Nat}(hb:2*(k+1)*bytes<=281474976710656)(hb1:0<bytes) :
  ∃s' H',bD m bytes (H.push (.cells xs 0 false)) s (po H m)=some (s',H')/\dq m 0 H' s' (L++xs) (k+1)/\H.next<=H'.next/\(∀P,dP s P->dP s' fun b=>P b∨H.next<=b)/\∀c,c<H.next->dP s (c≠·)->H'.get c=H.get c:=by
 rcases h with⟨rfl,rfl,rfl⟩ | ⟨b,low,rfl,h2,h3,h4,h5,h6,h7⟩
 ·obtain⟨s',H',h1,h2,h3,h4⟩:=(dq.nil m H.next H).push rL hx ho hm hb hb1
  refine⟨s',H',h1,?_,h3.next,fun P _=>?_,fun c hc _=>h3.old c hc⟩
  ·rcases h2 with h2 | ⟨b,low,e1,e2,e3,e4,e5,e6,e7⟩
   ·exact .inl h2
   ·exact .inr ⟨b,low,e1,e2,Nat.zero_le _,e4,e5,e6,e7⟩
  ·rcases h2 with⟨_,_,h2⟩ | ⟨b,low,rfl,e2,e3,e4,e5,e6,e7⟩
   ·omega
   ·exact fo (.inr e3)
 ·have h0:dq m 0 H (.slice (some ⟨b,L.length,0⟩) k (.open_ m)) L k:=.inr ⟨b,low,rfl,h2,h3,h4,h5,h6,h7⟩
  have hb':dq m b H (.slice (some ⟨b,L.length,0⟩) k (.open_ m)) L k:=.inr ⟨b,low,rfl,h2,Nat.le_refl _,h4,h5,h6,h7⟩
  have hlen:k+1<=9223372036854775807:=by
   have:2*(k+1)<=2*(k+1)*bytes:=Nat.le_mul_of_pos_right _ hb1
   omega
  have hlt:Nat.blt 0 m=true:=by simpa[Nat.blt_eq] using hm
  have c1:(Nat.blt 0 m&&(Nat.ble ((2*(k+1)+0)*bytes) 281474976710656&&(Nat.ble (k+1) 9223372036854775807&&(Nat.beq xs.length (1*m)&&xs.all af.one))))=true:=by
   simp only[Nat.add_zero,NB hb,NB hlen,hx,Nat.one_mul,Nat.beq_refl,ho,hlt,Bool.and_self]
  have hg:(H.push (.cells xs 0 false)).get b=some (.cells L low false):=by rw[ae.get_push,if_neg om]; exact h5
  have hgrow:cD (H.push (.cells xs 0 false)) ⟨b,L.length,0⟩ L.length xs=some ((H.push (.cells xs 0 false)).set b (.cells (L++xs) low false)):=by
   unfold cD
   simp only[hg,NB h6,NB rL,NB (Nat.zero_le _),NB (show L.length+1<=L.length+xs.length by omega),Nat.beq_refl,ho,Bool.and_self,cond_true,List.take_length]
  have e0:0+k*m=L.length:=by rw[h2,Nat.mul_comm]; omega
  have e1:Nat.ble (0+(k+1)*m) L.length=false:=by
   rw[iZ]; refine decide_eq_false ?_
   rw[Nat.add_mul,Nat.one_mul]; omega
  refine⟨.slice (some ⟨b,L.length+m,0⟩) (k+1) (.open_ m),(H.push (.cells xs 0 false)).set b (.cells (L++xs) low false),?_,.inr ⟨b,low,by simp[hx],by rw[lA,h2,hx,Nat.mul_add,Nat.mul_one],Nat.zero_le _,by rw[hY,aN]; omega,by rw[ae.get_set,if_pos rfl],by simp; omega,om⟩,by rw[hY,aN]; omega,fun P hP=>(have hP2:P b:=hP _ _ _ rfl; fo (.inl hP2)),fun c hc hd=>by rw[ae.get_set,if_neg (hd _ _ _ rfl),aS hc]⟩
  simp only[bD,Di H hx]
  rw[show Nat.beq 1 0=false from rfl,cond_false,c1,cond_true]
  simp only[Nat.beq_refl,cond_true,e1,cond_false,e0,hgrow,hx]
end Go.Abs.S
namespace Go.Abs.S
open Go.Abs
def qD(m n:Nat)(H:ae)(s:af)(L:List af)(k:Nat):Prop:=
 dq m n H s L k∨∃b cap low C,s=.slice (some ⟨b,C.length,0⟩) k (.known cap)/\H.get b=some (.cells C low false)/\low<=C.length/\C.length=cap*m/\C.take (k*m)=L/\L.length=k*m/\k<=cap/\b<H.next/\n<=b
theorem qD.make{m bytes cap:Nat}{z:List af}(H:ae)(hz:z.length=m)(hb:bytes*cap<=281474976710656)(hc:cap<=1000000){n:Nat}(hn:n<=H.next) :
  ∃s H',gh bytes z H (.int .i64 (0:Int)) (.int .i64 (cap:Int))=some (s,H')/\qD m n H' s [] 0/\bw H.next H H'/\H'.next=H.next+1/\dP s (·=H.next):=by
 have hr:(lp z cap).length=cap*m:=by
  clear hb hc
  induction cap with
  | zero=>simp[lp]
  | succ k ih=>simp only[lp,lA,ih,hz,Nat.add_mul]; omega
 refine⟨.slice (some ⟨H.next,(lp z cap).length,0⟩) 0 (.known cap),H.push (.cells (lp z cap) 0 false),?_,.inr ⟨H.next,cap,0,lp z cap,rfl,by rw[ae.get_push,if_pos rfl],Nat.zero_le _,hr,by simp,by simp,Nat.zero_le _,Nat.lt_succ_self _,hn⟩,(bw.refl _ H).push rL _,rfl,fo rfl⟩
 have h0:dV (.int .i64 (0:Int))=some 0:=rfl
 have h1:dV (.int .i64 (cap:Int))=some cap:=by
  show dV (.int .i64 (Int.ofNat cap))=some cap
  simp only[dV,NB (show cap<=9223372036854775807 by omega),cond_true]
 simp only[gh,h0,h1,NB (Nat.zero_le _),NB hb,Bool.and_self,cond_true]
theorem qD.len{m n k:Nat}{H:ae}{s:af}{L:List af}(h:qD m n H s L k):fD false s=some (.int .i64 (k:Int)):=by
 rcases h with h | ⟨b,cap,low,C,rfl,_⟩
 ·exact h.len
 ·rfl
theorem qD.same{m k:Nat}{H H':ae}{s:af}{L:List af}(h:qD m 0 H s L k)(hn:H.next<=H'.next)(e:dP s fun c=>H'.get c=H.get c):qD m 0 H' s L k:=by
 rcases h with h | ⟨b,cap,low,C,rfl,h2,h3,h4,h5,h6,h7,h8,h9⟩
 ·exact .inl (h.same hn e)
 ·exact .inr ⟨b,cap,low,C,rfl,(e _ _ _ rfl).trans h2,h3,h4,h5,h6,h7,om,h9⟩
theorem qD.blk{m n k:Nat}{H:ae}{s:af}{L:List af}(h:qD m n H s L k):dP s (·<H.next):=by
 rcases h with h | ⟨b,cap,low,C,rfl,h2,h3,h4,h5,h6,h7,h8,h9⟩
 ·exact h.blk'
 ·exact fo h8
theorem qD.push{m k:Nat}{H:ae}{s:af}{L:List af}(h:qD m 0 H s L k){xs:List af}(hx:xs.length=m)(ho:xs.all af.one=true)(hm:0<m){bytes:Nat}(hb:2*(k+1)*bytes<=281474976710656)(hb1:0<bytes) :
  ∃s' H',bD m bytes (H.push (.cells xs 0 false)) s (po H m)=some (s',H')/\qD m 0 H' s' (L++xs) (k+1)/\H.next<=H'.next/\(∀P,dP s P->dP s' fun b=>P b∨H.next<=b)/\∀c,c<H.next->dP s (c≠·)->H'.get c=H.get c:=by
 rcases h with h | ⟨b,cap,low,C,rfl,h2,h3,h4,h5,h6,h7,h8,h9⟩
 ·obtain⟨s',H',e1,e2,e3,e4,e5⟩:=h.pushB hx ho hm hb hb1
  exact⟨s',H',e1,.inl e2,e3,e4,e5⟩
 ·have hlen:k+1<=9223372036854775807:=by
   have:2*(k+1)<=2*(k+1)*bytes:=Nat.le_mul_of_pos_right _ hb1
   omega
  have hlt:Nat.blt 0 m=true:=by simpa[Nat.blt_eq] using hm
  have c1:(Nat.blt 0 m&&(Nat.ble ((2*(k+1)+0)*bytes) 281474976710656&&(Nat.ble (k+1) 9223372036854775807&&(Nat.beq xs.length (1*m)&&xs.all af.one))))=true:=by
   simp only[Nat.add_zero,NB hb,NB hlen,hx,Nat.one_mul,Nat.beq_refl,ho,hlt,Bool.and_self]
  have hg:(H.push (.cells xs 0 false)).get b=some (.cells C low false):=by rw[ae.get_push,if_neg om]; exact h2
  by_cases hin:k+1<=cap
  ·have hle:k*m+m<=C.length:=by
    have:(k+1)*m<=cap*m:=Nat.mul_le_mul_right _ hin
    rw[Nat.add_mul,Nat.one_mul]at this; omega
   have hw:cG (H.push (.cells xs 0 false)) ⟨b,C.length,0+k*m⟩ xs=some ((H.push (.cells xs 0 false)).set b (.cells (C.take (k*m)++(xs++C.drop (k*m+m))) C.length false)):=by
    unfold cG
    simp only[hg,NB h3,Nat.beq_refl,Nat.zero_add,hx,NB hle,ho,Bool.and_self,cond_true]
   have hl2:(C.take (k*m)++(xs++C.drop (k*m+m))).length=C.length:=by simp[hx]; omega
   refine⟨.slice (some ⟨b,C.length,0⟩) (k+1) (.known cap),(H.push (.cells xs 0 false)).set b (.cells (C.take (k*m)++(xs++C.drop (k*m+m))) C.length false),?_,.inr ⟨b,cap,C.length,C.take (k*m)++(xs++C.drop (k*m+m)),by rw[hl2],by rw[ae.get_set,if_pos rfl],om,by rw[hl2]; exact h4,?_,by simp[h6,hx,Nat.add_mul],hin,by rw[hY,aN]; omega,h9⟩,by rw[hY,aN]; omega,fun P hP=>(have hP2:P b:=hP _ _ _ rfl; fo (.inl hP2)),fun c hc hd=>by rw[ae.get_set,if_neg (hd _ _ _ rfl),aS hc]⟩
   ·simp only[bD,Di H hx]
    rw[show Nat.beq 1 0=false from rfl,cond_false,c1,cond_true]
    simp only[NB hin,cond_true,hw]
   ·have e:(k+1)*m=(L++xs).length:=by simp[h6,hx,Nat.add_mul]
    rw[h5,<- NM,e,List.take_left]
  ·have hk:k=cap:=om
   have hL:L=C:=by rw[<- h5,hk,<- h4,List.take_length]
   have hr:aT (H.push (.cells xs 0 false)) ⟨b,C.length,0⟩ (k*m)=some L:=by
    have:=xu (H:=H.push (.cells xs 0 false)) ⟨low,hg,h3⟩ rfl (i:=0) (k:=k*m) (by rw[hk]; omega)
    rw[this,List.drop_zero,h5]
   refine⟨.slice (some ⟨H.next+1,(L++xs).length,0⟩) (k+1) (.open_ m),(H.push (.cells xs 0 false)).push (.cells (L++xs) 0 false),?_,.inl (.inr ⟨H.next+1,0,rfl,by simp[h6,hx,Nat.mul_comm m,Nat.add_mul],Nat.zero_le _,Nat.lt_succ_self _,by rw[ae.get_push]; exact if_pos rfl,Nat.zero_le _,om⟩),by simp only[aN]; omega,fun P _=>fo (.inr (Nat.le_succ _)),fun c hc _=>by rw[ae.get_push,if_neg (by rw[aN]; omega),aS hc]⟩
   simp only[bD,Di H hx]
   rw[show Nat.beq 1 0=false from rfl,cond_false,c1,cond_true]
   have e1:Nat.ble (k+1) cap=false:=by rw[iZ]; exact decide_eq_false om
   simp only[e1,cond_false,hr,aN]
theorem qD.at{m n k:Nat}{H:ae}{s:af}{L:List af}(h:qD m n H s L k){i:Nat}(hi:i<k):∃b lim,gi m s (.int .i64 (i:Int))=some (ak b lim (i*m))/\bg true m H (ak b lim (i*m))=some (.agg ((L.drop (i*m)).take m)):=by
 have him:i*m+m<=k*m:=by
  have:(i+1)*m<=k*m:=Nat.mul_le_mul_right _ hi
  rwa [Nat.add_mul,Nat.one_mul]at this
 have hb:Nat.blt i k=true:=by simpa[Nat.blt_eq] using hi
 rcases h with h | ⟨b,cap,low,C,rfl,h2,h3,h4,h5,h6,h7,h8,h9⟩
 ·rcases h with⟨_,_,h⟩ | ⟨b,low,rfl,h2,h3,h4,h5,h6,h7⟩
  ·omega
  ·exact⟨b,L.length,M3 .i64 hi,my ⟨low,h5,h6⟩ rfl (by rw[h2,Nat.mul_comm m]; exact him)⟩
 ·refine⟨b,C.length,?_,?_⟩
  ·show (bif Nat.blt i k then some (af.ptr (some ⟨b,C.length,0+i*m⟩)) else none)=_
   rw[hb,Nat.zero_add]; rfl
  ·have hle:k*m<=C.length:=by rw[h4]; exact Nat.mul_le_mul_right _ h7
   rw[my ⟨low,h2,h3⟩ rfl om]
   congr 2
   rw[<- h5,List.drop_take,List.take_take,Nat.min_eq_left om]
theorem dS(l:List (List UInt8)):(bM l).length=l.length:=by simp[bM]
theorem ri(l:List (List UInt8))(s:List UInt8):bM (l++[s])=bM l++[.str s]:=by simp[bM]
theorem Hu{C:CS}{a b:bC}{Q:kV}{T:bK}{H:ae}(F:bK->ae->Prop)(hC:mg C)(h:wp C a (jg Q F) T H)(k:∀T H,F T H->wp C b Q T H):wp C (.seq a b) Q T H:=by
 rw[yE]
 exact oI hC a (iO (fun _ _ _ h=>h) k) h
end Go.Abs.S
namespace Go.Abs.S
open Go.Abs
def hold(c:bC):bC:=c
theorem FD:aeq cj cj=true:=rfl
end Go.Abs.S
namespace Go.Abs.S
open Go.Abs
theorem sW:type_of% (And.intro (And.intro (And.intro (And.intro (And.intro (And.intro (And.intro (@xB) (@oQ)) (And.intro (@yY) (@yZ))) (And.intro (And.intro (@yX) (@Aw)) (@CZ))) (And.intro (And.intro (And.intro (@eq_self.{1}) (@decide_true)) (@decide_false)) (And.intro (And.intro (@Bool.not_true) (@Bool.not_false)) (@Fl)))) (And.intro (And.intro (And.intro (And.intro (@Fk) (@Fj)) (And.intro (@Fi) (@Fh))) (And.intro (And.intro (@AP) (@Ff)) (@yE))) (And.intro (And.intro (And.intro (@AR) (@AQ)) (@Fe)) (And.intro (And.intro (@iN) (@pD)) (@rS))))) (And.intro (And.intro (And.intro (And.intro (And.intro (@pE) (@lQ)) (And.intro (@rT) (@sY))) (And.intro (And.intro (@sZ) (@sV)) (@vq))) (And.intro (And.intro (And.intro (@Fo) (@wA)) (@IE)) (And.intro (And.intro (@AU) (@Fq)) (@Fu)))) (And.intro (And.intro (And.intro (And.intro (@wD) (@qg)) (@AV)) (And.intro (And.intro (@wy) (@sH)) (@Fv))) (And.intro (And.intro (And.intro (@IA) (@AY)) (@sN)) (And.intro (And.intro (@sO) (@sI)) (@qe)))))) (And.intro (And.intro (And.intro (And.intro (And.intro (And.intro (@qd) (@IB)) (And.intro (@wz) (@sM))) (And.intro (And.intro (@wB) (@AX)) (@sK))) (And.intro (And.intro (And.intro (@Ft) (@AW)) (@qf)) (And.intro (And.intro (@sP) (@Fs)) (@AZ)))) (And.intro (And.intro (And.intro (And.intro (@wC) (@nI)) (@IC)) (And.intro (And.intro (@IF) (@Fm)) (@uy))) (And.intro (And.intro (And.intro (@uz) (@Kz)) (@KB)) (And.intro (And.intro (@KA) (@Ir)) (@EB))))) (And.intro (And.intro (And.intro (And.intro (And.intro (@EA) (@yP)) (And.intro (@HQ) (@ne_eq.{1}))) (And.intro (And.intro (@not_false_eq_true) (@af.bool.injEq)) (@decide_eq_true_eq))) (And.intro (And.intro (And.intro (@decide_eq_false_iff_not) (@Int.ofNat_eq_natCast)) (@Int.cast_ofNat_Int)) (And.intro (And.intro (@AH) (@AJ)) (@AK)))) (And.intro (And.intro (And.intro (And.intro (@AL) (@AM)) (@AF)) (And.intro (And.intro (@AN) (@AD)) (@AG))) (And.intro (And.intro (And.intro (@Bool.not_eq_true') (@Bool.not_eq_false')) (@Bool.true_eq_false)) (And.intro (And.intro (@Bool.false_eq_true) (@if_true.{1})) (@if_false.{1}))))))):=And.intro (And.intro (And.intro (And.intro (And.intro (And.intro (And.intro (@xB) (@oQ)) (And.intro (@yY) (@yZ))) (And.intro (And.intro (@yX) (@Aw)) (@CZ))) (And.intro (And.intro (And.intro (@eq_self.{1}) (@decide_true)) (@decide_false)) (And.intro (And.intro (@Bool.not_true) (@Bool.not_false)) (@Fl)))) (And.intro (And.intro (And.intro (And.intro (@Fk) (@Fj)) (And.intro (@Fi) (@Fh))) (And.intro (And.intro (@AP) (@Ff)) (@yE))) (And.intro (And.intro (And.intro (@AR) (@AQ)) (@Fe)) (And.intro (And.intro (@iN) (@pD)) (@rS))))) (And.intro (And.intro (And.intro (And.intro (And.intro (@pE) (@lQ)) (And.intro (@rT) (@sY))) (And.intro (And.intro (@sZ) (@sV)) (@vq))) (And.intro (And.intro (And.intro (@Fo) (@wA)) (@IE)) (And.intro (And.intro (@AU) (@Fq)) (@Fu)))) (And.intro (And.intro (And.intro (And.intro (@wD) (@qg)) (@AV)) (And.intro (And.intro (@wy) (@sH)) (@Fv))) (And.intro (And.intro (And.intro (@IA) (@AY)) (@sN)) (And.intro (And.intro (@sO) (@sI)) (@qe)))))) (And.intro (And.intro (And.intro (And.intro (And.intro (And.intro (@qd) (@IB)) (And.intro (@wz) (@sM))) (And.intro (And.intro (@wB) (@AX)) (@sK))) (And.intro (And.intro (And.intro (@Ft) (@AW)) (@qf)) (And.intro (And.intro (@sP) (@Fs)) (@AZ)))) (And.intro (And.intro (And.intro (And.intro (@wC) (@nI)) (@IC)) (And.intro (And.intro (@IF) (@Fm)) (@uy))) (And.intro (And.intro (And.intro (@uz) (@Kz)) (@KB)) (And.intro (And.intro (@KA) (@Ir)) (@EB))))) (And.intro (And.intro (And.intro (And.intro (And.intro (@EA) (@yP)) (And.intro (@HQ) (@ne_eq.{1}))) (And.intro (And.intro (@not_false_eq_true) (@af.bool.injEq)) (@decide_eq_true_eq))) (And.intro (And.intro (And.intro (@decide_eq_false_iff_not) (@Int.ofNat_eq_natCast)) (@Int.cast_ofNat_Int)) (And.intro (And.intro (@AH) (@AJ)) (@AK)))) (And.intro (And.intro (And.intro (And.intro (@AL) (@AM)) (@AF)) (And.intro (And.intro (@AN) (@AD)) (@AG))) (And.intro (And.intro (And.intro (@Bool.not_eq_true') (@Bool.not_eq_false')) (@Bool.true_eq_false)) (And.intro (And.intro (@Bool.false_eq_true) (@if_true.{1})) (@if_false.{1}))))))
theorem sL:type_of% (And.intro (And.intro (@List.nil_append.{0}) (@List.cons_append.{0})) (@List.append_nil.{0})):=And.intro (And.intro (@List.nil_append.{0}) (@List.cons_append.{0})) (@List.append_nil.{0})
theorem sR:type_of% (And.intro (And.intro (And.intro (And.intro (And.intro (And.intro (@sj) (@qz)) (@qA)) (And.intro (@qy) (@rQ))) (And.intro (And.intro (And.intro (@C6) (@uE)) (@yR)) (And.intro (@HU) (@C7)))) (And.intro (And.intro (And.intro (And.intro (@Da) (@uH)) (@oV)) (And.intro (@yS) (@uC))) (And.intro (And.intro (And.intro (@qY) (@Db)) (@HR)) (And.intro (@yV) (@re))))) (And.intro (And.intro (And.intro (And.intro (And.intro (@rf) (@qZ)) (@oT)) (And.intro (@oS) (@HS))) (And.intro (And.intro (And.intro (@uD) (@rc)) (@uF)) (And.intro (@yU) (@ra)))) (And.intro (And.intro (And.intro (And.intro (@C9) (@yT)) (@oU)) (And.intro (@rh) (@C8))) (And.intro (And.intro (And.intro (@yW) (@uG)) (@HT)) (And.intro (@HV) (@C5)))))):=And.intro (And.intro (And.intro (And.intro (And.intro (And.intro (@sj) (@qz)) (@qA)) (And.intro (@qy) (@rQ))) (And.intro (And.intro (And.intro (@C6) (@uE)) (@yR)) (And.intro (@HU) (@C7)))) (And.intro (And.intro (And.intro (And.intro (@Da) (@uH)) (@oV)) (And.intro (@yS) (@uC))) (And.intro (And.intro (And.intro (@qY) (@Db)) (@HR)) (And.intro (@yV) (@re))))) (And.intro (And.intro (And.intro (And.intro (And.intro (@rf) (@qZ)) (@oT)) (And.intro (@oS) (@HS))) (And.intro (And.intro (And.intro (@uD) (@rc)) (@uF)) (And.intro (@yU) (@ra)))) (And.intro (And.intro (And.intro (And.intro (@C9) (@yT)) (@oU)) (And.intro (@rh) (@C8))) (And.intro (And.intro (And.intro (@yW) (@uG)) (@HT)) (And.intro (@HV) (@C5)))))
theorem HX(T:bK):nu T []=[]:=_root_.id rfl
theorem HY(T:bK)(x:bb)(r:List bb):nu T (x::r)=sX T x::nu T r:=_root_.id rfl
theorem Ic(T:bK):mh T none=none:=_root_.id rfl
theorem Ib(T:bK)(x:bb):mh T (some x)=some (sX T x):=_root_.id rfl
theorem HZ(T:bK):CA T []=[]:=_root_.id rfl
theorem Ia(T:bK)(o n:Nat)(x:bb)(r:List (Nat×Nat×bb)):CA T ((o,n,x)::r)=(o,n,sX T x)::CA T r:=_root_.id rfl
theorem sA:type_of% (And.intro sW (And.intro sL (And.intro @wt (And.intro @HX (And.intro @HY (And.intro @Ic (And.intro @Ib (And.intro @HZ @Ia)))))))):=And.intro sW (And.intro sL (And.intro @wt (And.intro @HX (And.intro @HY (And.intro @Ic (And.intro @Ib (And.intro @HZ @Ia)))))))
end Go.Abs.S
namespace Go.Abs.S
open Go.Abs
theorem yM(k:IntKind)(hk:k=.u8∨k=.u16∨k=.u32∨k=.u64)(a:Nat):k.wrap (a:Int)=((a % 2 ^ k.bits:Nat):Int):=by
 rcases hk with rfl | rfl | rfl | rfl
 ·rw[IntKind.wrap_u8]; simp only[IntKind.bits]; omega
 ·rw[IntKind.wrap_u16]; simp only[IntKind.bits]; omega
 ·rw[IntKind.wrap_u32]; simp only[IntKind.bits]; omega
 ·rw[IntKind.wrap_u64]; simp only[IntKind.bits]; omega
theorem dq.many{m k j:Nat}{H:ae}{s x:af}{L xs:List af}(h:dq m 0 H s L k)(hs:iB m H x=some (j,xs))(hx:xs.length=m*j)(ho:xs.all af.one=true)(hm:0<m){bytes:Nat}(hb:2*(k+j)*bytes<=281474976710656)(hb1:0<bytes) :
  ∃s' H',bD m bytes H s x=some (s',H')/\dq m 0 H' s' (L++xs) (k+j)/\H.next<=H'.next/\(∀P,dP s P->dP s' fun b=>P b∨H.next<=b)/\∀c,c<H.next->dP s (c≠·)->H'.get c=H.get c:=by
 by_cases hj:j=0
 ·subst hj
  have hxs:xs=[]:=List.length_eq_zero_iff.1 om
  subst hxs
  rw[List.append_nil,Nat.add_zero]
  refine⟨s,H,?_,h,Nat.le_refl _,fun P hP=>hP.mono fun b hb=>.inl hb,fun _ _ _=>rfl⟩
  simp only[bD,hs,show Nat.beq 0 0=true from rfl,cond_true]
  rcases h with⟨rfl,_⟩ | ⟨b,low,rfl,_⟩ <;> rfl
 have hxl:0<xs.length:=by rw[hx]; exact Nat.mul_pos hm om
 have hlen:k+j<=9223372036854775807:=by
  have:2*(k+j)<=2*(k+j)*bytes:=Nat.le_mul_of_pos_right _ hb1
  omega
 have hlt:Nat.blt 0 m=true:=by simpa[Nat.blt_eq] using hm
 have e0:Nat.beq j 0=false:=by rw[dy]; exact decide_eq_false hj
 have c1:∀q,q=k->(Nat.blt 0 m&&(Nat.ble ((2*(q+j)+0)*bytes) 281474976710656&&(Nat.ble (q+j) 9223372036854775807&&(Nat.beq xs.length (j*m)&&xs.all af.one))))=true:=by
  intro q hq
  subst hq
  simp only[Nat.add_zero,NB hb,NB hlen,hx,Nat.mul_comm m j,Nat.beq_refl,ho,hlt,Bool.and_self]
 rcases h with⟨rfl,rfl,rfl⟩ | ⟨b,low,rfl,h2,h3,h4,h5,h6,h7⟩
 ·refine⟨.slice (some ⟨H.next,xs.length,0⟩) j (.open_ m),H.push (.cells xs 0 false),?_,.inr ⟨H.next,0,by simp,by simp[hx],Nat.zero_le _,Nat.lt_succ_self _,by rw[ae.get_push]; exact if_pos rfl,Nat.zero_le _,om⟩,by simp[ae.push],fun P _=>fo (.inr rL),fun c hc _=>aS hc⟩
  simp only[bD,hs,e0,cond_false,cj]
  rw[c1 0 rfl,cond_true]
 ·have hgrow:cD H ⟨b,L.length,0⟩ L.length xs=some (H.set b (.cells (L++xs) low false)):=by
   unfold cD
   simp only[h5,NB h6,NB rL,NB (Nat.zero_le _),NB (show L.length+1<=L.length+xs.length by omega),Nat.beq_refl,ho,Bool.and_self,cond_true,List.take_length]
  have e1:0+k*m=L.length:=by rw[h2,Nat.mul_comm]; omega
  have e2:Nat.ble (0+(k+j)*m) L.length=false:=by
   rw[iZ]; refine decide_eq_false ?_
   rw[Nat.add_mul,h2,Nat.mul_comm k m]
   have:0<j*m:=Nat.mul_pos om hm
   omega
  refine⟨.slice (some ⟨b,L.length+xs.length,0⟩) (k+j) (.open_ m),H.set b (.cells (L++xs) low false),?_,.inr ⟨b,low,by simp,by rw[lA,h2,hx,Nat.mul_add],Nat.zero_le _,by rw[hY]; exact h4,by rw[ae.get_set,if_pos rfl],by simp; omega,om⟩,Nat.le_refl _,fun P hP=>(have hP2:P b:=hP _ _ _ rfl; fo (.inl hP2)),fun c hc hd=>by rw[ae.get_set,if_neg (hd _ _ _ rfl)]⟩
  simp only[bD,hs,e0,cond_false,c1 k rfl,cond_true,Nat.beq_refl,e1,e2,hgrow]
end Go.Abs.S
namespace Go.Abs.S
open Go.Abs
end Go.Abs.S
namespace Go.Abs.S
open Go.Abs
end Go.Abs.S
namespace Go.Abs.S
open Go.Abs
end Go.Abs.S
namespace Go.Abs.S
open Go.Abs
end Go.Abs.S
namespace Go.Abs.S
open Go.Abs Go.WideShapes Go.ChangeShapes
variable {H:Type} {enc:TypeId×Value->H}
end Go.Abs.S
namespace Go.Abs.S
open Go.Abs
abbrev zi(n:Nat):bb:=.c (.int .i64 (.ofNat n))
abbrev zu(n:Nat):bb:=.c (.int .u8 (.ofNat n))
abbrev zn:bb:=.c (.slice none 0 (.known 0))
abbrev zI(n:Nat):af:=.int .i64 (.ofNat n)
abbrev zU(n:Nat):af:=.int .u8 (.ofNat n)
abbrev zN:af:=.slice none 0 (.known 0)
abbrev zo(d:Nat)(p:gn):aj:=⟨some d,p,none⟩
abbrev zp(p:gn):aj:=⟨none,p,none⟩
abbrev zg(d:Nat)(p:gn)(t:Nat)(b:Bool):aj:=⟨some d,p,some (t,b)⟩
abbrev zm(d x:Nat):aj:=⟨some d,.mv (.t x),none⟩
abbrev zc(d x:Nat):aj:=⟨some d,.nilChk (.t x),none⟩
abbrev zf(d n x:Nat):aj:=⟨some d,.fieldA n (.t x),none⟩
abbrev zl(d x:Nat):aj:=⟨some d,.load false 1 (.t x),none⟩
abbrev zt(d n x:Nat):aj:=⟨some d,.load true n (.t x),none⟩
abbrev ze(d n x:Nat):aj:=⟨some d,.extract n (.t x),none⟩
abbrev zb(d:Nat)(o:BinOp)(x y:Nat):aj:=⟨some d,.bin o (.t x) (.t y),none⟩
abbrev zk(d:Nat)(o:BinOp)(x n:Nat):aj:=⟨some d,.bin o (.t x) (.c (.int .i64 (.ofNat n))),none⟩
abbrev zx(d f:Nat)(l:List bb):aj:=⟨some d,.call f l,none⟩
abbrev zh(d x:Nat):aj:=⟨some d,.len false (.t x),none⟩
abbrev zd(d x y:Nat):aj:=⟨some d,.idxA 1 (.t x) (.t y),none⟩
abbrev zy(d x y:Nat):aj:=⟨some d,.append 1 1 (.t x) (.t y),none⟩
abbrev zv(d:Nat)(k:IntKind)(x:Nat):aj:=⟨some d,.conv k (.t x),none⟩
abbrev zs(x y:Nat):aj:=⟨none,.store 1 (.t x) (.t y),none⟩
abbrev zq(l:List aj)(c:bC):bC:=.seq (.reg l) c
abbrev zr(l:List aj)(x:Nat)(a b c:bC):bC:=.seq (.seq (.reg l) (.cond (.t x) a b)) c
theorem HP(n:Nat):zI n=.int .i64 (n:Int):=_root_.id rfl
theorem HN(n:Nat):zU n=.int .u8 (n:Int):=_root_.id rfl
theorem HO:zN=.slice none 0 (.known 0):=_root_.id rfl
theorem sB:type_of% (And.intro @HP (And.intro @HN HO)):=And.intro @HP (And.intro @HN HO)
end Go.Abs.S
namespace Go.Proofs.Wo
open Go.Abs Go.Abs.S
noncomputable section
def c12:bW:=⟨8,zq [zo 4 (.mv (.c (.bool false)))] (zq [zm 5 0,zm 6 1,zx 7 35 [.t 5,.t 6],zm 4 7] .ret),[.t 4]⟩
theorem M0:cN Tryz.prog 12=some c12:=by kernel_rfl
def Nr:bW:=⟨18,zq [zo 4 (.mv (.c (.bool false)))] (zq [zm 5 0,zo 6 (.len true (.t 5)),zm 7 1,zo 8 (.len true (.t 7)),zb 9 .geq 6 8,zm 10 9,zg 11 (.mv (.t 0)) 10 true,zg 12 (.mv (.t 1)) 10 true,zg 13 (.len true (.t 12)) 10 true,zg 14 (.slStr (.t 11) none (some (.t 13))) 10 true,zg 15 (.mv (.t 1)) 10 true,zg 16 (.bin .eql (.t 14) (.t 15)) 10 true,zo 17 (.pick (.t 10) (.t 16) (.c (.bool false))),zm 4 17] .ret),[.t 4]⟩
theorem MJ:cN Tryz.prog 35=some Nr:=by kernel_rfl
def Ce:bW:=⟨47,zq [zo 1 (.box (.t 0)),zo 2 (.mv (.c (.map none)))] (zq [zl 7 1,zc 8 7,zf 9 0 8,zo 3 (.new [.ptr none]),zs 3 9] (zq [zo 10 (.hf .mkMap []),zo 11 (.mkFunc (.func 40) [] [.t 3]),zp (.hf (.mf (.upd .str)) [.t 10,.c (.str [115,105,122,101]),.t 11]),zo 12 (.mkFunc (.func 42) [] [.t 3]),zp (.hf (.mf (.upd .str)) [.t 10,.c (.str [115,97,109,112,108,101,115]),.t 12]),zo 13 (.mkFunc (.func 43) [] [.t 3]),zp (.hf (.mf (.upd .str)) [.t 10,.c (.str [98,111,117,110,99,101,115]),.t 13]),zo 14 (.mkFunc (.func 44) [] [.t 3]),zp (.hf (.mf (.upd .str)) [.t 10,.c (.str [115,101,101,100]),.t 14]),zo 15 (.mkFunc (.func 46) [] [.t 3]),zp (.hf (.mf (.upd .str)) [.t 10,.c (.str [101,121,101]),.t 15]),zo 16 (.mkFunc (.func 48) [] [.t 3]),zp (.hf (.mf (.upd .str)) [.t 10,.c (.str [97,116]),.t 16]),zo 17 (.mkFunc (.func 49) [] [.t 3]),zp (.hf (.mf (.upd .str)) [.t 10,.c (.str [117,112]),.t 17]),zo 18 (.mkFunc (.func 50) [] [.t 3]),zp (.hf (.mf (.upd .str)) [.t 10,.c (.str [119,105,100,101]),.t 18]),zo 19 (.mkFunc (.func 52) [] [.t 3]),zp (.hf (.mf (.upd .str)) [.t 10,.c (.str [115,107,121]),.t 19]),zm 20 10,zm 4 20] (.seq (zq [zm 21 4,zo 22 .bad] (.block 0 (.loop (zq [zo 23 .bad,ze 24 0 23] (.seq (.cond (.t 24) .skip (.exit 0)) (.block 1 (zq [zo 25 .bad,ze 26 0 25,ze 27 1 25,zo 5 (.new [.str []]),zo 6 (.new [.nilFunc]),zs 5 26,zs 6 27] (.reg [zm 28 4,zl 29 5,zo 30 (.mkFunc (.func 53) [] [.t 1,.t 5,.t 6]),zp (.hf (.mf (.upd .str)) [.t 28,.t 29,.t 30])])))))))) (zq [zm 31 4,zo 32 (.mkFunc (.func 54) [] [.t 1]),zp (.hf (.mf (.upd .str)) [.t 31,.c (.str [100,105,102,102,117,115,101]),.t 32])] (zq [zm 33 4,zo 34 (.mkFunc (.func 56) [] [.t 1]),zp (.hf (.mf (.upd .str)) [.t 33,.c (.str [109,105,114,114,111,114]),.t 34])] (zq [zm 35 4,zo 36 (.mkFunc (.func 57) [] [.t 1]),zp (.hf (.mf (.upd .str)) [.t 35,.c (.str [103,108,111,119]),.t 36])] (zq [zm 37 4,zl 38 1,zo 39 (.mkFunc (.func 58) [.t 38] []),zp (.hf (.mf (.upd .str)) [.t 37,.c (.str [115,104,97,100,101,114]),.t 39])] (zq [zm 40 4,zl 41 1,zo 42 (.mkFunc (.func 59) [.t 41] []),zp (.hf (.mf (.upd .str)) [.t 40,.c (.str [98,97,108,108]),.t 42])] (zq [zm 43 4,zl 44 1,zo 45 (.mkFunc (.func 60) [.t 44] []),zp (.hf (.mf (.upd .str)) [.t 43,.c (.str [109,101,115,104]),.t 45])] (zq [zm 46 4,zm 2 46] .ret)))))))))),[.t 2]⟩
def Na:bW:=⟨51,zq [zo 2 (.mv (zi 0)),zo 3 (.mv (.c (.bool false)))] (zr [zm 9 0,zo 10 (.bin .eql (.t 9) (.c (.str []))),zm 11 10,zg 12 (.mv (.t 0)) 11 false,zg 13 (.idxS (.t 12) (zi 0)) 11 false,zg 14 (.call 103 [.t 13]) 11 false,zg 15 (.un .not (.t 14)) 11 false,zo 16 (.pick (.t 11) (.c (.bool true)) (.t 15)),zm 17 16,zg 18 (.mv (.t 0)) 17 false,zg 19 (.call 104 [.t 18,zi 0]) 17 false,zg 20 (.mv (.t 0)) 17 false,zg 21 (.len true (.t 20)) 17 false,zg 22 (.bin .neq (.t 19) (.t 21)) 17 false,zo 23 (.pick (.t 17) (.c (.bool true)) (.t 22))] 23 (zq [zo 2 (.mv (zi 0)),zo 3 (.mv (.c (.bool false)))] .ret) .skip (zq [zm 25 0,zx 26 62 [.t 25,.c (.str [46])],zm 24 26,ze 27 0 24,ze 28 1 24,ze 29 2 24,zm 4 27,zm 5 28,zm 6 29] (zq [zo 7 (.mv (zi 0))] (.seq (zq [zm 30 4,zo 31 (.len true (.t 30)),zo 32 (.mv (zi 0))] (.block 0 (.loop (zq [zb 33 .lss 32 31] (.seq (.cond (.t 33) .skip (.exit 0)) (.seq (.block 1 (zq [zm 34 32,zm 8 34] (zq [zm 35 7,zk 36 .mul 35 10,zm 37 4,zm 38 8,zo 39 (.idxS (.t 37) (.t 38)),zo 40 (.bin .sub (.t 39) (zu 48)),zv 41 .i64 40,zb 42 .add 36 41,zm 7 42] (zq [zm 43 7,zk 44 .geq 43 2147483648] (.cond (.t 44) (zq [zo 2 (.mv (zi 0)),zo 3 (.mv (.c (.bool false)))] .ret) .skip))))) (.reg [zk 45 .add 32 1,zm 32 45]))))))) (zq [zm 46 7,zo 47 (.bin .shl (.t 46) (.c (.int .u64 (.ofNat 32)))),zm 48 5,zx 49 105 [.t 48],zb 50 .or 47 49,zm 2 50,zo 3 (.mv (.c (.bool true)))] .ret))))),[.t 2,.t 3]⟩
theorem LN:cN Tryz.prog 94=some Na:=by kernel_rfl
def Hj:bW:=⟨9,zq [zo 2 (.mv (.c (.bool false)))] (zq [zm 3 0,zo 4 (.bin .leq (zu 48) (.t 3)),zm 5 4,zg 6 (.mv (.t 0)) 5 true,zg 7 (.bin .leq (.t 6) (zu 57)) 5 true,zo 8 (.pick (.t 5) (.t 7) (.c (.bool false))),zm 2 8] .ret),[.t 2]⟩
theorem Kr:cN Tryz.prog 103=some Hj:=by kernel_rfl
def Lb:bW:=⟨36,zq [zo 4 (.mv (zi 0))] (zq [zm 7 0,zm 8 1,zx 9 111 [.t 7,.t 8,.f 103],zm 5 9] (zr [zm 10 5,zm 11 1,zb 12 .eql 10 11,zm 13 12,zg 14 (.mv (.t 5)) 13 false,zg 15 (.mv (.t 0)) 13 false,zg 16 (.len true (.t 15)) 13 false,zg 17 (.bin .eql (.t 14) (.t 16)) 13 false,zo 18 (.pick (.t 13) (.c (.bool true)) (.t 17)),zm 19 18,zg 20 (.mv (.t 0)) 19 false,zg 21 (.mv (.t 5)) 19 false,zg 22 (.idxS (.t 20) (.t 21)) 19 false,zg 23 (.bin .neq (.t 22) (zu 46)) 19 false,zo 24 (.pick (.t 19) (.c (.bool true)) (.t 23))] 24 (zq [zm 25 5,zm 4 25] .ret) .skip (.seq (zq [zm 26 0,zm 27 5,zk 28 .add 27 1,zx 29 111 [.t 26,.t 28,.f 103],zm 6 29] (zq [zm 30 6,zm 31 5,zk 32 .add 31 1,zb 33 .gtr 30 32] (.cond (.t 33) (zq [zm 34 6,zm 4 34] .ret) .skip))) (zq [zm 35 5,zm 4 35] .ret)))),[.t 4]⟩
theorem Kq:cN Tryz.prog 104=some Lb:=by kernel_rfl
def KZ:bW:=⟨21,zq [zo 6 (.mv (zi 0))] (.seq (.block 0 (.loop (zr [zm 7 1,zm 8 0,zo 9 (.len true (.t 8)),zb 10 .lss 7 9,zm 11 10,zg 12 (.mv (.t 2)) 11 true,zg 13 (.mv (.t 0)) 11 true,zg 14 (.mv (.t 1)) 11 true,zg 15 (.idxS (.t 13) (.t 14)) 11 true,zg 16 (.callv (.t 12) [.t 15]) 11 true,zo 17 (.pick (.t 11) (.t 16) (.c (.bool false)))] 17 .skip (.exit 0) (.block 1 (.reg [zm 18 1,zk 19 .add 18 1,zm 1 19]))))) (zq [zm 20 1,zm 6 20] .ret)),[.t 6]⟩
theorem Ko:cN Tryz.prog 111=some KZ:=by kernel_rfl
def Ng:bW:=⟨13,zq [zo 4 (.mv (.c (.str []))),zo 5 (.mv (.c (.str []))),zo 6 (.mv (.c (.bool false)))] (zq [zm 7 0,zm 8 1,zx 9 85 [.t 7,.t 8],ze 10 0 9,ze 11 1 9,ze 12 2 9,zm 4 10,zm 5 11,zm 6 12] .ret),[.t 4,.t 5,.t 6]⟩
theorem Kn:cN Tryz.prog 62=some Ng:=by kernel_rfl
def Nc:bW:=⟨23,zq [zo 4 (.mv (.c (.str []))),zo 5 (.mv (.c (.str []))),zo 6 (.mv (.c (.bool false)))] (.seq (zq [zm 8 0,zm 9 1,zx 10 99 [.t 8,.t 9],zm 7 10] (zq [zm 11 7,zk 12 .geq 11 0] (.cond (.t 12) (zq [zm 13 0,zm 14 7,zo 15 (.slStr (.t 13) none (some (.t 14))),zm 16 0,zm 17 7,zm 18 1,zo 19 (.len true (.t 18)),zb 20 .add 17 19,zo 21 (.slStr (.t 16) (some (.t 20)) none),zm 4 15,zm 5 21,zo 6 (.mv (.c (.bool true)))] .ret) .skip))) (zq [zm 22 0,zm 4 22,zo 5 (.mv (.c (.str []))),zo 6 (.mv (.c (.bool false)))] .ret)),[.t 4,.t 5,.t 6]⟩
theorem Km:cN Tryz.prog 85=some Nc:=by kernel_rfl
def KX:bW:=⟨143,zq [zo 4 (.mv (zi 0))] (zq [zm 14 1,zo 15 (.len true (.t 14)),zm 5 15] (.seq (.block 0 (zq [zm 17 5,zk 18 .eql 17 0,zm 19 18,zg 20 (.mv (.t 1)) 19 false,zg 21 (.mv (.t 0)) 19 false,zg 22 (.bin .eql (.t 20) (.t 21)) 19 false,zo 23 (.pick (.t 19) (.c (.bool true)) (.t 22)),zm 16 23] (.cond (.t 16) (zq [zo 4 (.mv (zi 0))] .ret) (zq [zm 25 5,zk 26 .eql 25 1,zm 24 26] (.cond (.t 24) (zq [zm 27 0,zm 28 1,zo 29 (.idxS (.t 28) (zi 0)),zx 30 107 [.t 27,.t 29],zm 4 30] .ret) (zq [zm 32 5,zm 33 0,zo 34 (.len true (.t 33)),zb 35 .geq 32 34,zm 31 35] (.cond (.t 31) (zq [zo 4 (.mv (.c (.int .i64 (.negSucc 0))))] .ret) (zq [zm 37 5,zo 38 (.hf (.gLd 1 false 1) []),zb 39 .leq 37 38,zm 40 39,zg 41 (.mv (.t 0)) 40 true,zg 42 (.len true (.t 41)) 40 true,zg 43 (.bin .leq (.t 42) (zi 64)) 40 true,zo 44 (.pick (.t 40) (.t 43) (.c (.bool false))),zm 36 44] (.cond (.t 36) (zq [zm 45 0,zm 46 1,zx 47 108 [.t 45,.t 46],zm 4 47] .ret) .skip))))))))) (zq [zm 48 1,zo 49 (.idxS (.t 48) (zi 0)),zm 6 49] (zq [zm 50 1,zo 51 (.idxS (.t 50) (zi 1)),zm 7 51] (zq [zo 8 (.mv (zi 0))] (zq [zm 52 0,zo 53 (.len true (.t 52)),zm 54 5,zb 55 .sub 53 54,zk 56 .add 55 1,zm 9 56] (zq [zo 10 (.mv (zi 0))] (.seq (.block 1 (.loop (zr [zm 57 8,zm 58 9,zb 59 .lss 57 58] 59 .skip (.exit 1) (.block 2 (zr [zm 60 0,zm 61 8,zo 62 (.idxS (.t 60) (.t 61)),zm 63 6,zb 64 .neq 62 63] 64 (zq [zm 65 0,zm 66 8,zk 67 .add 66 1,zm 68 9,zo 69 (.slStr (.t 65) (some (.t 67)) (some (.t 68))),zm 70 6,zx 71 107 [.t 69,.t 70],zm 11 71] (zr [zm 72 11,zk 73 .lss 72 0] 73 (zq [zo 4 (.mv (.c (.int .i64 (.negSucc 0))))] .ret) .skip (.reg [zm 74 8,zm 75 11,zk 76 .add 75 1,zb 77 .add 74 76,zm 8 77]))) .skip (zr [zm 78 0,zm 79 8,zk 80 .add 79 1,zo 81 (.idxS (.t 78) (.t 80)),zm 82 7,zb 83 .eql 81 82,zm 84 83,zg 85 (.mv (.t 0)) 84 true,zg 86 (.mv (.t 8)) 84 true,zg 87 (.mv (.t 8)) 84 true,zg 88 (.mv (.t 5)) 84 true,zg 89 (.bin .add (.t 87) (.t 88)) 84 true,zg 90 (.slStr (.t 85) (some (.t 86)) (some (.t 89))) 84 true,zg 91 (.mv (.t 1)) 84 true,zg 92 (.bin .eql (.t 90) (.t 91)) 84 true,zo 93 (.pick (.t 84) (.t 92) (.c (.bool false)))] 93 (zq [zm 94 8,zm 4 94] .ret) .skip (zq [zm 95 8,zk 96 .add 95 1,zm 8 96] (zq [zm 97 10,zk 98 .add 97 1,zm 10 98] (zq [zm 99 5,zo 100 (.hf (.gLd 1 false 1) []),zb 101 .leq 99 100,zm 102 101,zg 103 (.mv (.t 10)) 102 true,zg 104 (.mv (.t 8)) 102 true,zg 105 (.call 109 [.t 104]) 102 true,zg 106 (.bin .gtr (.t 103) (.t 105)) 102 true,zo 107 (.pick (.t 102) (.t 106) (.c (.bool false)))] (.cond (.t 107) (zq [zm 108 0,zm 109 8,zo 110 (.slStr (.t 108) (some (.t 109)) none),zm 111 1,zx 112 108 [.t 110,.t 111],zm 12 112] (zr [zm 113 12,zk 114 .geq 113 0] 114 (zq [zm 115 12,zm 116 8,zb 117 .add 115 116,zm 4 117] .ret) .skip (zq [zo 4 (.mv (.c (.int .i64 (.negSucc 0))))] .ret))) (zq [zm 118 5,zo 119 (.hf (.gLd 1 false 1) []),zb 120 .gtr 118 119,zm 121 120,zg 122 (.mv (.t 10)) 121 true,zg 123 (.mv (.t 8)) 121 true,zg 124 (.bin .shr (.t 123) (.c (.int .u64 (.ofNat 4)))) 121 true,zg 125 (.bin .add (zi 4) (.t 124)) 121 true,zg 126 (.bin .geq (.t 122) (.t 125)) 121 true,zo 127 (.pick (.t 121) (.t 126) (.c (.bool false))),zm 128 127,zg 129 (.mv (.t 8)) 128 true,zg 130 (.mv (.t 9)) 128 true,zg 131 (.bin .lss (.t 129) (.t 130)) 128 true,zo 132 (.pick (.t 128) (.t 131) (.c (.bool false)))] (.cond (.t 132) (zq [zm 133 0,zm 134 8,zo 135 (.slStr (.t 133) (some (.t 134)) none),zm 136 1,zx 137 110 [.t 135,.t 136],zm 13 137] (zr [zm 138 13,zk 139 .lss 138 0] 139 (zq [zo 4 (.mv (.c (.int .i64 (.negSucc 0))))] .ret) .skip (zq [zm 140 8,zm 141 13,zb 142 .add 140 141,zm 4 142] .ret))) .skip)))))))))))) (zq [zo 4 (.mv (.c (.int .i64 (.negSucc 0))))] .ret))))))))),[.t 4]⟩
theorem Kl:cN Tryz.prog 99=some KX:=by kernel_rfl
def JO:bW:=⟨8,zq [zo 4 (.mv (zi 0))] (zq [zm 5 0,zm 6 1,zo 7 (.pf .ibs [.t 5,.t 6]),zm 4 7] .ret),[.t 4]⟩
theorem HM:cN Tryz.prog 107=some JO:=by kernel_rfl
def La:bW:=⟨47,zq [zo 2 (.mv (zi 0))] (zq [zo 3 (.new [zU 0,zU 0,zU 0,zU 0,zU 0,zU 0,zU 0,zU 0,zU 0,zU 0,zU 0,zU 0,zU 0,zU 0,zU 0,zU 0,zU 0,zU 0,zU 0,zU 0,zU 0,zU 0,zU 0,zU 0,zU 0,zU 0,zU 0,zU 0,zU 0,zU 0,zU 0,zU 0])] (.seq (zq [zm 9 0,zo 10 (.len true (.t 9)),zo 11 (.pf (.mm false) [.t 10,zi 32]),zo 12 (.mv (zi 0))] (.block 0 (.loop (zq [zb 13 .lss 12 11] (.seq (.cond (.t 13) .skip (.exit 0)) (.seq (.block 1 (zq [zm 14 12,zm 4 14] (.reg [zm 15 4,zm 16 0,zm 17 4,zo 18 (.idxS (.t 16) (.t 17)),zo 19 (.bin .sub (.t 18) (zu 48)),zo 20 (.idxArr 32 1 (.t 3) (.t 15)),zs 20 19]))) (.reg [zk 21 .add 12 1,zm 12 21]))))))) (zq [zo 5 (.mv (zi 0))] (.seq (zq [zo 22 (.mv (zi 0))] (.block 2 (.loop (zq [zk 23 .lss 22 32] (.seq (.cond (.t 23) .skip (.exit 2)) (.seq (.block 3 (zq [zo 6 (.mv (zu 0))] (.seq (zq [zo 7 (.mv (zi 31))] (.block 4 (.loop (zr [zm 24 7,zk 25 .geq 24 0] 25 .skip (.exit 4) (.seq (.block 5 (zq [zm 28 7,zo 29 (.idxArr 32 1 (.t 3) (.t 28)),zl 30 29,zo 31 (.bin .mul (.t 30) (zu 2)),zm 32 6,zb 33 .add 31 32,zm 8 33] (.reg [zm 34 7,zm 35 8,zo 36 (.bin .rem (.t 35) (zu 10)),zm 37 8,zo 38 (.bin .quo (.t 37) (zu 10)),zo 39 (.idxArr 32 1 (.t 3) (.t 34)),zs 39 36,zm 6 38]))) (.reg [zm 26 7,zk 27 .sub 26 1,zm 7 27])))))) (.reg [zm 40 5,zo 41 (.bin .shl (.t 40) (.c (.int .u64 (.ofNat 1)))),zm 42 6,zv 43 .i64 42,zb 44 .or 41 43,zm 5 44])))) (.reg [zk 45 .add 22 1,zm 22 45]))))))) (zq [zm 46 5,zm 2 46] .ret))))),[.t 2]⟩
theorem Kp:cN Tryz.prog 105=some La:=by kernel_rfl
def c80:bW:=⟨5,zq [zo 2 (.mv (.c (.str [])))] (zq [zm 3 0,zx 4 95 [.t 3],zm 2 4] .ret),[.t 2]⟩
theorem LV:cN Tryz.prog 80=some c80:=by kernel_rfl
def c83:bW:=⟨34,zq [zo 4 (.mv (zi 0))] (zr [zm 7 1,zo 8 (.len true (.t 7)),zk 9 .eql 8 0] 9 (zq [zm 10 0,zx 11 96 [.t 10],zk 12 .add 11 1,zm 4 12] .ret) .skip (zr [zm 13 1,zo 14 (.len true (.t 13)),zk 15 .eql 14 1] 15 (zq [zm 16 0,zm 17 1,zo 18 (.idxS (.t 17) (zi 0)),zo 19 (.pf .cbs [.t 16,.t 18]),zm 4 19] .ret) .skip (zq [zo 5 (.mv (zi 0))] (.block 0 (.loop (.block 1 (zq [zm 20 0,zm 21 1,zx 22 84 [.t 20,.t 21],zm 6 22] (zr [zm 23 6,zo 24 (.bin .eql (.t 23) (.c (.int .i64 (.negSucc 0))))] 24 (zq [zm 25 5,zm 4 25] .ret) .skip (zq [zm 26 5,zk 27 .add 26 1,zm 5 27] (.reg [zm 28 0,zm 29 6,zm 30 1,zo 31 (.len true (.t 30)),zb 32 .add 29 31,zo 33 (.slStr (.t 28) (some (.t 32)) none),zm 0 33])))))))))),[.t 4]⟩
theorem LT:cN Tryz.prog 83=some c83:=by kernel_rfl
def c72:bW:=⟨15,zq [zo 2 (.mv (.c (.str [])))] (zr [zm 3 0,zk 4 .lss 3 10] 4 (zq [zm 5 0,zm 6 0,zk 7 .add 6 1,zo 8 (.slStr (.c (.str [48,49,50,51,52,53,54,55,56,57,97,98,99,100,101,102,103,104,105,106,107,108,109,110,111,112,113,114,115,116,117,118,119,120,121,122])) (some (.t 5)) (some (.t 7))),zm 2 8] .ret) .skip (zq [zm 9 0,zk 10 .mul 9 2,zm 11 0,zk 12 .mul 11 2,zk 13 .add 12 2,zo 14 (.slStr (.c (.str [48,48,48,49,48,50,48,51,48,52,48,53,48,54,48,55,48,56,48,57,49,48,49,49,49,50,49,51,49,52,49,53,49,54,49,55,49,56,49,57,50,48,50,49,50,50,50,51,50,52,50,53,50,54,50,55,50,56,50,57,51,48,51,49,51,50,51,51,51,52,51,53,51,54,51,55,51,56,51,57,52,48,52,49,52,50,52,51,52,52,52,53,52,54,52,55,52,56,52,57,53,48,53,49,53,50,53,51,53,52,53,53,53,54,53,55,53,56,53,57,54,48,54,49,54,50,54,51,54,52,54,53,54,54,54,55,54,56,54,57,55,48,55,49,55,50,55,51,55,52,55,53,55,54,55,55,55,56,55,57,56,48,56,49,56,50,56,51,56,52,56,53,56,54,56,55,56,56,56,57,57,48,57,49,57,50,57,51,57,52,57,53,57,54,57,55,57,56,57,57])) (some (.t 10)) (some (.t 13))),zm 2 14] .ret)),[.t 2]⟩
theorem Mc:cN Tryz.prog 72=some c72:=by kernel_rfl
def c73:bW:=⟨15,zq [zo 2 (.mv (zi 0))] (zq [zm 4 0,zx 5 89 [.t 4],zx 6 88 [.t 5],zm 3 6] (zq [zm 7 3,zm 8 0,zm 9 3,zo 10 (.hf (.gIdx 0 20 1) [.t 9]),zl 11 10,zb 12 .geq 8 11,zx 13 90 [.t 12],zb 14 .add 7 13,zm 2 14] .ret)),[.t 2]⟩
theorem Mb:cN Tryz.prog 73=some c73:=by kernel_rfl
def c89:bW:=⟨25,zq [zo 2 (.mv (zi 0))] (zr [zm 3 0,zo 4 (.bin .geq (.t 3) (.c (.int .u64 (.ofNat 4294967296))))] 4 (zq [zm 5 0,zo 6 (.bin .shr (.t 5) (.c (.int .u64 (.ofNat 32)))),zm 0 6] (.reg [zo 2 (.mv (zi 32))])) .skip (zr [zm 7 0,zo 8 (.bin .geq (.t 7) (.c (.int .u64 (.ofNat 65536))))] 8 (zq [zm 9 0,zo 10 (.bin .shr (.t 9) (.c (.int .u64 (.ofNat 16)))),zm 0 10] (.reg [zm 11 2,zk 12 .add 11 16,zm 2 12])) .skip (zr [zm 13 0,zo 14 (.bin .geq (.t 13) (.c (.int .u64 (.ofNat 256))))] 14 (zq [zm 15 0,zo 16 (.bin .shr (.t 15) (.c (.int .u64 (.ofNat 8)))),zm 0 16] (.reg [zm 17 2,zk 18 .add 17 8,zm 2 18])) .skip (zq [zm 19 2,zm 20 0,zv 21 .u8 20,zo 22 (.idxS (.c (.str [0,1,2,2,3,3,3,3,4,4,4,4,4,4,4,4,5,5,5,5,5,5,5,5,5,5,5,5,5,5,5,5,6,6,6,6,6,6,6,6,6,6,6,6,6,6,6,6,6,6,6,6,6,6,6,6,6,6,6,6,6,6,6,6,7,7,7,7,7,7,7,7,7,7,7,7,7,7,7,7,7,7,7,7,7,7,7,7,7,7,7,7,7,7,7,7,7,7,7,7,7,7,7,7,7,7,7,7,7,7,7,7,7,7,7,7,7,7,7,7,7,7,7,7,7,7,7,7,8,8,8,8,8,8,8,8,8,8,8,8,8,8,8,8,8,8,8,8,8,8,8,8,8,8,8,8,8,8,8,8,8,8,8,8,8,8,8,8,8,8,8,8,8,8,8,8,8,8,8,8,8,8,8,8,8,8,8,8,8,8,8,8,8,8,8,8,8,8,8,8,8,8,8,8,8,8,8,8,8,8,8,8,8,8,8,8,8,8,8,8,8,8,8,8,8,8,8,8,8,8,8,8,8,8,8,8,8,8,8,8,8,8,8,8,8,8,8,8,8,8,8,8,8,8,8,8])) (.t 21)),zv 23 .i64 22,zb 24 .add 19 23,zm 2 24] .ret)))),[.t 2]⟩
theorem LQ:cN Tryz.prog 89=some c89:=by kernel_rfl
def c88:bW:=⟨6,zq [zo 2 (.mv (zi 0))] (zq [zm 3 0,zk 4 .mul 3 78913,zo 5 (.bin .shr (.t 4) (.c (.int .u64 (.ofNat 18)))),zm 2 5] .ret),[.t 2]⟩
theorem LR:cN Tryz.prog 88=some c88:=by kernel_rfl
def Nb:bW:=⟨4,zq [zo 2 (.mv (zi 0))] (zr [zm 3 0] 3 (zq [zo 2 (.mv (zi 1))] .ret) .skip (zq [zo 2 (.mv (zi 0))] .ret)),[.t 2]⟩
theorem LP:cN Tryz.prog 90=some Nb:=by kernel_rfl
def JN:bW:=⟨167,zq [zm 17 0,zh 18 17,zm 4 18] (.seq (.block 0 (.loop (zr [zm 19 4,zk 20 .geq 19 8] 20 .skip (.exit 0) (.block 1 (zq [zm 21 1,zo 22 (.bin .rem (.t 21) (.c (.int .u64 (.ofNat 100000000)))),zv 23 .u32 22,zm 5 23] (zq [zm 24 1,zo 25 (.bin .quo (.t 24) (.c (.int .u64 (.ofNat 100000000)))),zm 1 25] (zq [zm 26 5,zo 27 (.bin .quo (.t 26) (.c (.int .u32 (.ofNat 10000)))),zm 28 5,zo 29 (.bin .rem (.t 28) (.c (.int .u32 (.ofNat 10000)))),zm 6 27,zm 7 29] (zq [zm 30 7,zo 31 (.bin .quo (.t 30) (.c (.int .u32 (.ofNat 100)))),zo 32 (.bin .mul (.t 31) (.c (.int .u32 (.ofNat 2)))),zm 33 7,zo 34 (.bin .rem (.t 33) (.c (.int .u32 (.ofNat 100)))),zo 35 (.bin .mul (.t 34) (.c (.int .u32 (.ofNat 2)))),zm 8 32,zm 9 35] (zq [zm 36 6,zo 37 (.bin .quo (.t 36) (.c (.int .u32 (.ofNat 100)))),zo 38 (.bin .mul (.t 37) (.c (.int .u32 (.ofNat 2)))),zm 39 6,zo 40 (.bin .rem (.t 39) (.c (.int .u32 (.ofNat 100)))),zo 41 (.bin .mul (.t 40) (.c (.int .u32 (.ofNat 2)))),zm 10 38,zm 11 41] (zq [zm 42 0,zm 43 4,zk 44 .sub 43 1,zm 45 0,zm 46 4,zk 47 .sub 46 2,zm 48 9,zo 49 (.bin .add (.t 48) (.c (.int .u32 (.ofNat 1)))),zo 50 (.idxS (.c (.str [48,48,48,49,48,50,48,51,48,52,48,53,48,54,48,55,48,56,48,57,49,48,49,49,49,50,49,51,49,52,49,53,49,54,49,55,49,56,49,57,50,48,50,49,50,50,50,51,50,52,50,53,50,54,50,55,50,56,50,57,51,48,51,49,51,50,51,51,51,52,51,53,51,54,51,55,51,56,51,57,52,48,52,49,52,50,52,51,52,52,52,53,52,54,52,55,52,56,52,57,53,48,53,49,53,50,53,51,53,52,53,53,53,54,53,55,53,56,53,57,54,48,54,49,54,50,54,51,54,52,54,53,54,54,54,55,54,56,54,57,55,48,55,49,55,50,55,51,55,52,55,53,55,54,55,55,55,56,55,57,56,48,56,49,56,50,56,51,56,52,56,53,56,54,56,55,56,56,56,57,57,48,57,49,57,50,57,51,57,52,57,53,57,54,57,55,57,56,57,57])) (.t 49)),zm 51 9,zo 52 (.idxS (.c (.str [48,48,48,49,48,50,48,51,48,52,48,53,48,54,48,55,48,56,48,57,49,48,49,49,49,50,49,51,49,52,49,53,49,54,49,55,49,56,49,57,50,48,50,49,50,50,50,51,50,52,50,53,50,54,50,55,50,56,50,57,51,48,51,49,51,50,51,51,51,52,51,53,51,54,51,55,51,56,51,57,52,48,52,49,52,50,52,51,52,52,52,53,52,54,52,55,52,56,52,57,53,48,53,49,53,50,53,51,53,52,53,53,53,54,53,55,53,56,53,57,54,48,54,49,54,50,54,51,54,52,54,53,54,54,54,55,54,56,54,57,55,48,55,49,55,50,55,51,55,52,55,53,55,54,55,55,55,56,55,57,56,48,56,49,56,50,56,51,56,52,56,53,56,54,56,55,56,56,56,57,57,48,57,49,57,50,57,51,57,52,57,53,57,54,57,55,57,56,57,57])) (.t 51)),zd 53 42 44,zs 53 50,zd 54 45 47,zs 54 52] (zq [zm 55 0,zm 56 4,zk 57 .sub 56 3,zm 58 0,zm 59 4,zk 60 .sub 59 4,zm 61 8,zo 62 (.bin .add (.t 61) (.c (.int .u32 (.ofNat 1)))),zo 63 (.idxS (.c (.str [48,48,48,49,48,50,48,51,48,52,48,53,48,54,48,55,48,56,48,57,49,48,49,49,49,50,49,51,49,52,49,53,49,54,49,55,49,56,49,57,50,48,50,49,50,50,50,51,50,52,50,53,50,54,50,55,50,56,50,57,51,48,51,49,51,50,51,51,51,52,51,53,51,54,51,55,51,56,51,57,52,48,52,49,52,50,52,51,52,52,52,53,52,54,52,55,52,56,52,57,53,48,53,49,53,50,53,51,53,52,53,53,53,54,53,55,53,56,53,57,54,48,54,49,54,50,54,51,54,52,54,53,54,54,54,55,54,56,54,57,55,48,55,49,55,50,55,51,55,52,55,53,55,54,55,55,55,56,55,57,56,48,56,49,56,50,56,51,56,52,56,53,56,54,56,55,56,56,56,57,57,48,57,49,57,50,57,51,57,52,57,53,57,54,57,55,57,56,57,57])) (.t 62)),zm 64 8,zo 65 (.idxS (.c (.str [48,48,48,49,48,50,48,51,48,52,48,53,48,54,48,55,48,56,48,57,49,48,49,49,49,50,49,51,49,52,49,53,49,54,49,55,49,56,49,57,50,48,50,49,50,50,50,51,50,52,50,53,50,54,50,55,50,56,50,57,51,48,51,49,51,50,51,51,51,52,51,53,51,54,51,55,51,56,51,57,52,48,52,49,52,50,52,51,52,52,52,53,52,54,52,55,52,56,52,57,53,48,53,49,53,50,53,51,53,52,53,53,53,54,53,55,53,56,53,57,54,48,54,49,54,50,54,51,54,52,54,53,54,54,54,55,54,56,54,57,55,48,55,49,55,50,55,51,55,52,55,53,55,54,55,55,55,56,55,57,56,48,56,49,56,50,56,51,56,52,56,53,56,54,56,55,56,56,56,57,57,48,57,49,57,50,57,51,57,52,57,53,57,54,57,55,57,56,57,57])) (.t 64)),zd 66 55 57,zs 66 63,zd 67 58 60,zs 67 65] (zq [zm 68 0,zm 69 4,zk 70 .sub 69 5,zm 71 0,zm 72 4,zk 73 .sub 72 6,zm 74 11,zo 75 (.bin .add (.t 74) (.c (.int .u32 (.ofNat 1)))),zo 76 (.idxS (.c (.str [48,48,48,49,48,50,48,51,48,52,48,53,48,54,48,55,48,56,48,57,49,48,49,49,49,50,49,51,49,52,49,53,49,54,49,55,49,56,49,57,50,48,50,49,50,50,50,51,50,52,50,53,50,54,50,55,50,56,50,57,51,48,51,49,51,50,51,51,51,52,51,53,51,54,51,55,51,56,51,57,52,48,52,49,52,50,52,51,52,52,52,53,52,54,52,55,52,56,52,57,53,48,53,49,53,50,53,51,53,52,53,53,53,54,53,55,53,56,53,57,54,48,54,49,54,50,54,51,54,52,54,53,54,54,54,55,54,56,54,57,55,48,55,49,55,50,55,51,55,52,55,53,55,54,55,55,55,56,55,57,56,48,56,49,56,50,56,51,56,52,56,53,56,54,56,55,56,56,56,57,57,48,57,49,57,50,57,51,57,52,57,53,57,54,57,55,57,56,57,57])) (.t 75)),zm 77 11,zo 78 (.idxS (.c (.str [48,48,48,49,48,50,48,51,48,52,48,53,48,54,48,55,48,56,48,57,49,48,49,49,49,50,49,51,49,52,49,53,49,54,49,55,49,56,49,57,50,48,50,49,50,50,50,51,50,52,50,53,50,54,50,55,50,56,50,57,51,48,51,49,51,50,51,51,51,52,51,53,51,54,51,55,51,56,51,57,52,48,52,49,52,50,52,51,52,52,52,53,52,54,52,55,52,56,52,57,53,48,53,49,53,50,53,51,53,52,53,53,53,54,53,55,53,56,53,57,54,48,54,49,54,50,54,51,54,52,54,53,54,54,54,55,54,56,54,57,55,48,55,49,55,50,55,51,55,52,55,53,55,54,55,55,55,56,55,57,56,48,56,49,56,50,56,51,56,52,56,53,56,54,56,55,56,56,56,57,57,48,57,49,57,50,57,51,57,52,57,53,57,54,57,55,57,56,57,57])) (.t 77)),zd 79 68 70,zs 79 76,zd 80 71 73,zs 80 78] (zq [zm 81 0,zm 82 4,zk 83 .sub 82 7,zm 84 0,zm 85 4,zk 86 .sub 85 8,zm 87 10,zo 88 (.bin .add (.t 87) (.c (.int .u32 (.ofNat 1)))),zo 89 (.idxS (.c (.str [48,48,48,49,48,50,48,51,48,52,48,53,48,54,48,55,48,56,48,57,49,48,49,49,49,50,49,51,49,52,49,53,49,54,49,55,49,56,49,57,50,48,50,49,50,50,50,51,50,52,50,53,50,54,50,55,50,56,50,57,51,48,51,49,51,50,51,51,51,52,51,53,51,54,51,55,51,56,51,57,52,48,52,49,52,50,52,51,52,52,52,53,52,54,52,55,52,56,52,57,53,48,53,49,53,50,53,51,53,52,53,53,53,54,53,55,53,56,53,57,54,48,54,49,54,50,54,51,54,52,54,53,54,54,54,55,54,56,54,57,55,48,55,49,55,50,55,51,55,52,55,53,55,54,55,55,55,56,55,57,56,48,56,49,56,50,56,51,56,52,56,53,56,54,56,55,56,56,56,57,57,48,57,49,57,50,57,51,57,52,57,53,57,54,57,55,57,56,57,57])) (.t 88)),zm 90 10,zo 91 (.idxS (.c (.str [48,48,48,49,48,50,48,51,48,52,48,53,48,54,48,55,48,56,48,57,49,48,49,49,49,50,49,51,49,52,49,53,49,54,49,55,49,56,49,57,50,48,50,49,50,50,50,51,50,52,50,53,50,54,50,55,50,56,50,57,51,48,51,49,51,50,51,51,51,52,51,53,51,54,51,55,51,56,51,57,52,48,52,49,52,50,52,51,52,52,52,53,52,54,52,55,52,56,52,57,53,48,53,49,53,50,53,51,53,52,53,53,53,54,53,55,53,56,53,57,54,48,54,49,54,50,54,51,54,52,54,53,54,54,54,55,54,56,54,57,55,48,55,49,55,50,55,51,55,52,55,53,55,54,55,55,55,56,55,57,56,48,56,49,56,50,56,51,56,52,56,53,56,54,56,55,56,56,56,57,57,48,57,49,57,50,57,51,57,52,57,53,57,54,57,55,57,56,57,57])) (.t 90)),zd 92 81 83,zs 92 89,zd 93 84 86,zs 93 91] (.reg [zm 94 4,zk 95 .sub 94 8,zm 4 95])))))))))))))) (zq [zm 96 1,zv 97 .u32 96,zm 12 97] (zr [zm 98 4,zk 99 .geq 98 4] 99 (zq [zm 100 12,zo 101 (.bin .rem (.t 100) (.c (.int .u32 (.ofNat 10000)))),zm 13 101] (zq [zm 102 12,zo 103 (.bin .quo (.t 102) (.c (.int .u32 (.ofNat 10000)))),zm 12 103] (zq [zm 104 13,zo 105 (.bin .quo (.t 104) (.c (.int .u32 (.ofNat 100)))),zo 106 (.bin .mul (.t 105) (.c (.int .u32 (.ofNat 2)))),zm 107 13,zo 108 (.bin .rem (.t 107) (.c (.int .u32 (.ofNat 100)))),zo 109 (.bin .mul (.t 108) (.c (.int .u32 (.ofNat 2)))),zm 14 106,zm 15 109] (zq [zm 110 0,zm 111 4,zk 112 .sub 111 1,zm 113 0,zm 114 4,zk 115 .sub 114 2,zm 116 15,zo 117 (.bin .add (.t 116) (.c (.int .u32 (.ofNat 1)))),zo 118 (.idxS (.c (.str [48,48,48,49,48,50,48,51,48,52,48,53,48,54,48,55,48,56,48,57,49,48,49,49,49,50,49,51,49,52,49,53,49,54,49,55,49,56,49,57,50,48,50,49,50,50,50,51,50,52,50,53,50,54,50,55,50,56,50,57,51,48,51,49,51,50,51,51,51,52,51,53,51,54,51,55,51,56,51,57,52,48,52,49,52,50,52,51,52,52,52,53,52,54,52,55,52,56,52,57,53,48,53,49,53,50,53,51,53,52,53,53,53,54,53,55,53,56,53,57,54,48,54,49,54,50,54,51,54,52,54,53,54,54,54,55,54,56,54,57,55,48,55,49,55,50,55,51,55,52,55,53,55,54,55,55,55,56,55,57,56,48,56,49,56,50,56,51,56,52,56,53,56,54,56,55,56,56,56,57,57,48,57,49,57,50,57,51,57,52,57,53,57,54,57,55,57,56,57,57])) (.t 117)),zm 119 15,zo 120 (.idxS (.c (.str [48,48,48,49,48,50,48,51,48,52,48,53,48,54,48,55,48,56,48,57,49,48,49,49,49,50,49,51,49,52,49,53,49,54,49,55,49,56,49,57,50,48,50,49,50,50,50,51,50,52,50,53,50,54,50,55,50,56,50,57,51,48,51,49,51,50,51,51,51,52,51,53,51,54,51,55,51,56,51,57,52,48,52,49,52,50,52,51,52,52,52,53,52,54,52,55,52,56,52,57,53,48,53,49,53,50,53,51,53,52,53,53,53,54,53,55,53,56,53,57,54,48,54,49,54,50,54,51,54,52,54,53,54,54,54,55,54,56,54,57,55,48,55,49,55,50,55,51,55,52,55,53,55,54,55,55,55,56,55,57,56,48,56,49,56,50,56,51,56,52,56,53,56,54,56,55,56,56,56,57,57,48,57,49,57,50,57,51,57,52,57,53,57,54,57,55,57,56,57,57])) (.t 119)),zd 121 110 112,zs 121 118,zd 122 113 115,zs 122 120] (zq [zm 123 0,zm 124 4,zk 125 .sub 124 3,zm 126 0,zm 127 4,zk 128 .sub 127 4,zm 129 14,zo 130 (.bin .add (.t 129) (.c (.int .u32 (.ofNat 1)))),zo 131 (.idxS (.c (.str [48,48,48,49,48,50,48,51,48,52,48,53,48,54,48,55,48,56,48,57,49,48,49,49,49,50,49,51,49,52,49,53,49,54,49,55,49,56,49,57,50,48,50,49,50,50,50,51,50,52,50,53,50,54,50,55,50,56,50,57,51,48,51,49,51,50,51,51,51,52,51,53,51,54,51,55,51,56,51,57,52,48,52,49,52,50,52,51,52,52,52,53,52,54,52,55,52,56,52,57,53,48,53,49,53,50,53,51,53,52,53,53,53,54,53,55,53,56,53,57,54,48,54,49,54,50,54,51,54,52,54,53,54,54,54,55,54,56,54,57,55,48,55,49,55,50,55,51,55,52,55,53,55,54,55,55,55,56,55,57,56,48,56,49,56,50,56,51,56,52,56,53,56,54,56,55,56,56,56,57,57,48,57,49,57,50,57,51,57,52,57,53,57,54,57,55,57,56,57,57])) (.t 130)),zm 132 14,zo 133 (.idxS (.c (.str [48,48,48,49,48,50,48,51,48,52,48,53,48,54,48,55,48,56,48,57,49,48,49,49,49,50,49,51,49,52,49,53,49,54,49,55,49,56,49,57,50,48,50,49,50,50,50,51,50,52,50,53,50,54,50,55,50,56,50,57,51,48,51,49,51,50,51,51,51,52,51,53,51,54,51,55,51,56,51,57,52,48,52,49,52,50,52,51,52,52,52,53,52,54,52,55,52,56,52,57,53,48,53,49,53,50,53,51,53,52,53,53,53,54,53,55,53,56,53,57,54,48,54,49,54,50,54,51,54,52,54,53,54,54,54,55,54,56,54,57,55,48,55,49,55,50,55,51,55,52,55,53,55,54,55,55,55,56,55,57,56,48,56,49,56,50,56,51,56,52,56,53,56,54,56,55,56,56,56,57,57,48,57,49,57,50,57,51,57,52,57,53,57,54,57,55,57,56,57,57])) (.t 132)),zd 134 123 125,zs 134 131,zd 135 126 128,zs 135 133] (.reg [zm 136 4,zk 137 .sub 136 4,zm 4 137])))))) .skip (zr [zm 138 4,zk 139 .geq 138 2] 139 (zq [zm 140 12,zo 141 (.bin .rem (.t 140) (.c (.int .u32 (.ofNat 100)))),zo 142 (.bin .mul (.t 141) (.c (.int .u32 (.ofNat 2)))),zm 16 142] (zq [zm 143 12,zo 144 (.bin .quo (.t 143) (.c (.int .u32 (.ofNat 100)))),zm 12 144] (zq [zm 145 0,zm 146 4,zk 147 .sub 146 1,zm 148 0,zm 149 4,zk 150 .sub 149 2,zm 151 16,zo 152 (.bin .add (.t 151) (.c (.int .u32 (.ofNat 1)))),zo 153 (.idxS (.c (.str [48,48,48,49,48,50,48,51,48,52,48,53,48,54,48,55,48,56,48,57,49,48,49,49,49,50,49,51,49,52,49,53,49,54,49,55,49,56,49,57,50,48,50,49,50,50,50,51,50,52,50,53,50,54,50,55,50,56,50,57,51,48,51,49,51,50,51,51,51,52,51,53,51,54,51,55,51,56,51,57,52,48,52,49,52,50,52,51,52,52,52,53,52,54,52,55,52,56,52,57,53,48,53,49,53,50,53,51,53,52,53,53,53,54,53,55,53,56,53,57,54,48,54,49,54,50,54,51,54,52,54,53,54,54,54,55,54,56,54,57,55,48,55,49,55,50,55,51,55,52,55,53,55,54,55,55,55,56,55,57,56,48,56,49,56,50,56,51,56,52,56,53,56,54,56,55,56,56,56,57,57,48,57,49,57,50,57,51,57,52,57,53,57,54,57,55,57,56,57,57])) (.t 152)),zm 154 16,zo 155 (.idxS (.c (.str [48,48,48,49,48,50,48,51,48,52,48,53,48,54,48,55,48,56,48,57,49,48,49,49,49,50,49,51,49,52,49,53,49,54,49,55,49,56,49,57,50,48,50,49,50,50,50,51,50,52,50,53,50,54,50,55,50,56,50,57,51,48,51,49,51,50,51,51,51,52,51,53,51,54,51,55,51,56,51,57,52,48,52,49,52,50,52,51,52,52,52,53,52,54,52,55,52,56,52,57,53,48,53,49,53,50,53,51,53,52,53,53,53,54,53,55,53,56,53,57,54,48,54,49,54,50,54,51,54,52,54,53,54,54,54,55,54,56,54,57,55,48,55,49,55,50,55,51,55,52,55,53,55,54,55,55,55,56,55,57,56,48,56,49,56,50,56,51,56,52,56,53,56,54,56,55,56,56,56,57,57,48,57,49,57,50,57,51,57,52,57,53,57,54,57,55,57,56,57,57])) (.t 154)),zd 156 145 147,zs 156 153,zd 157 148 150,zs 157 155] (.reg [zm 158 4,zk 159 .sub 158 2,zm 4 159])))) .skip (zq [zm 160 4,zk 161 .gtr 160 0] (.cond (.t 161) (.reg [zm 162 0,zm 163 12,zo 164 (.bin .add (.c (.int .u32 (.ofNat 48))) (.t 163)),zv 165 .u8 164,zo 166 (.idxA 1 (.t 162) (zi 0)),zs 166 165]) .skip)))))),[]⟩
theorem Ma:cN Tryz.prog 74=some JN:=by kernel_rfl
def Hi:bW:=⟨44,zq [zo 2 (.mv (.c (.str [])))] (zq [zm 6 0,zv 7 .u64 6,zm 3 7] (zq [zo 8 (.mkSlice 1 [zU 0] (zi 0) (zi 48)),zm 4 8] (zr [zm 9 0,zk 10 .lss 9 0] 10 (zq [zm 11 3,zo 12 (.un .neg (.t 11)),zm 3 12] (.reg [zm 13 4,zo 14 (.buildSl 1 [zU 0] [(0,1,zu 45)]),zy 15 13 14,zm 4 15])) .skip (zq [zm 16 4,zm 17 3,zo 18 (.bin .shr (.t 17) (.c (.int .u64 (.ofNat 32)))),zx 19 39 [.t 16,.t 18,zi 10],zm 4 19] (zq [zm 20 3,zo 21 (.bin .and (.t 20) (.c (.int .u64 (.ofNat 4294967295)))),zm 5 21] (zr [zm 22 5,zo 23 (.bin .eql (.t 22) (.c (.int .u64 (.ofNat 0))))] 23 (zq [zm 24 4,zo 25 (.convBS (.t 24)),zm 2 25] .ret) .skip (zq [zm 26 4,zo 27 (.buildSl 1 [zU 0] [(0,1,zu 46)]),zy 28 26 27,zm 4 28] (.seq (.block 0 (.loop (zr [zm 29 5,zo 30 (.bin .neq (.t 29) (.c (.int .u64 (.ofNat 0))))] 30 .skip (.exit 0) (.block 1 (zq [zm 31 5,zo 32 (.bin .mul (.t 31) (.c (.int .u64 (.ofNat 10)))),zm 5 32] (zq [zm 33 4,zm 34 5,zo 35 (.bin .shr (.t 34) (.c (.int .u64 (.ofNat 32)))),zv 36 .u8 35,zo 37 (.bin .add (zu 48) (.t 36)),zo 38 (.buildSl 1 [zU 0] [(0,1,.t 37)]),zy 39 33 38,zm 4 39] (.reg [zm 40 5,zo 41 (.bin .and (.t 40) (.c (.int .u64 (.ofNat 4294967295)))),zm 5 41]))))))) (zq [zm 42 4,zo 43 (.convBS (.t 42)),zm 2 43] .ret))))))))),[.t 2]⟩
theorem MV:cN Tryz.prog 17=some Hi:=by kernel_rfl
def c39:bW:=⟨11,zq [zo 6 (.mv zn)] (zq [zm 7 0,zm 8 1,zm 9 2,zx 10 76 [.t 7,.t 8,.t 9],zm 6 10] .ret),[.t 6]⟩
theorem MG:cN Tryz.prog 39=some c39:=by kernel_rfl
def Nd:bW:=⟨36,zq [zo 6 (.mv zn)] (zr [zm 9 2,zk 10 .eql 9 10] 10 (zr [zm 11 1,zo 12 (.bin .lss (.t 11) (.c (.int .u64 (.ofNat 100))))] 12 (zq [zm 13 0,zm 14 1,zv 15 .i64 14,zx 16 72 [.t 15],zy 17 13 16,zm 6 17] .ret) .skip (zq [zo 7 (.new [zU 0,zU 0,zU 0,zU 0,zU 0,zU 0,zU 0,zU 0,zU 0,zU 0,zU 0,zU 0,zU 0,zU 0,zU 0,zU 0,zU 0,zU 0,zU 0,zU 0,zU 0,zU 0,zU 0,zU 0])] (zq [zm 18 1,zx 19 73 [.t 18],zm 8 19] (zq [zm 20 8,zo 21 (.slA 24 1 (.t 7) none (some (.t 20)) none),zm 22 1,zx 23 74 [.t 21,.t 22]] (zq [zm 24 0,zm 25 8,zo 26 (.slA 24 1 (.t 7) none (some (.t 25)) none),zy 27 24 26,zm 6 27] .ret))))) .skip (zq [zm 29 0,zm 30 1,zm 31 2,zx 32 75 [.t 29,.t 30,.t 31,.c (.bool false),.c (.bool true)],zm 28 32,ze 33 0 28,ze 34 1 28,zm 0 33] (zq [zm 35 0,zm 6 35] .ret))),[.t 6]⟩
theorem LZ:cN Tryz.prog 76=some Nd:=by kernel_rfl
end
end Go.Proofs.Wo
namespace Go.Abs
section
variable {P:Program} {Prot:Gh} {w0:World} {ρ:Pl} {H:ae} {w:World}
theorem Rel.noIter(R:Rel Prot w0 ρ H w){it since last:Nat}{m:Option Nat}{seen:Array Nat}(hi:w.heap[it]?=some (.mapIter m since seen last)){b l:Nat}{L:Loc}(h:ρ b l=some L):L.c≠it:=by
 intro e
 obtain⟨x,o,_,h2,h3⟩:=R.obj b l L h
 rw[e,hi]at h2
 simp only[sJ]at h2
 subst h2
 cases x with
 | cells c low ro=>simp only[dg]at h3; obtain⟨C,e,lo,hi,h,_⟩:=h3; cases h
 | map es c=>simp only[dg]at h3; obtain⟨_,ES,h,_⟩:=h3; cases h
 | iter s p=>simp only[dg]at h3; cases h3.2
theorem Rel.rebase(R:Rel Prot w0 ρ H w){it since last:Nat}{m:Option Nat}{seen:Array Nat}(hi:w.heap[it]?=some (.mapIter m since seen last)):Rel ⟨fun c=>Prot.prot c∨c=it,Prot.dead⟩ w ρ H w:=by
 refine⟨rfl,rfl,rfl,Nat.le_refl _,fun c hc=>⟨?_,rfl⟩,R.dom,R.obj,fun b l L x h hx hr hc=>?_,R.inj,R.dead,R.glob⟩
 ·rcases hc with hc | rfl
  ·exact NN (R.prot c hc).1 R.size
  ·exact (Array.getElem?_eq_some_iff.1 hi).1
 ·rcases hc with hc | hc
  ·exact R.free b l L x h hx hr hc
  ·exact R.noIter hi h hc
theorem Rel.unbase(R:Rel Prot w0 ρ H w){it:Nat}{D:Nat->Prop}{ρ':Pl}{H':ae}{w':World}(R':Rel ⟨fun c=>Prot.prot c∨c=it,D⟩ w ρ' H' w'):Rel ⟨Prot.prot,D⟩ w0 ρ' H' w'/\w'.heap[it]?=w.heap[it]?:=by
 refine⟨⟨R'.os.trans R.os,R'.tape.trans R.tape,R'.output.trans R.output,Nat.le_trans R.size R'.size,fun c hc=>⟨(R.prot c hc).1,((R'.prot c (.inl hc)).2).trans (R.prot c hc).2⟩,R'.dom,R'.obj,fun b l L x h hx hr hc=>R'.free b l L x h hx hr (.inl hc),R'.inj,R'.dead,R'.glob⟩,(R'.prot it (.inr rfl)).2⟩
theorem Rel.iterSet(R:Rel Prot w0 ρ H w){it since last:Nat}{m:Option Nat}{seen:Array Nat}(hi:w.heap[it]?=some (.mapIter m since seen last))(hp:¬Prot.prot it){w':World}{o:Obj}
  (h1:w'.os=w.os) (h2:w'.tape=w.tape) (h3:w'.output=w.output) (h4:w'.heap=w.heap.setIfInBounds it o):Rel Prot w0 ρ H w':=by
 have hs:w'.heap.size=w.heap.size:=by rw[h4,Array.size_setIfInBounds]
 have hg:∀c,c≠it->w'.heap[c]?=w.heap[c]?:=fun c hc=>by rw[h4,Array.getElem?_setIfInBounds,if_neg (fun e=>hc e.symm)]
 refine⟨h1.trans R.os,h2.trans R.tape,h3.trans R.output,by rw[hs]; exact R.size,fun c hc=>?_,fun b l L h=>?_,fun b l L h=>?_,R.free,R.inj,R.dead,R.glob⟩
 ·obtain⟨q1,q2⟩:=R.prot c hc
  exact⟨q1,(hg c (fun e=>hp (e ▸ hc))).trans q2⟩
 ·obtain⟨q1,q2⟩:=R.dom b l L h
  exact⟨q1,by rw[hs]; exact q2⟩
 ·obtain⟨x,o,q1,q2,q3⟩:=R.obj b l L h
  exact⟨x,o,q1,(hg _ (R.noIter hi h)).trans q2,q3⟩
end
section
variable {P:Program} {w:World}
theorem nz{it bm since c0 clock:Nat}{seen:Array Nat}{es:Array MapEntry}(ty:TypeId)(hi:w.heap[it]?=some (.mapIter (some bm) since seen c0))(hb:w.heap[bm]?=some (.map es clock))
  (hold:∀x∈es.toList,x.born<since) (hsc:since<=c0) :
  ((leftOf es seen).size=0/\(Instr.next (.pointer (some ⟨it,0,none⟩)) false ty).run P w=.ok (.tuple #[.bool false]) w) ∨
  ∃e∈(leftOf es seen).toList,∃w1:World,(Instr.next (.pointer (some ⟨it,0,none⟩)) false ty).run P w=.ok (.tuple #[.bool true,e.key,e.val]) w1 /\
   w1.heap=w.heap.setIfInBounds it (.mapIter (some bm) since (seen.push e.born) clock)/\w1.os=w.os/\w1.tape=w.tape/\w1.output=w.output:=by
 simp only[Instr.next,getObj,Sem.run_bind,Sem.run,hi,hb,Result.andThen,next_test_false seen es since c0 hold hsc,NK,if_false]
 unfold leftOf
 have hmem:∀x∈(Array.filter (fun e=>!seen.contains e.born) es).toList,x.born<since:=fun x hx=>hold x (by simp at hx ⊢; exact hx.1)
 generalize Array.filter (fun e=>!seen.contains e.born) es=L at hmem ⊢
 have e1:L.filter (fun x=>decide (x.born<since))=L:=Array.filter_eq_self.2 (fun x hx=>by simpa using hmem x (by simpa using hx))
 have e2:L.filter (fun x=>decide (x.born ≥ since))=#[]:=by
  rw[Array.filter_eq_empty_iff]
  intro x hx
  have:=hmem x (by simpa using hx)
  simp
  omega
 simp only[e1,e2,Array.append_empty]
 by_cases h0:L.size=0
 ·left
  have:L=#[]:=Array.eq_empty_of_size_eq_zero h0
  subst this
  refine⟨rfl,?_⟩
  simp[choose,Sem.run,Question.forced]
 ·right
  have hne:L.isEmpty=false:=by simp[Array.isEmpty,h0]
  simp only[hne,NK,if_false,Array.empty_append,Array.size_map]
  have hch:∃(j:Nat) (w1:World),j<L.size/\(w1.heap=w.heap/\w1.os=w.os/\w1.tape=w.tape/\w1.output=w.output)/\(choose (Question.mapNext L.size)).run P w=.ok j w1:=by
   by_cases hf:L.size<=1
   ·exact⟨0,w,om,⟨rfl,rfl,rfl,rfl⟩,by simp[choose,Sem.run,Question.forced,hf]⟩
   ·exact⟨_,w.drew,Nat.mod_lt _ om,⟨rfl,rfl,rfl,rfl⟩,by
     simp only[choose,Sem.run,Question.forced,NL,hf,if_false,Question.cut]
     rfl⟩
  obtain⟨j,w1,hj,⟨q1,q2,q3,q4⟩,hrun⟩:=hch
  have hset:∀o':Obj,(setObj it o').run P w1=.ok () { w1 with heap:=w1.heap.setIfInBounds it o' }:=fun o'=>by
   simp only[setObj,Sem.run]
   rw[q1,hi]
  refine⟨L[j],by simp,{ w1 with heap:=w1.heap.setIfInBounds it (.mapIter (some bm) since (seen.push L[j].born) clock) },?_,by rw[q1],q2,q3,q4⟩
  simp only[hrun,Array.getElem?_map,Array.getElem?_eq_getElem hj,Option.map_some,Sem.run_bind,hset,Result.andThen]
  rfl
theorem tq{it bm since clock:Nat}{seen:Array Nat}{es:Array MapEntry}{e:MapEntry}(hi:w.heap[it]?=some (.mapIter (some bm) since (seen.push e.born) clock))(hb:w.heap[bm]?=some (.map es clock))
  (hf:es.find? (fun x=>x.born==e.born)=some e):(Instr.entry (.pointer (some ⟨it,0,none⟩))).run P w=.ok (.tuple #[e.key,e.val]) w:=by
 simp only[Instr.entry,getObj,Sem.run_bind,Sem.run,hi,hb,Result.andThen,Array.back?_push,bne_self_eq_false,NK,if_false,hf]
 rfl
end
end Go.Abs
namespace Go.Abs
def jw(ops:Array Oper)(i:Nat):Oper:=match ops[i]? with
 | some o=>o
 | none => ⟨none, .move (.tmp 0), 0, "", #[], none⟩
structure qB(P:Program)(n:Nat)(ops:Array Oper)(i:Nat)(d:Option Nat)(ao:gn):Prop where
 at_:ops[i]?=some (jw ops i)
 op:sC P (jw ops i).op=some ao
 guard:(jw ops i).guard=none
 dst:(jw ops i).dst=d
 ok:cM n d=true
structure qS(n:Nat)(ops:Array Oper)(i:Nat)(d:Option Nat)(o:Op):Prop where
 at_:ops[i]?=some (jw ops i)
 op:(jw ops i).op=o
 guard:(jw ops i).guard=none
 dst:(jw ops i).dst=d
 ok:cM n d=true
section
variable {P:Program} {Prot:Gh} {w0:World} {ρ:Pl} {H:ae} {w:World} {tb:FuncId->Bool}
theorem ni{o:Oper}(h:o.guard=none)(f:Nat->Option Bool):Region.wanted o f=true:=by
 unfold Region.wanted; rw[h]
theorem fV(htb:∀f,Nat.blt f bI=true->tb f=true->bc P f=true){ds:List Deferred}{n:Nat}{ops:Array Oper}{Q:Exit->Act->World->Prop}{i:Nat}{is:List Nat}{d:Option Nat}{ao:gn}(ho:qB P n ops i d ao)
  {T:Tr af} {a:Act} (R:Rel Prot w0 ρ H w) (ht:aH ρ n T a.tmps) (hd:a.defers=ds) {v:af} {H1:ae} (hv:bF tb T H ao=some (.val v,H1))
  (hk:∀ρ1 a1 w1,ρ.le ρ1->Rel Prot w0 ρ1 H1 w1->aH ρ1 n (aK T d v) a1.tmps->a1.defers=ds->wpOps P ops Q is a1 w1):wpOps P ops Q (i::is) a w:=by
 obtain⟨ρ1,w1,nx,q1,q2,q3,q4⟩:=fU htb R ht (jw ops i) ho.op hv
 simp only[wpOps,ho.at_]
 rw[if_pos (ni ho.guard _)]
 left
 have hd':∀u,(a.put d u).defers=ds:=fun u=>by cases d <;> simpa[Act.put] using hd
 simp only[Oper.wp,q2]
 cases nx <;> simp only[gM]at q4
 case value u=>
  simp only[Oper.upon,ho.dst]
  exact hk ρ1 _ _ q1 q3 (bn (ht.mono q1) ho.ok q4) (hd' _)
 case skip=>
  simp only[Oper.upon,ho.dst]
  exact hk ρ1 _ _ q1 q3 (bn (ht.mono q1) ho.ok q4) (hd' _)
theorem pn{n:Nat}{ops:Array Oper}{Q:Exit->Act->World->Prop}{i:Nat}{is:List Nat}{d:Option Nat}{o:Op}(ho:qS n ops i d o){a:Act}{u:Value}{w1:World}
  (hr:(execOp a.eval (jw ops i)).run P w=.ok (.value u) w1) (hk:wpOps P ops Q is (a.put d u) w1):wpOps P ops Q (i::is) a w:=by
 simp only[wpOps,ho.at_]
 rw[if_pos (ni ho.guard _)]
 left
 simp only[Oper.wp,hr,Oper.upon,ho.dst]
 exact hk
theorem DK{ds:List Deferred}{n:Nat}{ops:Array Oper}{Q:Exit->Act->World->Prop}{i:Nat}{is:List Nat}{d:Option Nat}{e:TypeId}(ho:qS n ops i d (.alloc e)){z:List af}(hz:co P e=some z)
  {T:Tr af} {a:Act} (R:Rel Prot w0 ρ H w) (ht:aH ρ n T a.tmps) (hd:a.defers=ds) {b:Nat} (hdead:Prot.dead b) (hx:H.get b=some (.cells z 0 false))
  (hk:∀ρ1 a1 w1,ρ.le ρ1->Rel ⟨Prot.prot,fun d=>Prot.dead d/\d≠b⟩ w0 ρ1 H w1->aH ρ1 n (aK T d (.ptr (some ⟨b,z.length,0⟩))) a1.tmps->a1.defers=ds->wpOps P ops Q is a1 w1):wpOps P ops Q (i::is) a w:=by
 obtain⟨ρ1,w1,u,q1,q2,q3,q4⟩:=sq (P:=P) R ht (o:=jw ops i) (s:=none) (.inl ⟨e,ho.op,hz,rfl⟩) hdead hx
 have hd':∀u,(a.put d u).defers=ds:=fun u=>by cases d <;> simpa[Act.put] using hd
 refine pn ho q2 (hk ρ1 _ _ q1 q3 (bn (ht.mono q1) ho.ok q4) (hd' _))
end
abbrev nN:=List UInt8×af
def Ca(N:Nat)(g:FuncId)(rv:af)(i:Nat):af:=.func (.func g) [] [rv,.ptr (some ⟨N+2*i,1,0⟩),.ptr (some ⟨N+2*i+1,1,0⟩)]
def eE(N:Nat)(g:FuncId)(rv:af)(s:Nat->Bool):Nat->List nN->List fP
 | _,[]=>[]
 | i,(nm,v)::r=>(.str nm,bif s i then Ca N g rv i else v,i)::eE N g rv s (i+1) r
structure LH(N m:Nat)(g:FuncId)(rv:af)(ks:List nN)(H0:ae)(s:Nat->Bool)(H:ae):Prop where
 next:H.next=N+2*ks.length
 old:∀b,b<N->b≠m->H.get b=H0.get b
 map:H.get m=some (.map (eE N g rv s 0 ks) ks.length)
 nm:∀i p,ks[i]?=some p->H.get (N+2*i)=some (.cells [bif s i then .str p.1 else .str []] (bif s i then 1 else 0) false)
 dv:∀i p,ks[i]?=some p->H.get (N+2*i+1)=some (.cells [bif s i then p.2 else .nilFunc] (bif s i then 1 else 0) false)
def EN(N:Nat)(ks:List nN)(s:Nat->Bool)(d:Nat):Prop:=∃i,i<ks.length/\s i=false/\(d=N+2*i∨d=N+2*i+1)
def CM(s:Nat->Bool)(i:Nat):Nat->Bool:=fun j=>bif Nat.beq j i then true else s j
theorem fS(s:Nat->Bool)(i:Nat):CM s i i=true:=by simp[CM,Nat.beq_refl]
theorem kw{s:Nat->Bool}{i j:Nat}(h:j≠i):CM s i j=s j:=by
 unfold CM
 rw[dy,decide_eq_false h]; rfl
section
variable {N:Nat} {g:FuncId} {rv:af}
theorem vN(s:Nat->Bool):∀(ks:List nN) (k:Nat),(eE N g rv s k ks).length=ks.length
 | [],_=>rfl
 | (_,_)::r,k=>by simp only[eE,ND,vN s r]
theorem oi(s:Nat->Bool):∀(ks:List nN) (k i:Nat) (p:nN),ks[i]?=some p->(eE N g rv s k ks)[i]?=some (.str p.1,bif s (k+i) then Ca N g rv (k+i) else p.2,k+i)
 | [],_,_,_,h=>by simp at h
 | (nm,v)::r,k,0,p,h=>by
  simp only[NI,sJ]at h
  subst h
  simp[eE]
 | (nm,v)::r,k,i+1,p,h=>by
  simp only[NJ]at h
  have:=oi s r (k+1) i p h
  simp only[eE,NJ,this]
  rw[show k+1+i=k+(i+1) by omega]
theorem se(s:Nat->Bool):∀(ks:List nN) (k j i:Nat) (p:nN),(ks.map (·.1)).Nodup->ks[i]?=some p->bR .str (.str p.1) (eE N g rv s k ks) j=some (some (j+i,(.str p.1,bif s (k+i) then Ca N g rv (k+i) else p.2,k+i)))
 | [],_,_,_,_,_,h=>by simp at h
 | (nm,v)::r,k,j,0,p,_,h=>by
  simp only[NI,sJ]at h
  subst h
  simp[eE,bR,qC]
 | (nm,v)::r,k,j,i+1,p,hn,h=>by
  simp only[NJ]at h
  simp only[List.map_cons,List.nodup_cons]at hn
  have hne:(p.1==nm)=false:=by
   cases hh:p.1==nm with
   | false=>rfl
   | true=>
    rw[beq_iff_eq]at hh
    exact absurd (List.mem_map.2 ⟨p,NH h,hh⟩) hn.1
  have:=se s r (k+1) (j+1) i p hn.2 h
  simp only[eE,bR,qC,hne,this]
  rw[show k+1+i=k+(i+1) by omega,show j+1+i=j+(i+1) by omega]
theorem vM(s:Nat->Bool):∀(ks:List nN) (k i:Nat) (p:nN),ks[i]?=some p->jA (eE N g rv s k ks) i (.str p.1,Ca N g rv (k+i),k+i)=eE N g rv (CM s (k+i)) k ks
 | [],_,_,_,h=>by simp at h
 | (nm,v)::r,k,0,p,h=>by
  simp only[NI,sJ]at h
  subst h
  have tail:∀(r:List nN) (j:Nat),k<j->eE N g rv s j r=eE N g rv (CM s k) j r:=by
   intro r
   induction r with
   | nil=>intro j _; rfl
   | cons q r ih=>
    intro j hj
    obtain⟨a,b⟩:=q
    simp only[eE,ih (j+1) om]
    rw[kw (show j≠k by omega)]
  simp only[eE,jA,Nat.add_zero,tail r (k+1) om,fS,cond_true]
 | (nm,v)::r,k,i+1,p,h=>by
  simp only[NJ]at h
  have:=vM s r (k+1) i p h
  rw[show k+1+i=k+(i+1) by omega]at this
  simp only[eE,jA,this]
  rw[kw (show k≠k+(i+1) by omega)]
theorem jH{H:ae}{b:Nat}{y x:af}(hx:x.cells=[x])(h1:x.one=true)(hg:H.get b=some (.cells [y] 0 false)):bB 1 H (.ptr (some ⟨b,1,0⟩)) x=some (H.set b (.cells [x] 1 false)):=by
 have e:Nat.ble 0 1=true:=rfl
 have e':Nat.ble 1 1=true:=rfl
 simp[bB,cG,hx,hg,h1,e,e']
theorem kQ{H:ae}{b low:Nat}{y:af}(hl:low<=1)(hg:H.get b=some (.cells [y] low false)):bg false 1 H (.ptr (some ⟨b,1,0⟩))=some y:=by
 have e':Nat.ble 1 1=true:=rfl
 simp[bg,aT,hg,NB hl,e']
end
end Go.Abs
namespace Go.Abs
structure uh(P:Program)(n:Nat)(A4 A5 A6:Array Oper)(g:FuncId)(t0 t1:TypeId):Prop where
 n4:A4.size=2
 nx:qS n A4 0 (some 23) (.next (.tmp 22) false)
 ex:qB P n A4 1 (some 24) (.extract 0 (.t 23))
 n5:A5.size=7
 en:qS n A5 0 (some 25) (.entry (.tmp 22))
 e0:qB P n A5 1 (some 26) (.extract 0 (.t 25))
 e1:qB P n A5 2 (some 27) (.extract 1 (.t 25))
 a0:qS n A5 3 (some 5) (.alloc t0)
 z0:co P t0=some [.str []]
 a1:qS n A5 4 (some 6) (.alloc t1)
 z1:co P t1=some [.nilFunc]
 s0:qB P n A5 5 none (.store 1 (.t 5) (.t 26))
 s1:qB P n A5 6 none (.store 1 (.t 6) (.t 27))
 n6:A6.size=4
 m0:qB P n A6 0 (some 28) (.mv (.t 4))
 m1:qB P n A6 1 (some 29) (.load false 1 (.t 5))
 m2:qB P n A6 2 (some 30) (.mkFunc (.func g) [] [.t 1,.t 5,.t 6])
 m3:qB P n A6 3 none (.hf (.mf (.upd .str)) [.t 28,.t 29,.t 30])
structure FP(Prot:Gh)(w0:World)(ds:List Deferred)(n N m:Nat)(g:FuncId)(rv:af)(ks:List nN)(H0:ae)(it:Nat)(s:Nat->Bool)(ρ:Pl)(T:Tr af)(H:ae)(a:Act)(w:World)(seen:Array Nat)(L:Loc):Prop where
 rel:Rel ⟨Prot.prot,fun d=>Prot.dead d∨EN N ks s d⟩ w0 ρ H w
 lh:LH N m g rv ks H0 s H
 ht:aH ρ n T a.tmps
 hd:a.defers=ds
 t1:T.get 1=some rv
 t4:T.get 4=some (.map (some m))
 t22:T.get 22=some (.val (.pointer (some ⟨it,0,none⟩)))
 mp:ρ m 0=some L
 hi:w.heap[it]?=some (.mapIter (some L.c) ks.length seen ks.length)
 sn:∀i,i<ks.length->seen.contains i=s i
section
variable {ρ:Pl}
theorem aq.len:∀{es:List fP} {ES:List MapEntry},aq ρ es ES->es.length=ES.length
 | [],ES,h=>by simp only[aq]at h; subst h; rfl
 | x::l,ES,h=>by
  simp only[aq]at h
  obtain⟨e,r,rfl,_,h⟩:=h
  simp[aq.len h]
theorem aq.at_:∀{es:List fP} {ES:List MapEntry},aq ρ es ES->∀{i:Nat} {x:fP},es[i]?=some x->∃E,ES[i]?=some E/\iF ρ x E
 | [],_,_,i,x,hx=>by simp at hx
 | y::l,ES,h,i,x,hx=>by
  simp only[aq]at h
  obtain⟨e,r,rfl,h1,h⟩:=h
  cases i with
  | zero=>simp only[NI,sJ]at hx; subst hx; exact⟨e,rfl,h1⟩
  | succ i=>simp only[NJ]at hx ⊢; exact aq.at_ h hx
end
section
variable {P:Program} {Prot:Gh} {w0:World} {ds:List Deferred} {n N m:Nat} {g:FuncId} {rv:af} {ks:List nN} {H0:ae} {it:Nat} {tb:FuncId->Bool} {A4 A5 A6:Array Oper} {t0 t1:TypeId}
theorem AC{s:Nat->Bool}{ρ:Pl}{ES:List MapEntry}(hE:aq ρ (eE N g rv s 0 ks) ES):ES.length=ks.length/\∀(i:Nat) (E:MapEntry),ES[i]?=some E->E.born=i/\i<ks.length:=by
 have hl:=hE.len
 rw[vN]at hl
 refine⟨hl.symm,fun i E h=>?_⟩
 have hlt:=(NA.1 h).1
 have hk:i<ks.length:=om
 obtain⟨E',h1,h2⟩:=hE.at_ (oi s ks 0 i ks[i] (Nz hk))
 rw[h]at h1
 simp only[sJ]at h1
 subst h1
 exact⟨by have:=h2.2.2; simpa using this,hk⟩
theorem p8{ES:List MapEntry}(h:∀(i:Nat) (E:MapEntry),ES[i]?=some E->E.born=i):(ES.map (·.born)).Nodup:=by
 have e:ES.map (·.born)=List.range ES.length:=by
  apply List.ext_getElem?
  intro i
  rw[List.getElem?_map]
  cases hi:ES[i]? with
  | none=>
   rw[List.getElem?_eq_none_iff]at hi
   rw[NQ (by simpa using hi)]; rfl
  | some E=>
   have hlt:=(NA.1 hi).1
   rw[Option.map_some,h i E hi,List.getElem?_range hlt]
 rw[e]
 exact List.nodup_range
theorem r8{a:Act}{w:World}{ty:Nat}{x:Value}(ho:qS n A4 0 (some 23) (.next (.tmp 22) false))(hx:a.eval (.tmp 22)=x){r:Result Value}(hr:∀ty,(Instr.next x false ty).run P w=r){u:Value}{w1:World}(hr':r=.ok u w1) :
  (execOp a.eval (jw A4 0)).run P w=.ok (.value u) w1:=by
 have h:=ho.op
 generalize jw A4 0=oo at *
 obtain⟨dst,op,type,pos,after,guard⟩:=oo
 simp only at h
 subst h
 show (do pure (Next.value (<- Instr.next (a.eval (.tmp 22)) false type)):Sem Next).run P w=_
 rw[hx]
 simp only[Sem.run_bind,hr type,hr',Result.andThen_ok]
 rfl
theorem yg{a:Act}{w:World}{x:Value}(ho:qS n A5 0 (some 25) (.entry (.tmp 22)))(hx:a.eval (.tmp 22)=x){u:Value}{w1:World}(hr:(Instr.entry x).run P w=.ok u w1) :
  (execOp a.eval (jw A5 0)).run P w=.ok (.value u) w1:=by
 have h:=ho.op
 generalize jw A5 0=oo at *
 obtain⟨dst,op,type,pos,after,guard⟩:=oo
 simp only at h
 subst h
 show (do pure (Next.value (<- Instr.entry (a.eval (.tmp 22)))):Sem Next).run P w=_
 rw[hx]
 simp only[Sem.run_bind,hr,Result.andThen_ok]
 rfl
theorem eD{T:Tr af}{t:Nat}{v:af}(h:T.get t=some v):ev T (.t t)=v:=by simp only[ev,h]
theorem al{T:Tr af}{t k:Nat}{v:af}(h:t≠k):(T.set k v).get t=T.get t:=by rw[Tr.get_set,if_neg h]
theorem bE{T:Tr af}{k:Nat}{v:af}:(T.set k v).get k=some v:=by rw[Tr.get_set,if_pos rfl]
def wO(i4 i5 i6:Nat)(A4 A5 A6:Array Oper):Code:=.seq (.region i4 A4 false) (.seq (.cond (.tmp 24) .skip (.exit 0)) (.block 1 (.seq (.region i5 A5 false) (.region i6 A6 false))))
theorem Dx(htb:∀f,Nat.blt f bI=true->tb f=true->bc P f=true)(C:uh P n A4 A5 A6 g t0 t1)(hks:(ks.map (·.1)).Nodup)(hv:∀p∈ks,p.2.cells=[p.2]/\p.2.one=true)(hmN:m<N)(hD:∀d,Prot.dead d->d<N)(hip:¬Prot.prot it)
  {s:Nat->Bool} {ρ:Pl} {T:Tr af} {H:ae} {a:Act} {w:World} {seen:Array Nat} {L:Loc} (I:FP Prot w0 ds n N m g rv ks H0 it s ρ T H a w seen L) {i4 i5 i6:Nat} {Q:Exit->Act->World->Prop}
  (hend:(∀i,i<ks.length->s i=true)->∀ρ' T' a' w',ρ.le ρ'->FP Prot w0 ds n N m g rv ks H0 it s ρ' T' H a' w' seen L->Q (.exit 0) a' w')
  (hgo:∀i ρ' T' H' a' w' seen',i<ks.length->s i=false->ρ.le ρ'->FP Prot w0 ds n N m g rv ks H0 it (CM s i) ρ' T' H' a' w' seen' L->Q .normal a' w') :
  (wO i4 i5 i6 A4 A5 A6).wp P Q a w:=by
 obtain⟨R,lh,ht,hd,g1,g4,g22,mp,hi,sn⟩:=I
 obtain⟨L',ES,hL,_,hb,hE⟩:=kG R (mv:=.map (some L.c)) (by simp only[ag]; exact⟨L,mp,rfl⟩) lh.map
 rw[mp]at hL
 simp only[sJ]at hL
 subst hL
 obtain⟨hlen,hborn⟩:=AC hE
 have hold:∀x∈ES.toList,x.born<ks.length:=by
  intro x hx
  obtain⟨i,h⟩:=List.mem_iff_getElem?.1 hx
  have:=hborn i x h
  omega
 have ev22:a.eval (.tmp 22)=.pointer (some ⟨it,0,none⟩):=by
  have:=ht.at_ 22
  rw[eD g22]at this
  simp only[ag]at this
  exact this.1
 have w24:∀{a:Act} {T:Tr af} {ρ:Pl} {b:Bool},aH ρ n (aK T (some 24) (.bool b)) a.tmps->a.eval (.tmp 24)=.bool b:=by
  intro a T ρ b h
  have:=h.at_ 24
  rw[eD (v:=.bool b) (by simp only[aK]; exact bE)]at this
  simp only[ag]at this
  exact this
 have w22:∀(a:Act) (u:Value),a.defers=ds->(a.put (some 23) u).defers=ds:=fun a u h=>h
 unfold wO
 refine wp_seq (wp_region ?_)
 rw[C.n4]
 show wpOps P A4 _ [0,1] a w
 rcases nz (P:=P) 0 hi hb hold rL with⟨h0,_⟩ | ⟨e,he,w1,hrun,hw1,ho1,ho2,ho3⟩
 ·-- over
  have hall:∀i,i<ks.length->s i=true:=by
   intro i hlt
   cases hs:s i with
   | true=>rfl
   | false=>
    exfalso
    have hil:i<ES.toList.length:=om
    have hE':ES.toList[i]?=some ES.toList[i]:=Nz hil
    have hbi:=(hborn i _ hE').1
    have:ES.toList[i]∈(leftOf ES seen).toList:=by
     unfold leftOf
     rw[Array.toList_filter]
     refine List.mem_filter.2 ⟨List.getElem_mem hil,?_⟩
     rw[hbi,sn i hlt,hs]; rfl
    rw[Array.eq_empty_of_size_eq_zero h0]at this
    simp at this
  have hr:∀ty,(Instr.next (.pointer (some ⟨it,0,none⟩)) false ty).run P w=.ok (.tuple #[.bool false]) w:=by
   intro ty
   rcases nz (P:=P) ty hi hb hold rL with⟨_,h⟩ | ⟨e,he,_⟩
   ·exact h
   ·rw[Array.eq_empty_of_size_eq_zero h0]at he; simp at he
  refine pn C.nx (r8 (ty:=0) C.nx ev22 hr rfl) ?_
  have ht1:aH ρ n (aK T (some 23) (.tuple [.bool false])) (a.put (some 23) (.tuple #[.bool false])).tmps:=bn ht C.nx.ok (by simp[ag,ah])
  refine fV htb C.ex (R.rebase hi) ht1 (w22 a _ hd) (v:=.bool false) (H1:=H) (by simp only[bF,ev,aK,bE]; rfl) ?_
  intro ρ1 a1 w1 hle R1 ht2 hd2
  obtain⟨R2,hit⟩:=R.unbase R1
  refine wp_seq (wp_cond_false (w24 ht2) (wp_exit ?_))
  refine hend hall ρ1 _ a1 w1 hle ⟨R2,lh,ht2,hd2,?_,?_,?_,hle _ _ _ mp,hit.trans hi,sn⟩
  ·simp only[aK]; rw[al dD,al dD]; exact g1
  ·simp only[aK]; rw[al dD,al dD]; exact g4
  ·simp only[aK]; rw[al dD,al dD]; exact g22
 ·-- one that is left
  have hbound:it<w.heap.size:=(Array.getElem?_eq_some_iff.1 hi).1
  obtain⟨hm1,hm2⟩:=mem_left he
  obtain⟨i,hie⟩:=List.mem_iff_getElem?.1 hm1
  obtain⟨hbi,hik⟩:=hborn i e hie
  have hsi:s i=false:=by rw[<- sn i hik,<- hbi]; exact hm2
  obtain⟨p,hp⟩:∃p,ks[i]?=some p:=⟨_,Nz hik⟩
  obtain⟨E',hE1,hek,hev,_⟩:=hE.at_ (oi s ks 0 i p hp)
  rw[hie]at hE1
  simp only[sJ]at hE1
  subst hE1
  simp only[Nat.zero_add,hsi,cond_false]at hek hev
  have R1:Rel ⟨Prot.prot,fun d=>Prot.dead d∨EN N ks s d⟩ w0 ρ H w1:=R.iterSet hi hip ho1 ho2 ho3 hw1
  have hi1:w1.heap[it]?=some (.mapIter (some L.c) ks.length (seen.push e.born) ks.length):=by
   rw[hw1]; simp[hbound]
  have hb1:w1.heap[L.c]?=some (.map ES ks.length):=by
   rw[hw1,Array.getElem?_setIfInBounds,if_neg (fun h=>R.noIter hi mp h.symm)]; exact hb
  have hfind:ES.find? (fun x=>x.born==e.born)=some e:=by
   rw[<- Array.find?_toList]; exact find_born e _ (p8 fun i E h=>(hborn i E h).1) hm1
  refine pn C.nx (r8 (ty:=0) C.nx ev22 (fun ty=>rfl) hrun) ?_
  have ht1:aH ρ n (aK T (some 23) (.tuple [.bool true,.str p.1,p.2])) (a.put (some 23) (.tuple #[.bool true,e.key,e.val])).tmps:=
   bn ht C.nx.ok (by simp only[ag,ah]; exact⟨_,rfl,_,_,rfl,rfl,_,_,rfl,hek,_,_,rfl,hev,rfl⟩)
  refine fV htb C.ex (R1.rebase hi1) ht1 (w22 a _ hd) (v:=.bool true) (H1:=H) (by simp only[bF,ev,aK,bE]; rfl) ?_
  intro ρ2 a2 w2 hle2 R2' ht2 hd2
  obtain⟨R2,hit2⟩:=R1.unbase R2'
  have hi2:=hit2.trans hi1
  refine wp_seq (wp_cond_true (w24 ht2) (wp_skip ?_))
  refine wp_block (wp_seq (wp_region ?_))
  rw[C.n5]
  show wpOps P A5 _ [0,1,2,3,4,5,6] a2 w2
  obtain⟨L3,ES3,hL3,_,hb3,hE3⟩:=kG R2 (mv:=.map (some L.c)) (by simp only[ag]; exact⟨L,hle2 _ _ _ mp,rfl⟩) lh.map
  rw[hle2 _ _ _ mp]at hL3
  simp only[sJ]at hL3
  subst hL3
  obtain⟨hlen3,hborn3⟩:=AC hE3
  obtain⟨e3,hie3,hek3,hev3,_⟩:=hE3.at_ (oi s ks 0 i p hp)
  simp only[Nat.zero_add,hsi,cond_false]at hek3 hev3
  have hbe:e.born=e3.born:=by rw[hbi,(hborn3 i e3 hie3).1]
  have hfind3:ES3.find? (fun x=>x.born==e3.born)=some e3:=by
   rw[<- Array.find?_toList]; exact find_born e3 _ (p8 fun i E h=>(hborn3 i E h).1) (NH hie3)
  rw[hbe]at hi2
  have ev22':a2.eval (.tmp 22)=.pointer (some ⟨it,0,none⟩):=by
   have:=ht2.at_ 22
   rw[eD (v:=.val (.pointer (some ⟨it,0,none⟩))) (by simp only[aK]; rw[al dD,al dD]; exact g22)]at this
   simp only[ag]at this
   exact this.1
  refine pn C.en (yg C.en ev22' (tq hi2 hb3 hfind3)) ?_
  generalize hT2:aK (aK T (some 23) (.tuple [.bool true,.str p.1,p.2])) (some 24) (.bool true)=T2 at ht2
  have k1:T2.get 1=some rv:=by rw[<- hT2]; simp only[aK]; rw[al dD,al dD]; exact g1
  have k4:T2.get 4=some (.map (some m)):=by rw[<- hT2]; simp only[aK]; rw[al dD,al dD]; exact g4
  have k22:T2.get 22=some (.val (.pointer (some ⟨it,0,none⟩))):=by rw[<- hT2]; simp only[aK]; rw[al dD,al dD]; exact g22
  have ht3:aH ρ2 n (aK T2 (some 25) (.tuple [.str p.1,p.2])) (a2.put (some 25) (.tuple #[e3.key,e3.val])).tmps:=
   bn ht2 C.en.ok (by simp only[ag,ah]; exact⟨_,rfl,_,_,rfl,hek3,_,_,rfl,hev3,rfl⟩)
  obtain⟨hpc,hpo⟩:=hv p (NH hp)
  have hnm:=lh.nm i p hp
  have hdv:=lh.dv i p hp
  simp only[hsi,cond_false]at hnm hdv
  have RB:=R2.rebase hi2
  refine fV htb C.e0 RB ht3 (hd2:(a2.put (some 25) _).defers=ds) (v:=.str p.1) (H1:=H) (by simp only[bF,ev,aK,bE]; rfl) ?_
  intro ρ4 a4 w4 hle4 R4 ht4 hd4
  refine fV htb C.e1 R4 ht4 hd4 (v:=p.2) (H1:=H) (by simp only[bF,ev,aK]; rw[al dD,bE]; rfl) ?_
  intro ρ5 a5 w5 hle5 R5 ht5 hd5
  refine DK (b:=N+2*i) C.a0 C.z0 R5 ht5 hd5 (.inr ⟨i,hik,hsi,.inl rfl⟩) hnm ?_
  intro ρ6 a6 w6 hle6 R6 ht6 hd6
  refine DK (b:=N+2*i+1) C.a1 C.z1 R6 ht6 hd6 ⟨.inr ⟨i,hik,hsi,.inr rfl⟩,om⟩ hdv ?_
  intro ρ7 a7 w7 hle7 R7 ht7 hd7
  simp only[ND,NE,Nat.zero_add]at ht7
  refine fV htb C.s0 R7 ht7 hd7 (v:=aJ) (H1:=H.set (N+2*i) (.cells [.str p.1] 1 false)) (by
   simp only[bF,ev,aK]
   rw[al dD,bE,al dD,al dD,al dD,bE]
   simp only[jH (x:=.str p.1) rfl rfl hnm]) ?_
  intro ρ8 a8 w8 hle8 R8 ht8 hd8
  have hdv1:(H.set (N+2*i) (.cells [.str p.1] 1 false)).get (N+2*i+1)=some (.cells [.nilFunc] 0 false):=by rw[ae.get_set,if_neg om]; exact hdv
  refine fV htb C.s1 R8 ht8 hd8 (v:=aJ) (H1:=(H.set (N+2*i) (.cells [.str p.1] 1 false)).set (N+2*i+1) (.cells [p.2] 1 false)) (by
   simp only[bF,ev,aK]
   rw[bE,al dD,al dD,bE]
   simp only[jH hpc hpo hdv1]) ?_
  intro ρ9 a9 w9 hle9 R9 ht9 hd9
  generalize hH9:(H.set (N+2*i) (.cells [.str p.1] 1 false)).set (N+2*i+1) (.cells [p.2] 1 false)=H9 at R9
  generalize hT9:aK (aK (aK (aK (aK (aK (aK T2 (some 25) (.tuple [.str p.1,p.2])) (some 26) (.str p.1)) (some 27) p.2) (some 5) (.ptr (some ⟨N+2*i,1,0⟩))) (some 6) (.ptr (some ⟨N+2*i+1,1,0⟩))) none aJ) none aJ=T9 at ht9
  have j1:T9.get 1=some rv:=by rw[<- hT9]; simp only[aK]; rw[al dD,al dD,al dD,al dD,al dD]; exact k1
  have j4:T9.get 4=some (.map (some m)):=by rw[<- hT9]; simp only[aK]; rw[al dD,al dD,al dD,al dD,al dD]; exact k4
  have j22:T9.get 22=some (.val (.pointer (some ⟨it,0,none⟩))):=by rw[<- hT9]; simp only[aK]; rw[al dD,al dD,al dD,al dD,al dD]; exact k22
  have j5:T9.get 5=some (.ptr (some ⟨N+2*i,1,0⟩)):=by rw[<- hT9]; simp only[aK]; rw[al dD,bE]
  have j6:T9.get 6=some (.ptr (some ⟨N+2*i+1,1,0⟩)):=by rw[<- hT9]; simp only[aK]; rw[bE]
  have hm9:H9.get m=some (.map (eE N g rv s 0 ks) ks.length):=by rw[<- hH9,ae.get_set,if_neg om,ae.get_set,if_neg om]; exact lh.map
  have hn9:H9.get (N+2*i)=some (.cells [.str p.1] 1 false):=by rw[<- hH9,ae.get_set,if_neg om,ae.get_set,if_pos rfl]
  show Exit.then _ _ .normal a9 w9
  refine wp_region ?_
  rw[C.n6]
  show wpOps P A6 _ [0,1,2,3] a9 w9
  refine fV htb C.m0 R9 ht9 hd9 (v:=.map (some m)) (H1:=H9) (by simp only[bF,eD j4]) ?_
  intro ρa aa wa hlea Ra hta hda
  refine fV htb C.m1 Ra hta hda (v:=.str p.1) (H1:=H9) (by
   simp only[bF]
   rw[eD (show (aK T9 (some 28) (.map (some m))).get 5=_ by simp only[aK]; rw[al dD]; exact j5),kQ (Nat.le_refl 1) hn9]; rfl) ?_
  intro ρb ab wb hleb Rb htb' hdb
  refine fV htb C.m2 Rb htb' hdb (v:=Ca N g rv i) (H1:=H9) (by
   simp only[bF,eC]
   rw[eD (show (aK (aK T9 (some 28) (.map (some m))) (some 29) (.str p.1)).get 1=_ by simp only[aK]; rw[al dD,al dD]; exact j1),
    eD (show (aK (aK T9 (some 28) (.map (some m))) (some 29) (.str p.1)).get 5=_ by simp only[aK]; rw[al dD,al dD]; exact j5),
    eD (show (aK (aK T9 (some 28) (.map (some m))) (some 29) (.str p.1)).get 6=_ by simp only[aK]; rw[al dD,al dD]; exact j6)]
   rfl) ?_
  intro ρc ac wc hlec Rc htc hdc
  have hfnd:=se (N:=N) (g:=g) (rv:=rv) s ks 0 0 i p hks hp
  have hset:=vM (N:=N) (g:=g) (rv:=rv) s ks 0 i p hp
  simp only[Nat.zero_add]at hfnd hset
  have hup:me (.mf (.upd .str)) H9 [.map (some m),.str p.1,Ca N g rv i]=some (.tuple [],H9.set m (.map (eE N g rv (CM s i) 0 ks) ks.length)):=by
   simp only[me,FY,hm9,JY,qL,cond_true,hfnd,hset]
  refine fV htb C.m3 Rc htc hdc (v:=.tuple []) (H1:=H9.set m (.map (eE N g rv (CM s i) 0 ks) ks.length)) (by
   simp only[bF,eC]
   rw[eD (show (aK (aK (aK T9 (some 28) (.map (some m))) (some 29) (.str p.1)) (some 30) (Ca N g rv i)).get 28=some (.map (some m)) by simp only[aK]; rw[al dD,al dD,bE]),
    eD (show (aK (aK (aK T9 (some 28) (.map (some m))) (some 29) (.str p.1)) (some 30) (Ca N g rv i)).get 29=some (.str p.1) by simp only[aK]; rw[al dD,bE]),
    eD (show (aK (aK (aK T9 (some 28) (.map (some m))) (some 29) (.str p.1)) (some 30) (Ca N g rv i)).get 30=some (Ca N g rv i) by simp only[aK]; rw[bE])]
   rw[hup]; rfl) ?_
  intro ρd ad wd hled Rd htd hdd
  have hle9:ρ2.le ρd:=Pl.le_trans hle4 (Pl.le_trans hle5 (Pl.le_trans hle6 (Pl.le_trans hle7 (Pl.le_trans hle8 (Pl.le_trans hle9 (Pl.le_trans hlea (Pl.le_trans hleb (Pl.le_trans hlec hled))))))))
  obtain⟨Re,hite⟩:=R2.unbase Rd
  show Exit.inBlock 1 _ .normal ad wd
  refine hgo i ρd _ _ ad wd (seen.push e3.born) hik hsi (Pl.le_trans hle2 hle9) ⟨Re.fewer fun d hd=>?_,⟨?_,?_,?_,?_,?_⟩,htd,hdd,?_,?_,?_,hle9 _ _ _ (hle2 _ _ _ mp),hite.trans hi2,?_⟩
  ·rcases hd with hd | ⟨j,hj,hsj,hdj⟩
   ·have:=hD d hd
    exact⟨⟨.inl hd,om⟩,om⟩
   ·have hji:j≠i:=fun e=>by rw[e,fS]at hsj; simp at hsj
    rw[kw hji]at hsj
    exact⟨⟨.inr ⟨j,hj,hsj,hdj⟩,om⟩,om⟩
  ·show H9.next=_
   rw[<- hH9]; exact lh.next
  ·intro b hb hbm
   rw[ae.get_set,if_neg hbm,<- hH9,ae.get_set,if_neg om,ae.get_set,if_neg om]
   exact lh.old b hb hbm
  ·rw[ae.get_set,if_pos rfl]
  ·intro j q hq
   rw[ae.get_set,if_neg om,<- hH9,ae.get_set,if_neg om,ae.get_set]
   by_cases hji:j=i
   ·subst hji
    rw[hp]at hq
    simp only[sJ]at hq
    subst hq
    rw[if_pos rfl,fS]; rfl
   ·rw[if_neg om,kw hji]
    exact lh.nm j q hq
  ·intro j q hq
   rw[ae.get_set,if_neg om,<- hH9,ae.get_set]
   by_cases hji:j=i
   ·subst hji
    rw[hp]at hq
    simp only[sJ]at hq
    subst hq
    rw[if_pos rfl,fS]; rfl
   ·rw[if_neg om,ae.get_set,if_neg om,kw hji]
    exact lh.dv j q hq
  ·simp only[aK]; rw[al dD,al dD,al dD]; exact j1
  ·simp only[aK]; rw[al dD,al dD,al dD]; exact j4
  ·simp only[aK]; rw[al dD,al dD,al dD]; exact j22
  ·intro j hj
   rw[contains_push,(hborn3 i e3 hie3).1,sn j hj]
   by_cases hji:j=i
   ·subst hji; rw[fS]; simp
   ·rw[kw hji]; simp[hji]
end
end Go.Abs
