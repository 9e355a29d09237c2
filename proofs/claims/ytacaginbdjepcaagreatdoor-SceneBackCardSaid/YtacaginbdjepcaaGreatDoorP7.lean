/- Part of a proof (S10 S11 S12 S15 S13 S16 S17 S14 S18 S19 S20 S21 S22 S23 S24 S25 S26 S27 Zab VC1 ML1 ML2); no condition. -/
import Derived.ChangeArms
import Derived.ChangeSame
import Derived.SizedLaws
import Derived.Test.YtacaginbdjepcaaGreatDoorProg
import Derived.KernelRfl
import Derived.Laws.IdiomRangeMap
import Derived.Test.YtacaginbdjepcaaGreatDoorP6
set_option linter.unusedSimpArgs false
set_option linter.unusedVariables false
set_option linter.unnecessarySimpa false
namespace Go.Abs.S
open Go.Abs
theorem AP(s:List UInt8):gd true (.str s)=some (.int .i64 (s.length:Int)):=_root_.id rfl
theorem bt{s:List UInt8}{i:Nat}{b:UInt8}(h:s[i]?=some b)(k:IntKind):jg (.str s) (.int k (i:Int))=some (.int .u8 (b.toNat:Int)):=by
 show (match (s[i]?:Option UInt8) with | some b=>some (af.int .u8 b.toNat) | none=>none)=_
 rw[h]
theorem jB{y n:Nat}(h:n<=y):bd (.int .i64 (n:Int)) y=some n:=by
 show (bif Nat.ble n y then some n else none)=_
 rw[Pt h]; rfl
theorem yC{s:List UInt8}{l h:Nat}(h1:l<=h)(h2:h<=s.length):fh (.str s) (some (.int .i64 (l:Int))) (some (.int .i64 (h:Int)))=some (.str ((s.drop l).take (h-l))):=by
 simp only[fh,jh,DA,jB h2,jB h1]
theorem oW{s:List UInt8}{l:Nat}(h1:l<=s.length):fh (.str s) (some (.int .i64 (l:Int))) none=some (.str (s.drop l)):=by
 simp only[fh,jh,DA,jB h1]
 rw[List.take_of_length_le (by simp)]
theorem oX{s:List UInt8}{h:Nat}(h2:h<=s.length):fh (.str s) none (some (.int .i64 (h:Int)))=some (.str (s.take h)):=by
 simp only[fh,jh,DA,jB h2,List.drop_zero,Nat.sub_zero]
theorem AQ(x y:List UInt8):cq .eql (.str x) (.str y)=some (.bool (decide (x=y))):=by
 simp only[cq,Hj]
 by_cases h:x=y <;> simp[h]
theorem AO(x y:List UInt8):cq .neq (.str x) (.str y)=some (.bool (!decide (x=y))):=by
 simp only[cq,Hj]
 by_cases h:x=y <;> simp[h]
theorem lZ{x y:List UInt8}(h:x.length+y.length<=9223372036854775807):cq .add (.str x) (.str y)=some (.str (x++y)):=by
 simp only[cq,Hj,Pt h,cond_true]
theorem BO(k k':IntKind)(n:Int):oM k (.int k' n)=some (.int k (k.wrap n)):=by
 simp only[oM,lc]
theorem Ew(b:Bool):DV .not (.bool b)=some (.bool (!b)):=_root_.id rfl
theorem vp(k:IntKind)(a b:Int)(h:b≠0):cq .quo (.int k a) (.int k b)=some (.int k (k.wrap (a.tdiv b))):=by
 simp[cq,cy,cU,ku,h]
theorem Jc(k k':IntKind)(a:Int)(b:Nat):cq .shl (.int k a) (.int k' (b:Int))=some (.int k (k.wrap (a*2 ^ (min b k.bits)))):=by
 simp only[cq,cy,cond_true,lQ,nZ]
 rw[if_neg om]; rfl
theorem Jb(k k':IntKind)(a:Int)(b:Nat):cq .shr (.int k a) (.int k' (b:Int))=some (.int k (a.fdiv (2 ^ (min b k.bits)))):=by
 simp only[cq,cy,cond_true,lQ,nZ]
 rw[if_neg om]; rfl
theorem pF(b:Bool):(aN=af.bool b)=False:=by simp[aN]
theorem dN{a:Int}(h1:0<=a)(h2:a<=255):IntKind.u8.wrap a=a:=IntWalk.u8_in _ ⟨h1,h2⟩
end Go.Abs.S
namespace Go.Abs.S
open Go.Abs
theorem iT(n m:Nat):(BitVec.ofInt m (n:Int)).toNat=n % 2 ^ m:=by
 rw[BitVec.toNat_ofInt]
 omega
theorem Jy{a:Nat}(h:a<2 ^ 63):IntKind.i64.wrap (a:Int)=a:=by
 rw[IntKind.wrap_i64]; omega
theorem BX{a b:Nat}(ha:a<2 ^ 63)(hb:b<2 ^ 63):cq .or (.int .i64 (a:Int)) (.int .i64 (b:Int))=some (.int .i64 ((a ||| b:Nat):Int)):=by
 have e:(BitVec.ofInt IntKind.i64.bits (a:Int) ||| BitVec.ofInt IntKind.i64.bits (b:Int)).toNat=a ||| b:=by
  rw[BitVec.toNat_or,iT,iT]
  have h1:a % 2 ^ IntKind.i64.bits=a:=Nat.mod_eq_of_lt (by simp only[IntKind.bits]; omega)
  have h2:b % 2 ^ IntKind.i64.bits=b:=Nat.mod_eq_of_lt (by simp only[IntKind.bits]; omega)
  rw[h1,h2]
 simp only[cq,cy,cond_false,if_true,cU,ku,e]
 rw[Jy (Nat.or_lt_two_pow ha hb)]
theorem xU{k':IntKind}{a b:Nat}(hb:b<=63)(h:a*2 ^ b<2 ^ 63):cq .shl (.int .i64 (a:Int)) (.int k' (b:Int))=some (.int .i64 ((a*2 ^ b:Nat):Int)):=by
 rw[Jc]
 have e:min b IntKind.i64.bits=b:=by simp only[IntKind.bits]; omega
 rw[e]
 have e2:(a:Int)*2 ^ b=((a*2 ^ b:Nat):Int):=by simp
 rw[e2,Jy h]
theorem Fw(n a:Nat){b:Nat}(h:b<2 ^ n):a*2 ^ n ||| b=a*2 ^ n+b:=by
 rw[Nat.mul_comm,Nat.two_pow_add_eq_or_of_lt h]
theorem yV(a b:Int):iu (.mm false) [.int .i64 a,.int .i64 b]=some (.int .i64 (if b<a then b else a)):=by
 simp only[iu,Jk,Ml,Jl,uK,cond_false]
 by_cases h:b<a <;> simp[h]
def gY(l:List Nat):List af:=l.map fun n:Nat=>.int .u8 (n:Int)
theorem gh(l:List Nat):(gY l).length=l.length:=by simp[gY]
theorem HS{l:List Nat}{i:Nat}{n:Nat}(h:l[i]?=some n):(gY l)[i]?=some (.int .u8 (n:Int)):=by simp[gY,h]
theorem uo(l:List Nat)(i n:Nat):gY (l.set i n)=(gY l).set i (.int .u8 (n:Int)):=by simp[gY]
end Go.Abs.S
namespace Go.Abs.S
open Go.Abs
theorem fJ{a:Int}(h1:0<=a)(h2:a<4294967296):IntKind.u32.wrap a=a:=by
 rw[IntKind.wrap_u32]; omega
theorem jH{a:Int}(h1:0<=a)(h2:a<18446744073709551616):IntKind.u64.wrap a=a:=by
 rw[IntKind.wrap_u64]; omega
theorem nB{a:Nat}(b:Nat)(h:0<b)(ha:a<4294967296):cq .quo (.int .u32 (a:Int)) (.int .u32 (b:Int))=some (.int .u32 ((a / b:Nat):Int)):=by
 rw[vp _ _ _ om]
 have:(a:Int).tdiv b=((a / b:Nat):Int):=rfl
 have h2:=Nat.div_le_self a b
 rw[this,fJ (Int.natCast_nonneg _) (by generalize a / b=q at *; omega)]
theorem nA{a:Nat}(b:Nat)(h:0<b):cq .rem (.int .u32 (a:Int)) (.int .u32 (b:Int))=some (.int .u32 ((a % b:Nat):Int)):=by
 rw[vo _ _ _ om]; rfl
theorem Fo{a:Nat}(b:Nat)(h:0<b)(ha:a<18446744073709551616):cq .quo (.int .u64 (a:Int)) (.int .u64 (b:Int))=some (.int .u64 ((a / b:Nat):Int)):=by
 rw[vp _ _ _ om]
 have:(a:Int).tdiv b=((a / b:Nat):Int):=rfl
 have h2:=Nat.div_le_self a b
 rw[this,jH (Int.natCast_nonneg _) (by generalize a / b=q at *; omega)]
theorem KE{a:Nat}(b:Nat)(h:0<b):cq .rem (.int .u64 (a:Int)) (.int .u64 (b:Int))=some (.int .u64 ((a % b:Nat):Int)):=by
 rw[vo _ _ _ om]; rfl
theorem rB(k k':IntKind)(a:Nat){b:Nat}(hb:b<=k.bits):cq .shr (.int k (a:Int)) (.int k' (b:Int))=some (.int k ((a / 2 ^ b:Nat):Int)):=by
 rw[Jb,Nat.min_eq_left hb]
 congr 2
 have:((2:Int) ^ b)=((2 ^ b:Nat):Int):=by simp
 rw[this,Int.fdiv_eq_ediv_of_nonneg _ (Int.natCast_nonneg _)]
 rfl
theorem qP{a b:Nat}(ha:a<2 ^ 64)(hb:b<2 ^ 64):cq .and (.int .u64 (a:Int)) (.int .u64 (b:Int))=some (.int .u64 ((a &&& b:Nat):Int)):=by
 have e:(BitVec.ofInt IntKind.u64.bits (a:Int) &&& BitVec.ofInt IntKind.u64.bits (b:Int)).toNat=a &&& b:=by
  rw[BitVec.toNat_and,iT,iT]
  have h1:a % 2 ^ IntKind.u64.bits=a:=Nat.mod_eq_of_lt (by simp only[IntKind.bits]; omega)
  have h2:b % 2 ^ IntKind.u64.bits=b:=Nat.mod_eq_of_lt (by simp only[IntKind.bits]; omega)
  rw[h1,h2]
 simp only[cq,cy,cond_false,if_true,cU,ku,e]
 have h3:=Nat.and_lt_two_pow a hb
 rw[jH om om]
def dm(s:List UInt8):List af:=s.map fun b=>.int .u8 (b.toNat:Int)
theorem gL(s:List UInt8):(dm s).length=s.length:=by simp[dm]
theorem kj(s t:List UInt8):dm (s++t)=dm s++dm t:=by simp[dm]
theorem qK(s:List UInt8):(dm s).all af.one=true:=by simp[dm,af.one]
theorem gp:∀s:List UInt8,bytesOf (dm s)=some s
 | []=>rfl
 | b::s=>by
  have h:=gp s
  show (match bytesOf (dm s) with | some l=>some (UInt8.ofNat (Int.toNat (b.toNat:Int))::l) | none=>none)=_
  rw[h]
  simp
theorem AR(H:ae)(s:List UInt8):jf 1 H (.str s)=some (s.length,dm s):=_root_.id rfl
def kl(b cap n:Nat):af:=.slice (some ⟨b,cap,0⟩) n (.known cap)
def ug(H:ae)(b cap:Nat)(s:List UInt8):Prop:=∃l,Row H b l/\l.length=cap/\l.take s.length=dm s
theorem Ba(z:af):∀k,me [z] k=List.replicate k z
 | 0=>rfl
 | k+1=>by simp only[me,Ba z k,List.replicate_succ]; rfl
theorem GM{H:ae}(z:af)(cap:Nat)(hc:cap<=1000000):∃H',gO 1 [z] H (.int .i64 (0:Int)) (.int .i64 (cap:Int))=some (kl H.next cap 0,H')/\ug H' H.next cap []/\H'.next=H.next+1/\∀c,c≠H.next->H'.get c=H.get c:=by
 refine⟨H.push (.cells (List.replicate cap z) 0 false),?_,⟨_,jM _ _,by simp,by simp[dm]⟩,rfl,fun c hc=>by rw[ae.get_push,if_neg hc]⟩
 have h0:eq (.int .i64 (0:Int))=some 0:=rfl
 have h1:eq (.int .i64 (cap:Int))=some cap:=by
  show eq (.int .i64 (Int.ofNat cap))=some cap
  simp only[eq,Pt (show cap<=9223372036854775807 by omega),cond_true]
 simp only[gO,h0,h1,Ba,Pt (Nat.zero_le _),Pt (show 1*cap<=281474976710656 by omega),Bool.and_self,cond_true,List.length_replicate]
 rfl
theorem qV{H:ae}{b cap:Nat}{s x:List UInt8}(hb:ug H b cap s){t:af}(hs:jf 1 H t=some (x.length,dm x))(hx:x≠[])(hf:s.length+x.length<=cap)(hc:cap<=1000000) :
  ∃H',bE 1 1 H (kl b cap s.length) t=some (kl b cap (s++x).length,H')/\ug H' b cap (s++x)/\H'.next=H.next/\∀c,c≠b->H'.get c=H.get c:=by
 obtain⟨l,⟨low,h1,h2⟩,h3,h4⟩:=hb
 have hl:0<x.length:=List.length_pos_iff.2 hx
 have e0:Nat.beq x.length 0=false:=by rw[dM]; exact decide_eq_false om
 refine⟨H.set b (.cells (l.take s.length++(dm x++l.drop (s.length+x.length))) cap false),?_,⟨_,⟨cap,by rw[ae.get_set,if_pos rfl],?_⟩,?_,?_⟩,rfl,fun c hc=>by rw[ae.get_set,if_neg hc]⟩
 ·have hw:cP H ⟨b,cap,0+s.length*1⟩ (dm x)=some (H.set b (.cells (l.take s.length++(dm x++l.drop (s.length+x.length))) cap false)):=by
   unfold cP
   simp only[h1,Nat.zero_add,Nat.mul_one,Pt (show low<=cap by omega),gL,Pt hf,qK,h3,Nat.beq_refl,Bool.and_self,cond_true]
  simp only[bE,hs,e0,cond_false,kl,Nat.add_zero,Nat.mul_one,Pt (show 2*(s.length+x.length)<=281474976710656 by omega),Pt (show s.length+x.length<=9223372036854775807 by omega),gL,Nat.beq_refl,qK,Bool.and_self,show Nat.blt 0 1=true from rfl,cond_true,Pt hf,lA]
  rw[Nat.mul_one]at hw
  rw[hw]
 ·simp[dm]; omega
 ·simp[dm]; omega
 ·rw[kj,<- h4,<- PG]
  have e:(List.take s.length l++dm x).length=(s++x).length:=by simp[dm]; omega
  rw[<- e,List.take_left]
theorem Aq{H:ae}{b cap:Nat}{s:List UInt8}(hb:ug H b cap s)(hf:s.length<=cap):DL H (kl b cap s.length)=some (.str s):=by
 obtain⟨l,⟨low,h1,h2⟩,h3,h4⟩:=hb
 have hr:aT H ⟨b,cap,0⟩ s.length=some (dm s):=by
  unfold aT
  simp only[h1,Pt (show low<=cap by omega),Pt (show cap<=l.length by omega),Nat.zero_add,Pt hf,Bool.and_self,cond_true,List.drop_zero,h4]
 simp only[DL,kl,hr,gp]
theorem I9{H:ae}{b cap:Nat}{s:List UInt8}(hb:ug H b cap s)(hf:s.length<=cap):jf 1 H (kl b cap s.length)=some (s.length,dm s):=by
 obtain⟨l,⟨low,h1,h2⟩,h3,h4⟩:=hb
 have hr:aT H ⟨b,cap,0⟩ s.length=some (dm s):=by
  unfold aT
  simp only[h1,Pt (show low<=cap by omega),Pt (show cap<=l.length by omega),Nat.zero_add,Pt hf,Bool.and_self,cond_true,List.drop_zero,h4]
 simp only[jf,kl,Nat.mul_one,hr]
theorem ug.same{H H':ae}{b cap:Nat}{s:List UInt8}(h:ug H b cap s)(e:H'.get b=H.get b):ug H' b cap s:=by
 obtain⟨l,h1,h2⟩:=h
 exact⟨l,h1.same e,h2⟩
theorem oY{b cap k:Nat}(h:k<=cap)(hc:0<cap):iG cap 1 (aj b cap 0) none (some (.int .i64 (k:Int))) none=some (kl b cap k):=by
 have e:Nat.beq cap 0=false:=by rw[dM]; exact decide_eq_false om
 simp only[iG,aj,jh,DA,jB h,Option.getD_none,e,cond_false,Nat.zero_mul,Nat.add_zero,Nat.sub_zero,kl]
def nd(H:ae)(g:Nat)(l:List af):Prop:=H.get g=some (.cells l 0 true)
theorem Lc{H:ae}{g n:Nat}{l:List af}(h:nd H g l)(hn:l.length=n){i:Nat}(hi:i<n)(k:IntKind):mY (.gIdx g n 1) H [.int k (i:Int)]=some (aj g n i,H):=by
 have:zL H g=some (aj g n 0):=by
  unfold zL
  rw[h,<- hn]; rfl
 simp only[mY,Hn,this,vq hi]
theorem IO{H:ae}{g n:Nat}{l:List af}(h:nd H g l)(hn:l.length=n){i:Nat}{x:af}(hi:l[i]?=some x):bi false 1 H (aj g n i)=some x:=by
 subst hn
 have hlt:=(Ps.1 hi).1
 obtain⟨y,h4,h5⟩:=Fk (eQ h (Nat.zero_le _)) hlt
 rw[hi]at h4
 simp only[sJ]at h4
 subst h4
 simp only[Nat.zero_add]at h5
 simp only[bi,aj,h5,cond_false]
theorem nd.ext{n g:Nat}{H H':ae}{l:List af}(h:nd H g l)(hg:g<n)(e:bg n H H'):nd H' g l:=(e.old g hg).trans h
theorem bC{H:ae}{b n:Nat}{l:List af}(h:Row H b l)(hn:l.length=n){xs:List af}(hx:xs.length=n)(ho:xs.all af.one=true) :
  ∃H',bD n H (aj b n 0) (.agg xs)=some H'/\Row H' b xs/\H'.next=H.next/\∀c,c≠b->H'.get c=H.get c:=by
 subst hn
 obtain⟨low,h1,h2⟩:=h
 refine⟨H.set b (.cells xs l.length false),?_,⟨l.length,by rw[ae.get_set,if_pos rfl],om⟩,rfl,fun c hc=>by rw[ae.get_set,if_neg hc]⟩
 simp only[bD,aj,tK,hx,Nat.beq_refl,cond_true]
 unfold cP
 simp only[h1,hx,Pt h2,Nat.beq_refl,Nat.zero_add,Pt rL,ho,Bool.and_self,cond_true,List.take_zero,List.nil_append,List.drop_length,List.append_nil]
theorem dW{H:ae}{b n:Nat}{l:List af}(h:Row H b l)(hn:l.length=n):bi true n H (aj b n 0)=some (.agg l):=by
 subst hn
 obtain⟨low,h1,h2⟩:=h
 simp only[bi,aj,eQ h1 h2,cond_true]
theorem O0(b n o:Nat):gQ o (aj b n 0)=some (aj b n o):=by
 simp only[gQ,aj,Nat.zero_add]
theorem Li{T:bN}{H:ae}(g:Bool)(n i:Nat)(K:af->ae->Prop){v:af}(h:bi g n H (T i)=some v)(hk:K v H):ij [.cell g n i] K .ret T H:=by
 simp only[ij,nf,h,cO]; exact hk
theorem Gn{T:bN}{H:ae}(g g':Bool)(n n' i i':Nat)(K:af->ae->Prop){v v':af}(h:bi g n H (T i)=some v)(h':bi g' n' H (T i')=some v')(hk:K (.tuple [v,v']) H):ij [.cell g n i,.cell g' n' i'] K .ret T H:=by
 simp only[ij,nf,h,h',cO]; exact hk
theorem gH{T:bN}{H:ae}(K:af->ae->Prop):ij [] K .normal T H=K (.tuple []) H:=by
 simp only[ij,nf,cO]; rfl
end Go.Abs.S
namespace Go.Abs.S
open Go.Abs
def bX(l:List (List UInt8)):List af:=l.map .str
theorem ei{l:List (List UInt8)}{i:Nat}{s:List UInt8}(h:l[i]?=some s):(bX l)[i]?=some (.str s):=by simp[bX,h]
end Go.Abs.S
namespace Go.Abs.S
open Go.Abs Go.WideShapes Go.ChangeShapes
variable {H:Type} {enc:TypeId×Value->H}
end Go.Abs.S
namespace Go.Abs.S
open Go.Abs Go.WideShapes Go.ChangeShapes
variable {H:Type} {enc:TypeId×Value->H}
theorem GG{w:World}{b:Nat}{c off:Nat}{n:Nat}{cs:List Value}(h:w.cells? b ⟨c,off,none⟩ n=some cs):cs.length=n/\∀i,i<n->w.cell? ⟨c,off+i,none⟩=cs[i]?:=by
 unfold World.cells? at h
 split at h
 ·have key:∀(l:List Nat) (cs:List Value),l.mapM (fun i=>w.cell? ((⟨c,off,none⟩:Addr).add i))=some cs->cs.length=l.length/\∀(i j:Nat),l[i]?=some j->w.cell? ((⟨c,off,none⟩:Addr).add j)=cs[i]?:=by
   intro l
   induction l with
   | nil=>intro cs h; simp at h; subst h; simp
   | cons x l ih=>
    intro cs h
    simp only[List.mapM_cons]at h
    cases hx:w.cell? ((⟨c,off,none⟩:Addr).add x) with
    | none=>rw[hx]at h; simp at h
    | some v=>
     rw[hx]at h
     cases hr:l.mapM (fun i=>w.cell? ((⟨c,off,none⟩:Addr).add i)) with
     | none=>rw[hr]at h; simp at h
     | some vs=>
      rw[hr]at h
      simp at h
      subst h
      obtain⟨h1,h2⟩:=ih vs hr
      refine⟨by simp[h1],fun i j hj=>?_⟩
      cases i with
      | zero=>simp at hj; subst hj; simpa using hx
      | succ i=>simpa using h2 i j (by simpa using hj)
  obtain⟨h1,h2⟩:=key _ _ h
  refine⟨by simpa using h1,fun i hi=>?_⟩
  have:=h2 i i (by simp[hi])
  rwa [cT]at this
 ·simp at h
end Go.Abs.S
namespace Go.Abs.S
open Go.Abs Go.WideShapes Go.ChangeShapes
variable {H:Type} {enc:TypeId×Value->H}
end Go.Abs.S
namespace Go.Abs.S
open Go.Abs
def dI(m n:Nat)(H:ae)(s:af)(L:List af)(k:Nat):Prop:=
 (s=cz/\L=[]/\k=0)∨∃b low,s=.slice (some ⟨b,L.length,0⟩) k (.open_ m)/\L.length=m*k/\n<=b/\b<H.next/\H.get b=some (.cells L low false)/\low<=L.length/\0<k
theorem dI.nil(m n:Nat)(H:ae):dI m n H cz [] 0:=.inl ⟨rfl,rfl,rfl⟩
theorem dI.ext{m n k:Nat}{H H':ae}{s:af}{L:List af}(h:dI m n H s L k)(e:bg H.next H H'):dI m n H' s L k:=by
 rcases h with h | ⟨b,low,h1,h2,h3,h4,h5,h6⟩
 ·exact .inl h
 ·exact .inr ⟨b,low,h1,h2,h3,PH h4 e.next,(e.old b h4).trans h5,h6⟩
theorem dI.len{m n k:Nat}{H:ae}{s:af}{L:List af}(h:dI m n H s L k):gd false s=some (.int .i64 (k:Int)):=by
 rcases h with⟨rfl,_,rfl⟩ | ⟨b,low,rfl,_⟩ <;> rfl
theorem dI.blk{m n k:Nat}{H:ae}{s:af}{L:List af}(h:dI m n H s L k):∀a j r,s=.slice (some a) j r->a.b<H.next:=by
 intro a j r he
 rcases h with⟨rfl,_⟩ | ⟨b,low,rfl,_,_,h4,_⟩
 ·simp[cz]at he
 ·simp only[af.slice.injEq,sJ]at he
  rw[<- he.1]; exact h4
def p8(H:ae)(m:Nat):af:=.slice (some ⟨H.next,m,0⟩) 1 (.known 1)
theorem qL{m:Nat}{z xs:List af}(H:ae)(hz:z.length=m)(hx:xs.length=m):cf 1 z H [(0,m,.agg xs)]=some (p8 H m,H.push (.cells xs 0 false)):=by
 subst hz
 have hb:Nat.beq xs.length z.length=true:=by rw[hx]; exact Nat.beq_refl _
 simp only[cf,me,List.append_nil,k8,tK,hx,Nat.beq_refl,Nat.zero_add,Pt rL,Bool.and_self,cond_true,pO,List.take_zero,List.nil_append,List.drop_length,List.append_nil,p8]
theorem EQ{m:Nat}{xs:List af}(H:ae)(hx:xs.length=m):jf m (H.push (.cells xs 0 false)) (p8 H m)=some (1,xs):=by
 subst hx
 have:=eQ (H:=H.push (.cells xs 0 false)) (b:=H.next) (l:=xs) (low:=0) (ro:=false) (by rw[ae.get_push,if_pos rfl]) (Nat.zero_le _)
 simp only[jf,p8,Nat.one_mul,this]
theorem dI.push{m n k:Nat}{H:ae}{s:af}{L:List af}(h:dI m n H s L k)(hn:n<=H.next){xs:List af}(hx:xs.length=m)(ho:xs.all af.one=true)(hm:0<m){bytes:Nat}(hb:2*(k+1)*bytes<=281474976710656)(hb1:0<bytes) :
  ∃s' H',bE m bytes (H.push (.cells xs 0 false)) s (p8 H m)=some (s',H')/\dI m n H' s' (L++xs) (k+1)/\bg n H H'/\∀c,c<H.next->(∀a j r,s=.slice (some a) j r->c≠a.b)->H'.get c=H.get c:=by
 have hlen:k+1<=9223372036854775807:=by
  have:2*(k+1)<=2*(k+1)*bytes:=Nat.le_mul_of_pos_right _ hb1
  omega
 have hlt:Nat.blt 0 m=true:=by simpa[Nat.blt_eq] using hm
 have c1:∀j,j=k->(Nat.blt 0 m&&(Nat.ble ((2*(j+1)+0)*bytes) 281474976710656&&(Nat.ble (j+1) 9223372036854775807&&(Nat.beq xs.length (1*m)&&xs.all af.one))))=true:=by
  intro j hj
  subst hj
  simp only[Nat.add_zero,Pt hb,Pt hlen,hx,Nat.one_mul,Nat.beq_refl,ho,hlt,Bool.and_self]
 rcases h with⟨rfl,rfl,rfl⟩ | ⟨b,low,rfl,h2,h3,h4,h5,h6,h7⟩
 ·refine⟨.slice (some ⟨H.next+1,m,0⟩) 1 (.open_ m),(H.push (.cells xs 0 false)).push (.cells xs 0 false),?_,.inr ⟨H.next+1,0,by simp[hx],by simp[hx],om,Nat.lt_succ_self _,?_,Nat.zero_le _,om⟩,((bg.refl n H).push hn _).push (by rw[aR]; omega) _,fun c hc _=>by rw[ae.get_push,if_neg (by rw[aR]; omega),aU hc]⟩
  ·simp only[bE,EQ H hx,cz]
   rw[show Nat.beq 1 0=false from rfl,cond_false,c1 0 rfl,cond_true,hx]
   rfl
  ·rw[ae.get_push]; exact if_pos rfl
 ·have hg:(H.push (.cells xs 0 false)).get b=some (.cells L low false):=by rw[ae.get_push,if_neg om]; exact h5
  have hgrow:cM (H.push (.cells xs 0 false)) ⟨b,L.length,0⟩ L.length xs=some ((H.push (.cells xs 0 false)).set b (.cells (L++xs) low false)):=by
   unfold cM
   simp only[hg,Pt h6,Pt rL,Pt (Nat.zero_le _),Pt (show L.length+1<=L.length+xs.length by omega),Nat.beq_refl,ho,Bool.and_self,cond_true,List.take_length]
  refine⟨.slice (some ⟨b,L.length+m,0⟩) (k+1) (.open_ m),(H.push (.cells xs 0 false)).set b (.cells (L++xs) low false),?_,.inr ⟨b,low,by simp[hx],by rw[lA,h2,hx,Nat.mul_add,Nat.mul_one],h3,by rw[iL,aR]; omega,by rw[ae.get_set,if_pos rfl],by simp; omega,om⟩,((bg.refl n H).push hn _).set h3 _,fun c hc hd=>by rw[ae.get_set,if_neg (hd _ _ _ rfl),aU hc]⟩
  have e0:0+k*m=L.length:=by rw[h2,Nat.mul_comm]; omega
  have e1:Nat.ble (0+(k+1)*m) L.length=false:=by
   rw[jz]; refine decide_eq_false ?_
   rw[Nat.add_mul,Nat.one_mul]; omega
  simp only[bE,EQ H hx]
  rw[show Nat.beq 1 0=false from rfl,cond_false,c1 k rfl,cond_true]
  simp only[Nat.beq_refl,cond_true,e1,cond_false,e0,hgrow,hx]
theorem OV{b lim k m:Nat}(K:IntKind){i:Nat}(h:i<k):gP m (.slice (some ⟨b,lim,0⟩) k (.open_ m)) (.int K (i:Int))=some (aj b lim (i*m)):=by
 show (bif Nat.blt i k then some (af.ptr (some ⟨b,lim,0+i*m⟩)) else none)=_
 have:Nat.blt i k=true:=by simpa[Nat.blt_eq] using h
 rw[this,Nat.zero_add]; rfl
end Go.Abs.S
namespace Go.Abs.S
open Go.Abs
def ed(v:af)(P:Nat->Prop):Prop:=∀a m r,v=.slice (some a) m r->P a.b
theorem ed.mono{v:af}{P Q:Nat->Prop}(h:ed v P)(k:∀b,P b->Q b):ed v Q:=fun a m r e=>k _ (h a m r e)
theorem IG{s:af}(h:Nz s=true):s.one=true:=by
 rcases nJ h with rfl | ⟨a,rfl⟩ <;> rfl
theorem po(P:Nat->Prop):ed cz P:=by intro a m r h; simp[cz]at h
theorem fT{a:Ad}{m:Nat}{r:rR}{P:Nat->Prop}(h:P a.b):ed (.slice (some a) m r) P:=by
 intro a' m' r' e
 simp only[af.slice.injEq,sJ]at e
 rw[<- e.1]; exact h
theorem ed.and{v:af}{P Q:Nat->Prop}(h:ed v P)(k:ed v Q):ed v fun b=>P b/\Q b:=fun a m r e=>⟨h a m r e,k a m r e⟩
theorem yQ{H:ae}{b n:Nat}{l:List af}(h:Row H b l)(hn:l.length=n){i k:Nat}(hik:i+k<=n):aT H ⟨b,n,i⟩ k=some ((l.drop i).take k):=by
 subst hn
 obtain⟨low,h1,h2⟩:=h
 unfold aT
 simp only[h1,Pt h2,Pt rL,Pt hik,Bool.and_self,cond_true]
theorem nz{H:ae}{b n:Nat}{l:List af}(h:Row H b l)(hn:l.length=n){i k:Nat}(hik:i+k<=n):bi true k H (aj b n i)=some (.agg ((l.drop i).take k)):=by
 simp only[bi,aj,yQ h hn hik,cond_true]
theorem aF(b n i o:Nat):gQ o (aj b n i)=some (aj b n (i+o)):=_root_.id rfl
theorem aI(b n i:Nat):ck (aj b n i)=some (aj b n i):=_root_.id rfl
theorem dI.blk'{m n k:Nat}{H:ae}{s:af}{L:List af}(h:dI m n H s L k):ed s (·<H.next):=fun a j r e=>h.blk a j r e
theorem dI.same{m n k:Nat}{H H':ae}{s:af}{L:List af}(h:dI m n H s L k)(hn:H.next<=H'.next)(e:ed s fun b=>H'.get b=H.get b):dI m n H' s L k:=by
 rcases h with h | ⟨b,low,rfl,h2,h3,h4,h5,h6,h7⟩
 ·exact .inl h
 ·exact .inr ⟨b,low,rfl,h2,h3,om,(e _ _ _ rfl).trans h5,h6,h7⟩
theorem dI.one{m n k:Nat}{H:ae}{s:af}{L:List af}(h:dI m n H s L k):s.one=true:=by
 rcases h with⟨rfl,_⟩ | ⟨b,low,rfl,_⟩ <;> rfl
theorem dI.pushB{m k:Nat}{H:ae}{s:af}{L:List af}(h:dI m 0 H s L k){xs:List af}(hx:xs.length=m)(ho:xs.all af.one=true)(hm:0<m){bytes:Nat}(hb:2*(k+1)*bytes<=281474976710656)(hb1:0<bytes) :
  ∃s' H',bE m bytes (H.push (.cells xs 0 false)) s (p8 H m)=some (s',H')/\dI m 0 H' s' (L++xs) (k+1)/\H.next<=H'.next/\(∀P,ed s P->ed s' fun b=>P b∨H.next<=b)/\∀c,c<H.next->ed s (c≠·)->H'.get c=H.get c:=by
 rcases h with⟨rfl,rfl,rfl⟩ | ⟨b,low,rfl,h2,h3,h4,h5,h6,h7⟩
 ·obtain⟨s',H',h1,h2,h3,h4⟩:=(dI.nil m H.next H).push rL hx ho hm hb hb1
  refine⟨s',H',h1,?_,h3.next,fun P _=>?_,fun c hc _=>h3.old c hc⟩
  ·rcases h2 with h2 | ⟨b,low,e1,e2,e3,e4,e5,e6,e7⟩
   ·exact .inl h2
   ·exact .inr ⟨b,low,e1,e2,Nat.zero_le _,e4,e5,e6,e7⟩
  ·rcases h2 with⟨_,_,h2⟩ | ⟨b,low,rfl,e2,e3,e4,e5,e6,e7⟩
   ·omega
   ·exact fT (.inr e3)
 ·have h0:dI m 0 H (.slice (some ⟨b,L.length,0⟩) k (.open_ m)) L k:=.inr ⟨b,low,rfl,h2,h3,h4,h5,h6,h7⟩
  have hb':dI m b H (.slice (some ⟨b,L.length,0⟩) k (.open_ m)) L k:=.inr ⟨b,low,rfl,h2,Nat.le_refl _,h4,h5,h6,h7⟩
  have hlen:k+1<=9223372036854775807:=by
   have:2*(k+1)<=2*(k+1)*bytes:=Nat.le_mul_of_pos_right _ hb1
   omega
  have hlt:Nat.blt 0 m=true:=by simpa[Nat.blt_eq] using hm
  have c1:(Nat.blt 0 m&&(Nat.ble ((2*(k+1)+0)*bytes) 281474976710656&&(Nat.ble (k+1) 9223372036854775807&&(Nat.beq xs.length (1*m)&&xs.all af.one))))=true:=by
   simp only[Nat.add_zero,Pt hb,Pt hlen,hx,Nat.one_mul,Nat.beq_refl,ho,hlt,Bool.and_self]
  have hg:(H.push (.cells xs 0 false)).get b=some (.cells L low false):=by rw[ae.get_push,if_neg om]; exact h5
  have hgrow:cM (H.push (.cells xs 0 false)) ⟨b,L.length,0⟩ L.length xs=some ((H.push (.cells xs 0 false)).set b (.cells (L++xs) low false)):=by
   unfold cM
   simp only[hg,Pt h6,Pt rL,Pt (Nat.zero_le _),Pt (show L.length+1<=L.length+xs.length by omega),Nat.beq_refl,ho,Bool.and_self,cond_true,List.take_length]
  have e0:0+k*m=L.length:=by rw[h2,Nat.mul_comm]; omega
  have e1:Nat.ble (0+(k+1)*m) L.length=false:=by
   rw[jz]; refine decide_eq_false ?_
   rw[Nat.add_mul,Nat.one_mul]; omega
  refine⟨.slice (some ⟨b,L.length+m,0⟩) (k+1) (.open_ m),(H.push (.cells xs 0 false)).set b (.cells (L++xs) low false),?_,.inr ⟨b,low,by simp[hx],by rw[lA,h2,hx,Nat.mul_add,Nat.mul_one],Nat.zero_le _,by rw[iL,aR]; omega,by rw[ae.get_set,if_pos rfl],by simp; omega,om⟩,by rw[iL,aR]; omega,fun P hP=>(have hP2:P b:=hP _ _ _ rfl; fT (.inl hP2)),fun c hc hd=>by rw[ae.get_set,if_neg (hd _ _ _ rfl),aU hc]⟩
  simp only[bE,EQ H hx]
  rw[show Nat.beq 1 0=false from rfl,cond_false,c1,cond_true]
  simp only[Nat.beq_refl,cond_true,e1,cond_false,e0,hgrow,hx]
end Go.Abs.S
namespace Go.Abs.S
open Go.Abs
def rz(m n:Nat)(H:ae)(s:af)(L:List af)(k:Nat):Prop:=
 dI m n H s L k∨∃b cap low C,s=.slice (some ⟨b,C.length,0⟩) k (.known cap)/\H.get b=some (.cells C low false)/\low<=C.length/\C.length=cap*m/\C.take (k*m)=L/\L.length=k*m/\k<=cap/\b<H.next/\n<=b
theorem rz.make{m bytes cap:Nat}{z:List af}(H:ae)(hz:z.length=m)(hb:bytes*cap<=281474976710656)(hc:cap<=1000000){n:Nat}(hn:n<=H.next) :
  ∃s H',gO bytes z H (.int .i64 (0:Int)) (.int .i64 (cap:Int))=some (s,H')/\rz m n H' s [] 0/\bg H.next H H'/\H'.next=H.next+1/\ed s (·=H.next):=by
 have hr:(me z cap).length=cap*m:=by
  clear hb hc
  induction cap with
  | zero=>simp[me]
  | succ k ih=>simp only[me,lA,ih,hz,Nat.add_mul]; omega
 refine⟨.slice (some ⟨H.next,(me z cap).length,0⟩) 0 (.known cap),H.push (.cells (me z cap) 0 false),?_,.inr ⟨H.next,cap,0,me z cap,rfl,by rw[ae.get_push,if_pos rfl],Nat.zero_le _,hr,by simp,by simp,Nat.zero_le _,Nat.lt_succ_self _,hn⟩,(bg.refl _ H).push rL _,rfl,fT rfl⟩
 have h0:eq (.int .i64 (0:Int))=some 0:=rfl
 have h1:eq (.int .i64 (cap:Int))=some cap:=by
  show eq (.int .i64 (Int.ofNat cap))=some cap
  simp only[eq,Pt (show cap<=9223372036854775807 by omega),cond_true]
 simp only[gO,h0,h1,Pt (Nat.zero_le _),Pt hb,Bool.and_self,cond_true]
theorem rz.len{m n k:Nat}{H:ae}{s:af}{L:List af}(h:rz m n H s L k):gd false s=some (.int .i64 (k:Int)):=by
 rcases h with h | ⟨b,cap,low,C,rfl,_⟩
 ·exact h.len
 ·rfl
theorem rz.same{m k:Nat}{H H':ae}{s:af}{L:List af}(h:rz m 0 H s L k)(hn:H.next<=H'.next)(e:ed s fun c=>H'.get c=H.get c):rz m 0 H' s L k:=by
 rcases h with h | ⟨b,cap,low,C,rfl,h2,h3,h4,h5,h6,h7,h8,h9⟩
 ·exact .inl (h.same hn e)
 ·exact .inr ⟨b,cap,low,C,rfl,(e _ _ _ rfl).trans h2,h3,h4,h5,h6,h7,om,h9⟩
theorem rz.blk{m n k:Nat}{H:ae}{s:af}{L:List af}(h:rz m n H s L k):ed s (·<H.next):=by
 rcases h with h | ⟨b,cap,low,C,rfl,h2,h3,h4,h5,h6,h7,h8,h9⟩
 ·exact h.blk'
 ·exact fT h8
theorem rz.push{m k:Nat}{H:ae}{s:af}{L:List af}(h:rz m 0 H s L k){xs:List af}(hx:xs.length=m)(ho:xs.all af.one=true)(hm:0<m){bytes:Nat}(hb:2*(k+1)*bytes<=281474976710656)(hb1:0<bytes) :
  ∃s' H',bE m bytes (H.push (.cells xs 0 false)) s (p8 H m)=some (s',H')/\rz m 0 H' s' (L++xs) (k+1)/\H.next<=H'.next/\(∀P,ed s P->ed s' fun b=>P b∨H.next<=b)/\∀c,c<H.next->ed s (c≠·)->H'.get c=H.get c:=by
 rcases h with h | ⟨b,cap,low,C,rfl,h2,h3,h4,h5,h6,h7,h8,h9⟩
 ·obtain⟨s',H',e1,e2,e3,e4,e5⟩:=h.pushB hx ho hm hb hb1
  exact⟨s',H',e1,.inl e2,e3,e4,e5⟩
 ·have hlen:k+1<=9223372036854775807:=by
   have:2*(k+1)<=2*(k+1)*bytes:=Nat.le_mul_of_pos_right _ hb1
   omega
  have hlt:Nat.blt 0 m=true:=by simpa[Nat.blt_eq] using hm
  have c1:(Nat.blt 0 m&&(Nat.ble ((2*(k+1)+0)*bytes) 281474976710656&&(Nat.ble (k+1) 9223372036854775807&&(Nat.beq xs.length (1*m)&&xs.all af.one))))=true:=by
   simp only[Nat.add_zero,Pt hb,Pt hlen,hx,Nat.one_mul,Nat.beq_refl,ho,hlt,Bool.and_self]
  have hg:(H.push (.cells xs 0 false)).get b=some (.cells C low false):=by rw[ae.get_push,if_neg om]; exact h2
  by_cases hin:k+1<=cap
  ·have hle:k*m+m<=C.length:=by
    have:(k+1)*m<=cap*m:=Nat.mul_le_mul_right _ hin
    rw[Nat.add_mul,Nat.one_mul]at this; omega
   have hw:cP (H.push (.cells xs 0 false)) ⟨b,C.length,0+k*m⟩ xs=some ((H.push (.cells xs 0 false)).set b (.cells (C.take (k*m)++(xs++C.drop (k*m+m))) C.length false)):=by
    unfold cP
    simp only[hg,Pt h3,Nat.beq_refl,Nat.zero_add,hx,Pt hle,ho,Bool.and_self,cond_true]
   have hl2:(C.take (k*m)++(xs++C.drop (k*m+m))).length=C.length:=by simp[hx]; omega
   refine⟨.slice (some ⟨b,C.length,0⟩) (k+1) (.known cap),(H.push (.cells xs 0 false)).set b (.cells (C.take (k*m)++(xs++C.drop (k*m+m))) C.length false),?_,.inr ⟨b,cap,C.length,C.take (k*m)++(xs++C.drop (k*m+m)),by rw[hl2],by rw[ae.get_set,if_pos rfl],om,by rw[hl2]; exact h4,?_,by simp[h6,hx,Nat.add_mul],hin,by rw[iL,aR]; omega,h9⟩,by rw[iL,aR]; omega,fun P hP=>(have hP2:P b:=hP _ _ _ rfl; fT (.inl hP2)),fun c hc hd=>by rw[ae.get_set,if_neg (hd _ _ _ rfl),aU hc]⟩
   ·simp only[bE,EQ H hx]
    rw[show Nat.beq 1 0=false from rfl,cond_false,c1,cond_true]
    simp only[Pt hin,cond_true,hw]
   ·have e:(k+1)*m=(L++xs).length:=by simp[h6,hx,Nat.add_mul]
    rw[h5,<- PG,e,List.take_left]
  ·have hk:k=cap:=om
   have hL:L=C:=by rw[<- h5,hk,<- h4,List.take_length]
   have hr:aT (H.push (.cells xs 0 false)) ⟨b,C.length,0⟩ (k*m)=some L:=by
    have:=yQ (H:=H.push (.cells xs 0 false)) ⟨low,hg,h3⟩ rfl (i:=0) (k:=k*m) (by rw[hk]; omega)
    rw[this,List.drop_zero,h5]
   refine⟨.slice (some ⟨H.next+1,(L++xs).length,0⟩) (k+1) (.open_ m),(H.push (.cells xs 0 false)).push (.cells (L++xs) 0 false),?_,.inl (.inr ⟨H.next+1,0,rfl,by simp[h6,hx,Nat.mul_comm m,Nat.add_mul],Nat.zero_le _,Nat.lt_succ_self _,by rw[ae.get_push]; exact if_pos rfl,Nat.zero_le _,om⟩),by simp only[aR]; omega,fun P _=>fT (.inr (Nat.le_succ _)),fun c hc _=>by rw[ae.get_push,if_neg (by rw[aR]; omega),aU hc]⟩
   simp only[bE,EQ H hx]
   rw[show Nat.beq 1 0=false from rfl,cond_false,c1,cond_true]
   have e1:Nat.ble (k+1) cap=false:=by rw[jz]; exact decide_eq_false om
   simp only[e1,cond_false,hr,aR]
theorem rz.at{m n k:Nat}{H:ae}{s:af}{L:List af}(h:rz m n H s L k){i:Nat}(hi:i<k):∃b lim,gP m s (.int .i64 (i:Int))=some (aj b lim (i*m))/\bi true m H (aj b lim (i*m))=some (.agg ((L.drop (i*m)).take m)):=by
 have him:i*m+m<=k*m:=by
  have:(i+1)*m<=k*m:=Nat.mul_le_mul_right _ hi
  rwa [Nat.add_mul,Nat.one_mul]at this
 have hb:Nat.blt i k=true:=by simpa[Nat.blt_eq] using hi
 rcases h with h | ⟨b,cap,low,C,rfl,h2,h3,h4,h5,h6,h7,h8,h9⟩
 ·rcases h with⟨_,_,h⟩ | ⟨b,low,rfl,h2,h3,h4,h5,h6,h7⟩
  ·omega
  ·exact⟨b,L.length,OV .i64 hi,nz ⟨low,h5,h6⟩ rfl (by rw[h2,Nat.mul_comm m]; exact him)⟩
 ·refine⟨b,C.length,?_,?_⟩
  ·show (bif Nat.blt i k then some (af.ptr (some ⟨b,C.length,0+i*m⟩)) else none)=_
   rw[hb,Nat.zero_add]; rfl
  ·have hle:k*m<=C.length:=by rw[h4]; exact Nat.mul_le_mul_right _ h7
   rw[nz ⟨low,h2,h3⟩ rfl om]
   congr 2
   rw[<- h5,List.drop_take,List.take_take,Nat.min_eq_left om]
theorem eh(l:List (List UInt8)):(bX l).length=l.length:=by simp[bX]
theorem sj(l:List (List UInt8))(s:List UInt8):bX (l++[s])=bX l++[.str s]:=by simp[bX]
theorem Jd{C:CS}{a b:bh}{Q:kU}{T:bN}{H:ae}(F:bN->ae->Prop)(hC:na C)(h:wp C a (jG Q F) T H)(k:∀T H,F T H->wp C b Q T H):wp C (.seq a b) Q T H:=by
 rw[As]
 exact py hC a (jr (fun _ _ _ h=>h) k) h
end Go.Abs.S
namespace Go.Abs.S
open Go.Abs
def hold(c:bh):bh:=c
theorem IL(c:bh):hold c=c:=_root_.id rfl
def uA:Nat->bh->bh
 | 0,c=>c
 | k+1,.seq _ b=>uA k b
 | _+1,c=>c
def qy:Nat->bh->bh
 | 0,c=>hold c
 | k+1,.seq a b=>.seq a (qy k b)
 | _+1,c=>c
theorem xx:∀(k:Nat) (c:bh),qy k c=c
 | 0,c=>rfl
 | k+1,c=>by
  cases c <;> simp only[qy]
  rw[xx k]
theorem ve(c:bh):qy 0 c=hold c:=_root_.id rfl
theorem vd(k:Nat)(a b:bh):qy (k+1) (.seq a b)=.seq a (qy k b):=_root_.id rfl
theorem DX{C:CS}{c:bh}{Q:kU}{T:bN}{H:ae}(k:Nat)(h:wp C (qy k c) Q T H):wp C c Q T H:=by rwa [xx]at h
theorem Hh:aeq cz cz=true:=rfl
end Go.Abs.S
namespace Go.Abs.S
open Go.Abs
theorem sW:type_of% (And.intro (And.intro (And.intro (And.intro (And.intro (And.intro (And.intro (@yV) (@pF)) (And.intro (@AP) (@AQ))) (And.intro (And.intro (@AO) (@BO)) (@Ew))) (And.intro (And.intro (And.intro (@eq_self.{1}) (@decide_true)) (@decide_false)) (And.intro (And.intro (@Bool.not_true) (@Bool.not_false)) (@GX)))) (And.intro (And.intro (And.intro (And.intro (@GW) (@GV)) (And.intro (@GU) (@GS))) (And.intro (And.intro (@Cd) (@GR)) (@As))) (And.intro (And.intro (And.intro (@Cf) (@Ce)) (@GQ)) (And.intro (And.intro (@jq) (@qj)) (@tf))))) (And.intro (And.intro (And.intro (And.intro (And.intro (@qk) (@mJ)) (And.intro (@tg) (@ud))) (And.intro (And.intro (@ue) (@uc)) (@wL))) (And.intro (And.intro (And.intro (@GZ) (@yc)) (@Kf)) (And.intro (And.intro (@Ch) (@G5)) (@G8)))) (And.intro (And.intro (And.intro (And.intro (@yf) (@qU)) (@Ci)) (And.intro (And.intro (@ya) (@tR)) (@G9))) (And.intro (And.intro (And.intro (@Kc) (@Cl)) (@tV)) (And.intro (And.intro (@tW) (@tS)) (@qS)))))) (And.intro (And.intro (And.intro (And.intro (And.intro (And.intro (@qR) (@Kd)) (And.intro (@yb) (@tU))) (And.intro (And.intro (@yd) (@Ck)) (@tT))) (And.intro (And.intro (And.intro (@G7) (@Cj)) (@qT)) (And.intro (And.intro (@tX) (@G6)) (@Cm)))) (And.intro (And.intro (And.intro (And.intro (@ye) (@oK)) (@Ke)) (And.intro (And.intro (@Kg) (@GY)) (@vM))) (And.intro (And.intro (And.intro (@vN) (@MC)) (@ME)) (And.intro (And.intro (@MD) (@J0)) (@Gm))))) (And.intro (And.intro (And.intro (And.intro (And.intro (@Gl) (@AF)) (And.intro (@Jz) (@ne_eq.{1}))) (And.intro (And.intro (@not_false_eq_true) (@af.bool.injEq)) (@decide_eq_true_eq))) (And.intro (And.intro (And.intro (@decide_eq_false_iff_not) (@Int.ofNat_eq_natCast)) (@Int.cast_ofNat_Int)) (And.intro (And.intro (@B7) (@B8)) (@B9)))) (And.intro (And.intro (And.intro (And.intro (@Ca) (@Cb)) (@BZ)) (And.intro (And.intro (@Cc) (@BW)) (@B6))) (And.intro (And.intro (And.intro (@Bool.not_eq_true') (@Bool.not_eq_false')) (@Bool.true_eq_false)) (And.intro (And.intro (@Bool.false_eq_true) (@if_true.{1})) (@if_false.{1}))))))):=And.intro (And.intro (And.intro (And.intro (And.intro (And.intro (And.intro (@yV) (@pF)) (And.intro (@AP) (@AQ))) (And.intro (And.intro (@AO) (@BO)) (@Ew))) (And.intro (And.intro (And.intro (@eq_self.{1}) (@decide_true)) (@decide_false)) (And.intro (And.intro (@Bool.not_true) (@Bool.not_false)) (@GX)))) (And.intro (And.intro (And.intro (And.intro (@GW) (@GV)) (And.intro (@GU) (@GS))) (And.intro (And.intro (@Cd) (@GR)) (@As))) (And.intro (And.intro (And.intro (@Cf) (@Ce)) (@GQ)) (And.intro (And.intro (@jq) (@qj)) (@tf))))) (And.intro (And.intro (And.intro (And.intro (And.intro (@qk) (@mJ)) (And.intro (@tg) (@ud))) (And.intro (And.intro (@ue) (@uc)) (@wL))) (And.intro (And.intro (And.intro (@GZ) (@yc)) (@Kf)) (And.intro (And.intro (@Ch) (@G5)) (@G8)))) (And.intro (And.intro (And.intro (And.intro (@yf) (@qU)) (@Ci)) (And.intro (And.intro (@ya) (@tR)) (@G9))) (And.intro (And.intro (And.intro (@Kc) (@Cl)) (@tV)) (And.intro (And.intro (@tW) (@tS)) (@qS)))))) (And.intro (And.intro (And.intro (And.intro (And.intro (And.intro (@qR) (@Kd)) (And.intro (@yb) (@tU))) (And.intro (And.intro (@yd) (@Ck)) (@tT))) (And.intro (And.intro (And.intro (@G7) (@Cj)) (@qT)) (And.intro (And.intro (@tX) (@G6)) (@Cm)))) (And.intro (And.intro (And.intro (And.intro (@ye) (@oK)) (@Ke)) (And.intro (And.intro (@Kg) (@GY)) (@vM))) (And.intro (And.intro (And.intro (@vN) (@MC)) (@ME)) (And.intro (And.intro (@MD) (@J0)) (@Gm))))) (And.intro (And.intro (And.intro (And.intro (And.intro (@Gl) (@AF)) (And.intro (@Jz) (@ne_eq.{1}))) (And.intro (And.intro (@not_false_eq_true) (@af.bool.injEq)) (@decide_eq_true_eq))) (And.intro (And.intro (And.intro (@decide_eq_false_iff_not) (@Int.ofNat_eq_natCast)) (@Int.cast_ofNat_Int)) (And.intro (And.intro (@B7) (@B8)) (@B9)))) (And.intro (And.intro (And.intro (And.intro (@Ca) (@Cb)) (@BZ)) (And.intro (And.intro (@Cc) (@BW)) (@B6))) (And.intro (And.intro (And.intro (@Bool.not_eq_true') (@Bool.not_eq_false')) (@Bool.true_eq_false)) (And.intro (And.intro (@Bool.false_eq_true) (@if_true.{1})) (@if_false.{1}))))))
theorem sL:type_of% (And.intro (And.intro (@List.nil_append.{0}) (@List.cons_append.{0})) (@List.append_nil.{0})):=And.intro (And.intro (@List.nil_append.{0}) (@List.cons_append.{0})) (@List.append_nil.{0})
theorem sR:type_of% (And.intro (And.intro (And.intro (And.intro (And.intro (And.intro (@tF) (@rk)) (@rq)) (And.intro (@rj) (@td))) (And.intro (And.intro (And.intro (@EE) (@vS)) (@AH)) (And.intro (@JD) (@EF)))) (And.intro (And.intro (And.intro (And.intro (@EI) (@vV)) (@pM)) (And.intro (@AJ) (@vQ))) (And.intro (And.intro (And.intro (@rZ) (@EJ)) (@JA)) (And.intro (@AM) (@se))))) (And.intro (And.intro (And.intro (And.intro (And.intro (@sf) (@r6)) (@pK)) (And.intro (@pI) (@JB))) (And.intro (And.intro (And.intro (@vR) (@sa)) (@vT)) (And.intro (@AL) (@r8)))) (And.intro (And.intro (And.intro (And.intro (@EH) (@AK)) (@pL)) (And.intro (@si) (@EG))) (And.intro (And.intro (And.intro (@AN) (@vU)) (@JC)) (And.intro (@JE) (@EC)))))):=And.intro (And.intro (And.intro (And.intro (And.intro (And.intro (@tF) (@rk)) (@rq)) (And.intro (@rj) (@td))) (And.intro (And.intro (And.intro (@EE) (@vS)) (@AH)) (And.intro (@JD) (@EF)))) (And.intro (And.intro (And.intro (And.intro (@EI) (@vV)) (@pM)) (And.intro (@AJ) (@vQ))) (And.intro (And.intro (And.intro (@rZ) (@EJ)) (@JA)) (And.intro (@AM) (@se))))) (And.intro (And.intro (And.intro (And.intro (And.intro (@sf) (@r6)) (@pK)) (And.intro (@pI) (@JB))) (And.intro (And.intro (And.intro (@vR) (@sa)) (@vT)) (And.intro (@AL) (@r8)))) (And.intro (And.intro (And.intro (And.intro (@EH) (@AK)) (@pL)) (And.intro (@si) (@EG))) (And.intro (And.intro (And.intro (@AN) (@vU)) (@JC)) (And.intro (@JE) (@EC)))))
theorem JG(T:bN):ot T []=[]:=_root_.id rfl
theorem JH(T:bN)(x:bb)(r:List bb):ot T (x::r)=sX T x::ot T r:=_root_.id rfl
theorem JL(T:bN):nc T none=none:=_root_.id rfl
theorem JK(T:bN)(x:bb):nc T (some x)=some (sX T x):=_root_.id rfl
theorem JI(T:bN):DT T []=[]:=_root_.id rfl
theorem JJ(T:bN)(o n:Nat)(x:bb)(r:List (Nat×Nat×bb)):DT T ((o,n,x)::r)=(o,n,sX T x)::DT T r:=_root_.id rfl
theorem sA:type_of% (And.intro sW (And.intro sL (And.intro @xX (And.intro @JG (And.intro @JH (And.intro @JL (And.intro @JK (And.intro @JI @JJ)))))))):=And.intro sW (And.intro sL (And.intro @xX (And.intro @JG (And.intro @JH (And.intro @JL (And.intro @JK (And.intro @JI @JJ)))))))
end Go.Abs.S
namespace Go.Abs.S
open Go.Abs
theorem AB(k:IntKind)(hk:k=.u8∨k=.u16∨k=.u32∨k=.u64)(a:Nat):k.wrap (a:Int)=((a % 2 ^ k.bits:Nat):Int):=by
 rcases hk with rfl | rfl | rfl | rfl
 ·rw[IntKind.wrap_u8]; simp only[IntKind.bits]; omega
 ·rw[IntKind.wrap_u16]; simp only[IntKind.bits]; omega
 ·rw[IntKind.wrap_u32]; simp only[IntKind.bits]; omega
 ·rw[IntKind.wrap_u64]; simp only[IntKind.bits]; omega
theorem dI.many{m k j:Nat}{H:ae}{s x:af}{L xs:List af}(h:dI m 0 H s L k)(hs:jf m H x=some (j,xs))(hx:xs.length=m*j)(ho:xs.all af.one=true)(hm:0<m){bytes:Nat}(hb:2*(k+j)*bytes<=281474976710656)(hb1:0<bytes) :
  ∃s' H',bE m bytes H s x=some (s',H')/\dI m 0 H' s' (L++xs) (k+j)/\H.next<=H'.next/\(∀P,ed s P->ed s' fun b=>P b∨H.next<=b)/\∀c,c<H.next->ed s (c≠·)->H'.get c=H.get c:=by
 by_cases hj:j=0
 ·subst hj
  have hxs:xs=[]:=List.length_eq_zero_iff.1 om
  subst hxs
  rw[List.append_nil,Nat.add_zero]
  refine⟨s,H,?_,h,Nat.le_refl _,fun P hP=>hP.mono fun b hb=>.inl hb,fun _ _ _=>rfl⟩
  simp only[bE,hs,show Nat.beq 0 0=true from rfl,cond_true]
  rcases h with⟨rfl,_⟩ | ⟨b,low,rfl,_⟩ <;> rfl
 have hxl:0<xs.length:=by rw[hx]; exact Nat.mul_pos hm om
 have hlen:k+j<=9223372036854775807:=by
  have:2*(k+j)<=2*(k+j)*bytes:=Nat.le_mul_of_pos_right _ hb1
  omega
 have hlt:Nat.blt 0 m=true:=by simpa[Nat.blt_eq] using hm
 have e0:Nat.beq j 0=false:=by rw[dM]; exact decide_eq_false hj
 have c1:∀q,q=k->(Nat.blt 0 m&&(Nat.ble ((2*(q+j)+0)*bytes) 281474976710656&&(Nat.ble (q+j) 9223372036854775807&&(Nat.beq xs.length (j*m)&&xs.all af.one))))=true:=by
  intro q hq
  subst hq
  simp only[Nat.add_zero,Pt hb,Pt hlen,hx,Nat.mul_comm m j,Nat.beq_refl,ho,hlt,Bool.and_self]
 rcases h with⟨rfl,rfl,rfl⟩ | ⟨b,low,rfl,h2,h3,h4,h5,h6,h7⟩
 ·refine⟨.slice (some ⟨H.next,xs.length,0⟩) j (.open_ m),H.push (.cells xs 0 false),?_,.inr ⟨H.next,0,by simp,by simp[hx],Nat.zero_le _,Nat.lt_succ_self _,by rw[ae.get_push]; exact if_pos rfl,Nat.zero_le _,om⟩,by simp[ae.push],fun P _=>fT (.inr rL),fun c hc _=>aU hc⟩
  simp only[bE,hs,e0,cond_false,cz]
  rw[c1 0 rfl,cond_true]
 ·have hgrow:cM H ⟨b,L.length,0⟩ L.length xs=some (H.set b (.cells (L++xs) low false)):=by
   unfold cM
   simp only[h5,Pt h6,Pt rL,Pt (Nat.zero_le _),Pt (show L.length+1<=L.length+xs.length by omega),Nat.beq_refl,ho,Bool.and_self,cond_true,List.take_length]
  have e1:0+k*m=L.length:=by rw[h2,Nat.mul_comm]; omega
  have e2:Nat.ble (0+(k+j)*m) L.length=false:=by
   rw[jz]; refine decide_eq_false ?_
   rw[Nat.add_mul,h2,Nat.mul_comm k m]
   have:0<j*m:=Nat.mul_pos om hm
   omega
  refine⟨.slice (some ⟨b,L.length+xs.length,0⟩) (k+j) (.open_ m),H.set b (.cells (L++xs) low false),?_,.inr ⟨b,low,by simp,by rw[lA,h2,hx,Nat.mul_add],Nat.zero_le _,by rw[iL]; exact h4,by rw[ae.get_set,if_pos rfl],by simp; omega,om⟩,Nat.le_refl _,fun P hP=>(have hP2:P b:=hP _ _ _ rfl; fT (.inl hP2)),fun c hc hd=>by rw[ae.get_set,if_neg (hd _ _ _ rfl)]⟩
  simp only[bE,hs,e0,cond_false,c1 k rfl,cond_true,Nat.beq_refl,e1,e2,hgrow]
end Go.Abs.S
namespace Go.Abs.S
open Go.Abs
end Go.Abs.S
namespace Go.Abs.S
open Go.Abs
end Go.Abs.S
namespace Go.Abs.S
open Go.Abs
end Go.Abs.S
namespace Go.Abs.S
open Go.Abs
end Go.Abs.S
namespace Go.Abs.S
open Go.Abs Go.WideShapes Go.ChangeShapes
variable {H:Type} {enc:TypeId×Value->H}
end Go.Abs.S
namespace Go.Abs.S
open Go.Abs
abbrev zi(n:Nat):bb:=.c (.int .i64 (.ofNat n))
abbrev zu(n:Nat):bb:=.c (.int .u8 (.ofNat n))
abbrev zn:bb:=.c (.slice none 0 (.known 0))
abbrev zI(n:Nat):af:=.int .i64 (.ofNat n)
abbrev zU(n:Nat):af:=.int .u8 (.ofNat n)
abbrev zN:af:=.slice none 0 (.known 0)
abbrev zo(d:Nat)(p:gT):ak:=⟨some d,p,none⟩
abbrev zp(p:gT):ak:=⟨none,p,none⟩
abbrev zg(d:Nat)(p:gT)(t:Nat)(b:Bool):ak:=⟨some d,p,some (t,b)⟩
abbrev zm(d x:Nat):ak:=⟨some d,.mv (.t x),none⟩
abbrev zc(d x:Nat):ak:=⟨some d,.nilChk (.t x),none⟩
abbrev zf(d n x:Nat):ak:=⟨some d,.fieldA n (.t x),none⟩
abbrev zl(d x:Nat):ak:=⟨some d,.load false 1 (.t x),none⟩
abbrev zt(d n x:Nat):ak:=⟨some d,.load true n (.t x),none⟩
abbrev ze(d n x:Nat):ak:=⟨some d,.extract n (.t x),none⟩
abbrev zb(d:Nat)(o:BinOp)(x y:Nat):ak:=⟨some d,.bin o (.t x) (.t y),none⟩
abbrev zk(d:Nat)(o:BinOp)(x n:Nat):ak:=⟨some d,.bin o (.t x) (.c (.int .i64 (.ofNat n))),none⟩
abbrev zx(d f:Nat)(l:List bb):ak:=⟨some d,.call f l,none⟩
abbrev zh(d x:Nat):ak:=⟨some d,.len false (.t x),none⟩
abbrev zd(d x y:Nat):ak:=⟨some d,.idxA 1 (.t x) (.t y),none⟩
abbrev zy(d x y:Nat):ak:=⟨some d,.append 1 1 (.t x) (.t y),none⟩
abbrev zv(d:Nat)(k:IntKind)(x:Nat):ak:=⟨some d,.conv k (.t x),none⟩
abbrev zs(x y:Nat):ak:=⟨none,.store 1 (.t x) (.t y),none⟩
abbrev zq(l:List ak)(c:bh):bh:=.seq (.reg l) c
abbrev zr(l:List ak)(x:Nat)(a b c:bh):bh:=.seq (.seq (.reg l) (.cond (.t x) a b)) c
theorem Jw(n:Nat):zI n=.int .i64 (n:Int):=_root_.id rfl
theorem Ju(n:Nat):zU n=.int .u8 (n:Int):=_root_.id rfl
theorem Jv:zN=.slice none 0 (.known 0):=_root_.id rfl
theorem sB:type_of% (And.intro @Jw (And.intro @Ju Jv)):=And.intro @Jw (And.intro @Ju Jv)
end Go.Abs.S
namespace Go.Proofs.Wo
open Go.Abs Go.Abs.S
noncomputable section
def LG:cg:=⟨8,zq [zo 4 (.mv (.c (.bool false)))] (zq [zm 5 0,zm 6 1,zx 7 35 [.t 5,.t 6],zm 4 7] .ret),[.t 4]⟩
theorem OQ:cN Tryz.prog 12=some LG:=by kernel_rfl
def Ph:cg:=⟨18,zq [zo 4 (.mv (.c (.bool false)))] (zq [zm 5 0,zo 6 (.len true (.t 5)),zm 7 1,zo 8 (.len true (.t 7)),zb 9 .geq 6 8,zm 10 9,zg 11 (.mv (.t 0)) 10 true,zg 12 (.mv (.t 1)) 10 true,zg 13 (.len true (.t 12)) 10 true,zg 14 (.slStr (.t 11) none (some (.t 13))) 10 true,zg 15 (.mv (.t 1)) 10 true,zg 16 (.bin .eql (.t 14) (.t 15)) 10 true,zo 17 (.pick (.t 10) (.t 16) (.c (.bool false))),zm 4 17] .ret),[.t 4]⟩
theorem Oy:cN Tryz.prog 35=some Ph:=by kernel_rfl
def vF:cg:=⟨47,zq [zo 1 (.box (.t 0)),zo 2 (.mv (.c (.map none)))] (zq [zl 7 1,zc 8 7,zf 9 0 8,zo 3 (.new [.ptr none]),zs 3 9] (zq [zo 10 (.hf .mkMap []),zo 11 (.mkFunc (.func 40) [] [.t 3]),zp (.hf (.mf (.upd .str)) [.t 10,.c (.str [115,105,122,101]),.t 11]),zo 12 (.mkFunc (.func 42) [] [.t 3]),zp (.hf (.mf (.upd .str)) [.t 10,.c (.str [115,97,109,112,108,101,115]),.t 12]),zo 13 (.mkFunc (.func 43) [] [.t 3]),zp (.hf (.mf (.upd .str)) [.t 10,.c (.str [98,111,117,110,99,101,115]),.t 13]),zo 14 (.mkFunc (.func 44) [] [.t 3]),zp (.hf (.mf (.upd .str)) [.t 10,.c (.str [115,101,101,100]),.t 14]),zo 15 (.mkFunc (.func 46) [] [.t 3]),zp (.hf (.mf (.upd .str)) [.t 10,.c (.str [101,121,101]),.t 15]),zo 16 (.mkFunc (.func 48) [] [.t 3]),zp (.hf (.mf (.upd .str)) [.t 10,.c (.str [97,116]),.t 16]),zo 17 (.mkFunc (.func 49) [] [.t 3]),zp (.hf (.mf (.upd .str)) [.t 10,.c (.str [117,112]),.t 17]),zo 18 (.mkFunc (.func 50) [] [.t 3]),zp (.hf (.mf (.upd .str)) [.t 10,.c (.str [119,105,100,101]),.t 18]),zo 19 (.mkFunc (.func 52) [] [.t 3]),zp (.hf (.mf (.upd .str)) [.t 10,.c (.str [115,107,121]),.t 19]),zm 20 10,zm 4 20] (.seq (zq [zm 21 4,zo 22 .bad] (.block 0 (.loop (zq [zo 23 .bad,ze 24 0 23] (.seq (.cond (.t 24) .skip (.exit 0)) (.block 1 (zq [zo 25 .bad,ze 26 0 25,ze 27 1 25,zo 5 (.new [.str []]),zo 6 (.new [.nilFunc]),zs 5 26,zs 6 27] (.reg [zm 28 4,zl 29 5,zo 30 (.mkFunc (.func 53) [] [.t 1,.t 5,.t 6]),zp (.hf (.mf (.upd .str)) [.t 28,.t 29,.t 30])])))))))) (zq [zm 31 4,zo 32 (.mkFunc (.func 54) [] [.t 1]),zp (.hf (.mf (.upd .str)) [.t 31,.c (.str [100,105,102,102,117,115,101]),.t 32])] (zq [zm 33 4,zo 34 (.mkFunc (.func 56) [] [.t 1]),zp (.hf (.mf (.upd .str)) [.t 33,.c (.str [109,105,114,114,111,114]),.t 34])] (zq [zm 35 4,zo 36 (.mkFunc (.func 57) [] [.t 1]),zp (.hf (.mf (.upd .str)) [.t 35,.c (.str [103,108,111,119]),.t 36])] (zq [zm 37 4,zl 38 1,zo 39 (.mkFunc (.func 58) [.t 38] []),zp (.hf (.mf (.upd .str)) [.t 37,.c (.str [115,104,97,100,101,114]),.t 39])] (zq [zm 40 4,zl 41 1,zo 42 (.mkFunc (.func 59) [.t 41] []),zp (.hf (.mf (.upd .str)) [.t 40,.c (.str [98,97,108,108]),.t 42])] (zq [zm 43 4,zl 44 1,zo 45 (.mkFunc (.func 60) [.t 44] []),zp (.hf (.mf (.upd .str)) [.t 43,.c (.str [109,101,115,104]),.t 45])] (zq [zm 46 4,zm 2 46] .ret)))))))))),[.t 2]⟩
def O2:cg:=⟨51,zq [zo 2 (.mv (zi 0)),zo 3 (.mv (.c (.bool false)))] (zr [zm 9 0,zo 10 (.bin .eql (.t 9) (.c (.str []))),zm 11 10,zg 12 (.mv (.t 0)) 11 false,zg 13 (.idxS (.t 12) (zi 0)) 11 false,zg 14 (.call 103 [.t 13]) 11 false,zg 15 (.un .not (.t 14)) 11 false,zo 16 (.pick (.t 11) (.c (.bool true)) (.t 15)),zm 17 16,zg 18 (.mv (.t 0)) 17 false,zg 19 (.call 104 [.t 18,zi 0]) 17 false,zg 20 (.mv (.t 0)) 17 false,zg 21 (.len true (.t 20)) 17 false,zg 22 (.bin .neq (.t 19) (.t 21)) 17 false,zo 23 (.pick (.t 17) (.c (.bool true)) (.t 22))] 23 (zq [zo 2 (.mv (zi 0)),zo 3 (.mv (.c (.bool false)))] .ret) .skip (zq [zm 25 0,zx 26 62 [.t 25,.c (.str [46])],zm 24 26,ze 27 0 24,ze 28 1 24,ze 29 2 24,zm 4 27,zm 5 28,zm 6 29] (zq [zo 7 (.mv (zi 0))] (.seq (zq [zm 30 4,zo 31 (.len true (.t 30)),zo 32 (.mv (zi 0))] (.block 0 (.loop (zq [zb 33 .lss 32 31] (.seq (.cond (.t 33) .skip (.exit 0)) (.seq (.block 1 (zq [zm 34 32,zm 8 34] (zq [zm 35 7,zk 36 .mul 35 10,zm 37 4,zm 38 8,zo 39 (.idxS (.t 37) (.t 38)),zo 40 (.bin .sub (.t 39) (zu 48)),zv 41 .i64 40,zb 42 .add 36 41,zm 7 42] (zq [zm 43 7,zk 44 .geq 43 2147483648] (.cond (.t 44) (zq [zo 2 (.mv (zi 0)),zo 3 (.mv (.c (.bool false)))] .ret) .skip))))) (.reg [zk 45 .add 32 1,zm 32 45]))))))) (zq [zm 46 7,zo 47 (.bin .shl (.t 46) (.c (.int .u64 (.ofNat 32)))),zm 48 5,zx 49 105 [.t 48],zb 50 .or 47 49,zm 2 50,zo 3 (.mv (.c (.bool true)))] .ret))))),[.t 2,.t 3]⟩
theorem NK:cN Tryz.prog 94=some O2:=by kernel_rfl
def I3:cg:=⟨9,zq [zo 2 (.mv (.c (.bool false)))] (zq [zm 3 0,zo 4 (.bin .leq (zu 48) (.t 3)),zm 5 4,zg 6 (.mv (.t 0)) 5 true,zg 7 (.bin .leq (.t 6) (zu 57)) 5 true,zo 8 (.pick (.t 5) (.t 7) (.c (.bool false))),zm 2 8] .ret),[.t 2]⟩
theorem Ms:cN Tryz.prog 103=some I3:=by kernel_rfl
def M5:cg:=⟨36,zq [zo 4 (.mv (zi 0))] (zq [zm 7 0,zm 8 1,zx 9 111 [.t 7,.t 8,.f 103],zm 5 9] (zr [zm 10 5,zm 11 1,zb 12 .eql 10 11,zm 13 12,zg 14 (.mv (.t 5)) 13 false,zg 15 (.mv (.t 0)) 13 false,zg 16 (.len true (.t 15)) 13 false,zg 17 (.bin .eql (.t 14) (.t 16)) 13 false,zo 18 (.pick (.t 13) (.c (.bool true)) (.t 17)),zm 19 18,zg 20 (.mv (.t 0)) 19 false,zg 21 (.mv (.t 5)) 19 false,zg 22 (.idxS (.t 20) (.t 21)) 19 false,zg 23 (.bin .neq (.t 22) (zu 46)) 19 false,zo 24 (.pick (.t 19) (.c (.bool true)) (.t 23))] 24 (zq [zm 25 5,zm 4 25] .ret) .skip (.seq (zq [zm 26 0,zm 27 5,zk 28 .add 27 1,zx 29 111 [.t 26,.t 28,.f 103],zm 6 29] (zq [zm 30 6,zm 31 5,zk 32 .add 31 1,zb 33 .gtr 30 32] (.cond (.t 33) (zq [zm 34 6,zm 4 34] .ret) .skip))) (zq [zm 35 5,zm 4 35] .ret)))),[.t 4]⟩
theorem Mr:cN Tryz.prog 104=some M5:=by kernel_rfl
def M3:cg:=⟨21,zq [zo 6 (.mv (zi 0))] (.seq (.block 0 (.loop (zr [zm 7 1,zm 8 0,zo 9 (.len true (.t 8)),zb 10 .lss 7 9,zm 11 10,zg 12 (.mv (.t 2)) 11 true,zg 13 (.mv (.t 0)) 11 true,zg 14 (.mv (.t 1)) 11 true,zg 15 (.idxS (.t 13) (.t 14)) 11 true,zg 16 (.callv (.t 12) [.t 15]) 11 true,zo 17 (.pick (.t 11) (.t 16) (.c (.bool false)))] 17 .skip (.exit 0) (.block 1 (.reg [zm 18 1,zk 19 .add 18 1,zm 1 19]))))) (zq [zm 20 1,zm 6 20] .ret)),[.t 6]⟩
theorem Mp:cN Tryz.prog 111=some M3:=by kernel_rfl
def O7:cg:=⟨13,zq [zo 4 (.mv (.c (.str []))),zo 5 (.mv (.c (.str []))),zo 6 (.mv (.c (.bool false)))] (zq [zm 7 0,zm 8 1,zx 9 85 [.t 7,.t 8],ze 10 0 9,ze 11 1 9,ze 12 2 9,zm 4 10,zm 5 11,zm 6 12] .ret),[.t 4,.t 5,.t 6]⟩
theorem Mo:cN Tryz.prog 62=some O7:=by kernel_rfl
def O4:cg:=⟨23,zq [zo 4 (.mv (.c (.str []))),zo 5 (.mv (.c (.str []))),zo 6 (.mv (.c (.bool false)))] (.seq (zq [zm 8 0,zm 9 1,zx 10 99 [.t 8,.t 9],zm 7 10] (zq [zm 11 7,zk 12 .geq 11 0] (.cond (.t 12) (zq [zm 13 0,zm 14 7,zo 15 (.slStr (.t 13) none (some (.t 14))),zm 16 0,zm 17 7,zm 18 1,zo 19 (.len true (.t 18)),zb 20 .add 17 19,zo 21 (.slStr (.t 16) (some (.t 20)) none),zm 4 15,zm 5 21,zo 6 (.mv (.c (.bool true)))] .ret) .skip))) (zq [zm 22 0,zm 4 22,zo 5 (.mv (.c (.str []))),zo 6 (.mv (.c (.bool false)))] .ret)),[.t 4,.t 5,.t 6]⟩
theorem Mn:cN Tryz.prog 85=some O4:=by kernel_rfl
def M1:cg:=⟨143,zq [zo 4 (.mv (zi 0))] (zq [zm 14 1,zo 15 (.len true (.t 14)),zm 5 15] (.seq (.block 0 (zq [zm 17 5,zk 18 .eql 17 0,zm 19 18,zg 20 (.mv (.t 1)) 19 false,zg 21 (.mv (.t 0)) 19 false,zg 22 (.bin .eql (.t 20) (.t 21)) 19 false,zo 23 (.pick (.t 19) (.c (.bool true)) (.t 22)),zm 16 23] (.cond (.t 16) (zq [zo 4 (.mv (zi 0))] .ret) (zq [zm 25 5,zk 26 .eql 25 1,zm 24 26] (.cond (.t 24) (zq [zm 27 0,zm 28 1,zo 29 (.idxS (.t 28) (zi 0)),zx 30 107 [.t 27,.t 29],zm 4 30] .ret) (zq [zm 32 5,zm 33 0,zo 34 (.len true (.t 33)),zb 35 .geq 32 34,zm 31 35] (.cond (.t 31) (zq [zo 4 (.mv (.c (.int .i64 (.negSucc 0))))] .ret) (zq [zm 37 5,zo 38 (.hf (.gLd 1 false 1) []),zb 39 .leq 37 38,zm 40 39,zg 41 (.mv (.t 0)) 40 true,zg 42 (.len true (.t 41)) 40 true,zg 43 (.bin .leq (.t 42) (zi 64)) 40 true,zo 44 (.pick (.t 40) (.t 43) (.c (.bool false))),zm 36 44] (.cond (.t 36) (zq [zm 45 0,zm 46 1,zx 47 108 [.t 45,.t 46],zm 4 47] .ret) .skip))))))))) (zq [zm 48 1,zo 49 (.idxS (.t 48) (zi 0)),zm 6 49] (zq [zm 50 1,zo 51 (.idxS (.t 50) (zi 1)),zm 7 51] (zq [zo 8 (.mv (zi 0))] (zq [zm 52 0,zo 53 (.len true (.t 52)),zm 54 5,zb 55 .sub 53 54,zk 56 .add 55 1,zm 9 56] (zq [zo 10 (.mv (zi 0))] (.seq (.block 1 (.loop (zr [zm 57 8,zm 58 9,zb 59 .lss 57 58] 59 .skip (.exit 1) (.block 2 (zr [zm 60 0,zm 61 8,zo 62 (.idxS (.t 60) (.t 61)),zm 63 6,zb 64 .neq 62 63] 64 (zq [zm 65 0,zm 66 8,zk 67 .add 66 1,zm 68 9,zo 69 (.slStr (.t 65) (some (.t 67)) (some (.t 68))),zm 70 6,zx 71 107 [.t 69,.t 70],zm 11 71] (zr [zm 72 11,zk 73 .lss 72 0] 73 (zq [zo 4 (.mv (.c (.int .i64 (.negSucc 0))))] .ret) .skip (.reg [zm 74 8,zm 75 11,zk 76 .add 75 1,zb 77 .add 74 76,zm 8 77]))) .skip (zr [zm 78 0,zm 79 8,zk 80 .add 79 1,zo 81 (.idxS (.t 78) (.t 80)),zm 82 7,zb 83 .eql 81 82,zm 84 83,zg 85 (.mv (.t 0)) 84 true,zg 86 (.mv (.t 8)) 84 true,zg 87 (.mv (.t 8)) 84 true,zg 88 (.mv (.t 5)) 84 true,zg 89 (.bin .add (.t 87) (.t 88)) 84 true,zg 90 (.slStr (.t 85) (some (.t 86)) (some (.t 89))) 84 true,zg 91 (.mv (.t 1)) 84 true,zg 92 (.bin .eql (.t 90) (.t 91)) 84 true,zo 93 (.pick (.t 84) (.t 92) (.c (.bool false)))] 93 (zq [zm 94 8,zm 4 94] .ret) .skip (zq [zm 95 8,zk 96 .add 95 1,zm 8 96] (zq [zm 97 10,zk 98 .add 97 1,zm 10 98] (zq [zm 99 5,zo 100 (.hf (.gLd 1 false 1) []),zb 101 .leq 99 100,zm 102 101,zg 103 (.mv (.t 10)) 102 true,zg 104 (.mv (.t 8)) 102 true,zg 105 (.call 109 [.t 104]) 102 true,zg 106 (.bin .gtr (.t 103) (.t 105)) 102 true,zo 107 (.pick (.t 102) (.t 106) (.c (.bool false)))] (.cond (.t 107) (zq [zm 108 0,zm 109 8,zo 110 (.slStr (.t 108) (some (.t 109)) none),zm 111 1,zx 112 108 [.t 110,.t 111],zm 12 112] (zr [zm 113 12,zk 114 .geq 113 0] 114 (zq [zm 115 12,zm 116 8,zb 117 .add 115 116,zm 4 117] .ret) .skip (zq [zo 4 (.mv (.c (.int .i64 (.negSucc 0))))] .ret))) (zq [zm 118 5,zo 119 (.hf (.gLd 1 false 1) []),zb 120 .gtr 118 119,zm 121 120,zg 122 (.mv (.t 10)) 121 true,zg 123 (.mv (.t 8)) 121 true,zg 124 (.bin .shr (.t 123) (.c (.int .u64 (.ofNat 4)))) 121 true,zg 125 (.bin .add (zi 4) (.t 124)) 121 true,zg 126 (.bin .geq (.t 122) (.t 125)) 121 true,zo 127 (.pick (.t 121) (.t 126) (.c (.bool false))),zm 128 127,zg 129 (.mv (.t 8)) 128 true,zg 130 (.mv (.t 9)) 128 true,zg 131 (.bin .lss (.t 129) (.t 130)) 128 true,zo 132 (.pick (.t 128) (.t 131) (.c (.bool false)))] (.cond (.t 132) (zq [zm 133 0,zm 134 8,zo 135 (.slStr (.t 133) (some (.t 134)) none),zm 136 1,zx 137 110 [.t 135,.t 136],zm 13 137] (zr [zm 138 13,zk 139 .lss 138 0] 139 (zq [zo 4 (.mv (.c (.int .i64 (.negSucc 0))))] .ret) .skip (zq [zm 140 8,zm 141 13,zb 142 .add 140 141,zm 4 142] .ret))) .skip)))))))))))) (zq [zo 4 (.mv (.c (.int .i64 (.negSucc 0))))] .ret))))))))),[.t 4]⟩
theorem Mm:cN Tryz.prog 99=some M1:=by kernel_rfl
def LI:cg:=⟨8,zq [zo 4 (.mv (zi 0))] (zq [zm 5 0,zm 6 1,zo 7 (.pf .ibs [.t 5,.t 6]),zm 4 7] .ret),[.t 4]⟩
theorem Jt:cN Tryz.prog 107=some LI:=by kernel_rfl
def M4:cg:=⟨47,zq [zo 2 (.mv (zi 0))] (zq [zo 3 (.new [zU 0,zU 0,zU 0,zU 0,zU 0,zU 0,zU 0,zU 0,zU 0,zU 0,zU 0,zU 0,zU 0,zU 0,zU 0,zU 0,zU 0,zU 0,zU 0,zU 0,zU 0,zU 0,zU 0,zU 0,zU 0,zU 0,zU 0,zU 0,zU 0,zU 0,zU 0,zU 0])] (.seq (zq [zm 9 0,zo 10 (.len true (.t 9)),zo 11 (.pf (.mm false) [.t 10,zi 32]),zo 12 (.mv (zi 0))] (.block 0 (.loop (zq [zb 13 .lss 12 11] (.seq (.cond (.t 13) .skip (.exit 0)) (.seq (.block 1 (zq [zm 14 12,zm 4 14] (.reg [zm 15 4,zm 16 0,zm 17 4,zo 18 (.idxS (.t 16) (.t 17)),zo 19 (.bin .sub (.t 18) (zu 48)),zo 20 (.idxArr 32 1 (.t 3) (.t 15)),zs 20 19]))) (.reg [zk 21 .add 12 1,zm 12 21]))))))) (zq [zo 5 (.mv (zi 0))] (.seq (zq [zo 22 (.mv (zi 0))] (.block 2 (.loop (zq [zk 23 .lss 22 32] (.seq (.cond (.t 23) .skip (.exit 2)) (.seq (.block 3 (zq [zo 6 (.mv (zu 0))] (.seq (zq [zo 7 (.mv (zi 31))] (.block 4 (.loop (zr [zm 24 7,zk 25 .geq 24 0] 25 .skip (.exit 4) (.seq (.block 5 (zq [zm 28 7,zo 29 (.idxArr 32 1 (.t 3) (.t 28)),zl 30 29,zo 31 (.bin .mul (.t 30) (zu 2)),zm 32 6,zb 33 .add 31 32,zm 8 33] (.reg [zm 34 7,zm 35 8,zo 36 (.bin .rem (.t 35) (zu 10)),zm 37 8,zo 38 (.bin .quo (.t 37) (zu 10)),zo 39 (.idxArr 32 1 (.t 3) (.t 34)),zs 39 36,zm 6 38]))) (.reg [zm 26 7,zk 27 .sub 26 1,zm 7 27])))))) (.reg [zm 40 5,zo 41 (.bin .shl (.t 40) (.c (.int .u64 (.ofNat 1)))),zm 42 6,zv 43 .i64 42,zb 44 .or 41 43,zm 5 44])))) (.reg [zk 45 .add 22 1,zm 22 45]))))))) (zq [zm 46 5,zm 2 46] .ret))))),[.t 2]⟩
theorem Mq:cN Tryz.prog 105=some M4:=by kernel_rfl
def c80:cg:=⟨5,zq [zo 2 (.mv (.c (.str [])))] (zq [zm 3 0,zx 4 95 [.t 3],zm 2 4] .ret),[.t 2]⟩
theorem NS:cN Tryz.prog 80=some c80:=by kernel_rfl
def c83:cg:=⟨34,zq [zo 4 (.mv (zi 0))] (zr [zm 7 1,zo 8 (.len true (.t 7)),zk 9 .eql 8 0] 9 (zq [zm 10 0,zx 11 96 [.t 10],zk 12 .add 11 1,zm 4 12] .ret) .skip (zr [zm 13 1,zo 14 (.len true (.t 13)),zk 15 .eql 14 1] 15 (zq [zm 16 0,zm 17 1,zo 18 (.idxS (.t 17) (zi 0)),zo 19 (.pf .cbs [.t 16,.t 18]),zm 4 19] .ret) .skip (zq [zo 5 (.mv (zi 0))] (.block 0 (.loop (.block 1 (zq [zm 20 0,zm 21 1,zx 22 84 [.t 20,.t 21],zm 6 22] (zr [zm 23 6,zo 24 (.bin .eql (.t 23) (.c (.int .i64 (.negSucc 0))))] 24 (zq [zm 25 5,zm 4 25] .ret) .skip (zq [zm 26 5,zk 27 .add 26 1,zm 5 27] (.reg [zm 28 0,zm 29 6,zm 30 1,zo 31 (.len true (.t 30)),zb 32 .add 29 31,zo 33 (.slStr (.t 28) (some (.t 32)) none),zm 0 33])))))))))),[.t 4]⟩
theorem NQ:cN Tryz.prog 83=some c83:=by kernel_rfl
def c72:cg:=⟨15,zq [zo 2 (.mv (.c (.str [])))] (zr [zm 3 0,zk 4 .lss 3 10] 4 (zq [zm 5 0,zm 6 0,zk 7 .add 6 1,zo 8 (.slStr (.c (.str [48,49,50,51,52,53,54,55,56,57,97,98,99,100,101,102,103,104,105,106,107,108,109,110,111,112,113,114,115,116,117,118,119,120,121,122])) (some (.t 5)) (some (.t 7))),zm 2 8] .ret) .skip (zq [zm 9 0,zk 10 .mul 9 2,zm 11 0,zk 12 .mul 11 2,zk 13 .add 12 2,zo 14 (.slStr (.c (.str [48,48,48,49,48,50,48,51,48,52,48,53,48,54,48,55,48,56,48,57,49,48,49,49,49,50,49,51,49,52,49,53,49,54,49,55,49,56,49,57,50,48,50,49,50,50,50,51,50,52,50,53,50,54,50,55,50,56,50,57,51,48,51,49,51,50,51,51,51,52,51,53,51,54,51,55,51,56,51,57,52,48,52,49,52,50,52,51,52,52,52,53,52,54,52,55,52,56,52,57,53,48,53,49,53,50,53,51,53,52,53,53,53,54,53,55,53,56,53,57,54,48,54,49,54,50,54,51,54,52,54,53,54,54,54,55,54,56,54,57,55,48,55,49,55,50,55,51,55,52,55,53,55,54,55,55,55,56,55,57,56,48,56,49,56,50,56,51,56,52,56,53,56,54,56,55,56,56,56,57,57,48,57,49,57,50,57,51,57,52,57,53,57,54,57,55,57,56,57,57])) (some (.t 10)) (some (.t 13))),zm 2 14] .ret)),[.t 2]⟩
theorem NZ:cN Tryz.prog 72=some c72:=by kernel_rfl
def c73:cg:=⟨15,zq [zo 2 (.mv (zi 0))] (zq [zm 4 0,zx 5 89 [.t 4],zx 6 88 [.t 5],zm 3 6] (zq [zm 7 3,zm 8 0,zm 9 3,zo 10 (.hf (.gIdx 0 20 1) [.t 9]),zl 11 10,zb 12 .geq 8 11,zx 13 90 [.t 12],zb 14 .add 7 13,zm 2 14] .ret)),[.t 2]⟩
theorem NY:cN Tryz.prog 73=some c73:=by kernel_rfl
def c89:cg:=⟨25,zq [zo 2 (.mv (zi 0))] (zr [zm 3 0,zo 4 (.bin .geq (.t 3) (.c (.int .u64 (.ofNat 4294967296))))] 4 (zq [zm 5 0,zo 6 (.bin .shr (.t 5) (.c (.int .u64 (.ofNat 32)))),zm 0 6] (.reg [zo 2 (.mv (zi 32))])) .skip (zr [zm 7 0,zo 8 (.bin .geq (.t 7) (.c (.int .u64 (.ofNat 65536))))] 8 (zq [zm 9 0,zo 10 (.bin .shr (.t 9) (.c (.int .u64 (.ofNat 16)))),zm 0 10] (.reg [zm 11 2,zk 12 .add 11 16,zm 2 12])) .skip (zr [zm 13 0,zo 14 (.bin .geq (.t 13) (.c (.int .u64 (.ofNat 256))))] 14 (zq [zm 15 0,zo 16 (.bin .shr (.t 15) (.c (.int .u64 (.ofNat 8)))),zm 0 16] (.reg [zm 17 2,zk 18 .add 17 8,zm 2 18])) .skip (zq [zm 19 2,zm 20 0,zv 21 .u8 20,zo 22 (.idxS (.c (.str [0,1,2,2,3,3,3,3,4,4,4,4,4,4,4,4,5,5,5,5,5,5,5,5,5,5,5,5,5,5,5,5,6,6,6,6,6,6,6,6,6,6,6,6,6,6,6,6,6,6,6,6,6,6,6,6,6,6,6,6,6,6,6,6,7,7,7,7,7,7,7,7,7,7,7,7,7,7,7,7,7,7,7,7,7,7,7,7,7,7,7,7,7,7,7,7,7,7,7,7,7,7,7,7,7,7,7,7,7,7,7,7,7,7,7,7,7,7,7,7,7,7,7,7,7,7,7,7,8,8,8,8,8,8,8,8,8,8,8,8,8,8,8,8,8,8,8,8,8,8,8,8,8,8,8,8,8,8,8,8,8,8,8,8,8,8,8,8,8,8,8,8,8,8,8,8,8,8,8,8,8,8,8,8,8,8,8,8,8,8,8,8,8,8,8,8,8,8,8,8,8,8,8,8,8,8,8,8,8,8,8,8,8,8,8,8,8,8,8,8,8,8,8,8,8,8,8,8,8,8,8,8,8,8,8,8,8,8,8,8,8,8,8,8,8,8,8,8,8,8,8,8,8,8,8,8])) (.t 21)),zv 23 .i64 22,zb 24 .add 19 23,zm 2 24] .ret)))),[.t 2]⟩
theorem NN:cN Tryz.prog 89=some c89:=by kernel_rfl
def c88:cg:=⟨6,zq [zo 2 (.mv (zi 0))] (zq [zm 3 0,zk 4 .mul 3 78913,zo 5 (.bin .shr (.t 4) (.c (.int .u64 (.ofNat 18)))),zm 2 5] .ret),[.t 2]⟩
theorem NO:cN Tryz.prog 88=some c88:=by kernel_rfl
def O3:cg:=⟨4,zq [zo 2 (.mv (zi 0))] (zr [zm 3 0] 3 (zq [zo 2 (.mv (zi 1))] .ret) .skip (zq [zo 2 (.mv (zi 0))] .ret)),[.t 2]⟩
theorem NM:cN Tryz.prog 90=some O3:=by kernel_rfl
def Lz:cg:=⟨167,zq [zm 17 0,zh 18 17,zm 4 18] (.seq (.block 0 (.loop (zr [zm 19 4,zk 20 .geq 19 8] 20 .skip (.exit 0) (.block 1 (zq [zm 21 1,zo 22 (.bin .rem (.t 21) (.c (.int .u64 (.ofNat 100000000)))),zv 23 .u32 22,zm 5 23] (zq [zm 24 1,zo 25 (.bin .quo (.t 24) (.c (.int .u64 (.ofNat 100000000)))),zm 1 25] (zq [zm 26 5,zo 27 (.bin .quo (.t 26) (.c (.int .u32 (.ofNat 10000)))),zm 28 5,zo 29 (.bin .rem (.t 28) (.c (.int .u32 (.ofNat 10000)))),zm 6 27,zm 7 29] (zq [zm 30 7,zo 31 (.bin .quo (.t 30) (.c (.int .u32 (.ofNat 100)))),zo 32 (.bin .mul (.t 31) (.c (.int .u32 (.ofNat 2)))),zm 33 7,zo 34 (.bin .rem (.t 33) (.c (.int .u32 (.ofNat 100)))),zo 35 (.bin .mul (.t 34) (.c (.int .u32 (.ofNat 2)))),zm 8 32,zm 9 35] (zq [zm 36 6,zo 37 (.bin .quo (.t 36) (.c (.int .u32 (.ofNat 100)))),zo 38 (.bin .mul (.t 37) (.c (.int .u32 (.ofNat 2)))),zm 39 6,zo 40 (.bin .rem (.t 39) (.c (.int .u32 (.ofNat 100)))),zo 41 (.bin .mul (.t 40) (.c (.int .u32 (.ofNat 2)))),zm 10 38,zm 11 41] (zq [zm 42 0,zm 43 4,zk 44 .sub 43 1,zm 45 0,zm 46 4,zk 47 .sub 46 2,zm 48 9,zo 49 (.bin .add (.t 48) (.c (.int .u32 (.ofNat 1)))),zo 50 (.idxS (.c (.str [48,48,48,49,48,50,48,51,48,52,48,53,48,54,48,55,48,56,48,57,49,48,49,49,49,50,49,51,49,52,49,53,49,54,49,55,49,56,49,57,50,48,50,49,50,50,50,51,50,52,50,53,50,54,50,55,50,56,50,57,51,48,51,49,51,50,51,51,51,52,51,53,51,54,51,55,51,56,51,57,52,48,52,49,52,50,52,51,52,52,52,53,52,54,52,55,52,56,52,57,53,48,53,49,53,50,53,51,53,52,53,53,53,54,53,55,53,56,53,57,54,48,54,49,54,50,54,51,54,52,54,53,54,54,54,55,54,56,54,57,55,48,55,49,55,50,55,51,55,52,55,53,55,54,55,55,55,56,55,57,56,48,56,49,56,50,56,51,56,52,56,53,56,54,56,55,56,56,56,57,57,48,57,49,57,50,57,51,57,52,57,53,57,54,57,55,57,56,57,57])) (.t 49)),zm 51 9,zo 52 (.idxS (.c (.str [48,48,48,49,48,50,48,51,48,52,48,53,48,54,48,55,48,56,48,57,49,48,49,49,49,50,49,51,49,52,49,53,49,54,49,55,49,56,49,57,50,48,50,49,50,50,50,51,50,52,50,53,50,54,50,55,50,56,50,57,51,48,51,49,51,50,51,51,51,52,51,53,51,54,51,55,51,56,51,57,52,48,52,49,52,50,52,51,52,52,52,53,52,54,52,55,52,56,52,57,53,48,53,49,53,50,53,51,53,52,53,53,53,54,53,55,53,56,53,57,54,48,54,49,54,50,54,51,54,52,54,53,54,54,54,55,54,56,54,57,55,48,55,49,55,50,55,51,55,52,55,53,55,54,55,55,55,56,55,57,56,48,56,49,56,50,56,51,56,52,56,53,56,54,56,55,56,56,56,57,57,48,57,49,57,50,57,51,57,52,57,53,57,54,57,55,57,56,57,57])) (.t 51)),zd 53 42 44,zs 53 50,zd 54 45 47,zs 54 52] (zq [zm 55 0,zm 56 4,zk 57 .sub 56 3,zm 58 0,zm 59 4,zk 60 .sub 59 4,zm 61 8,zo 62 (.bin .add (.t 61) (.c (.int .u32 (.ofNat 1)))),zo 63 (.idxS (.c (.str [48,48,48,49,48,50,48,51,48,52,48,53,48,54,48,55,48,56,48,57,49,48,49,49,49,50,49,51,49,52,49,53,49,54,49,55,49,56,49,57,50,48,50,49,50,50,50,51,50,52,50,53,50,54,50,55,50,56,50,57,51,48,51,49,51,50,51,51,51,52,51,53,51,54,51,55,51,56,51,57,52,48,52,49,52,50,52,51,52,52,52,53,52,54,52,55,52,56,52,57,53,48,53,49,53,50,53,51,53,52,53,53,53,54,53,55,53,56,53,57,54,48,54,49,54,50,54,51,54,52,54,53,54,54,54,55,54,56,54,57,55,48,55,49,55,50,55,51,55,52,55,53,55,54,55,55,55,56,55,57,56,48,56,49,56,50,56,51,56,52,56,53,56,54,56,55,56,56,56,57,57,48,57,49,57,50,57,51,57,52,57,53,57,54,57,55,57,56,57,57])) (.t 62)),zm 64 8,zo 65 (.idxS (.c (.str [48,48,48,49,48,50,48,51,48,52,48,53,48,54,48,55,48,56,48,57,49,48,49,49,49,50,49,51,49,52,49,53,49,54,49,55,49,56,49,57,50,48,50,49,50,50,50,51,50,52,50,53,50,54,50,55,50,56,50,57,51,48,51,49,51,50,51,51,51,52,51,53,51,54,51,55,51,56,51,57,52,48,52,49,52,50,52,51,52,52,52,53,52,54,52,55,52,56,52,57,53,48,53,49,53,50,53,51,53,52,53,53,53,54,53,55,53,56,53,57,54,48,54,49,54,50,54,51,54,52,54,53,54,54,54,55,54,56,54,57,55,48,55,49,55,50,55,51,55,52,55,53,55,54,55,55,55,56,55,57,56,48,56,49,56,50,56,51,56,52,56,53,56,54,56,55,56,56,56,57,57,48,57,49,57,50,57,51,57,52,57,53,57,54,57,55,57,56,57,57])) (.t 64)),zd 66 55 57,zs 66 63,zd 67 58 60,zs 67 65] (zq [zm 68 0,zm 69 4,zk 70 .sub 69 5,zm 71 0,zm 72 4,zk 73 .sub 72 6,zm 74 11,zo 75 (.bin .add (.t 74) (.c (.int .u32 (.ofNat 1)))),zo 76 (.idxS (.c (.str [48,48,48,49,48,50,48,51,48,52,48,53,48,54,48,55,48,56,48,57,49,48,49,49,49,50,49,51,49,52,49,53,49,54,49,55,49,56,49,57,50,48,50,49,50,50,50,51,50,52,50,53,50,54,50,55,50,56,50,57,51,48,51,49,51,50,51,51,51,52,51,53,51,54,51,55,51,56,51,57,52,48,52,49,52,50,52,51,52,52,52,53,52,54,52,55,52,56,52,57,53,48,53,49,53,50,53,51,53,52,53,53,53,54,53,55,53,56,53,57,54,48,54,49,54,50,54,51,54,52,54,53,54,54,54,55,54,56,54,57,55,48,55,49,55,50,55,51,55,52,55,53,55,54,55,55,55,56,55,57,56,48,56,49,56,50,56,51,56,52,56,53,56,54,56,55,56,56,56,57,57,48,57,49,57,50,57,51,57,52,57,53,57,54,57,55,57,56,57,57])) (.t 75)),zm 77 11,zo 78 (.idxS (.c (.str [48,48,48,49,48,50,48,51,48,52,48,53,48,54,48,55,48,56,48,57,49,48,49,49,49,50,49,51,49,52,49,53,49,54,49,55,49,56,49,57,50,48,50,49,50,50,50,51,50,52,50,53,50,54,50,55,50,56,50,57,51,48,51,49,51,50,51,51,51,52,51,53,51,54,51,55,51,56,51,57,52,48,52,49,52,50,52,51,52,52,52,53,52,54,52,55,52,56,52,57,53,48,53,49,53,50,53,51,53,52,53,53,53,54,53,55,53,56,53,57,54,48,54,49,54,50,54,51,54,52,54,53,54,54,54,55,54,56,54,57,55,48,55,49,55,50,55,51,55,52,55,53,55,54,55,55,55,56,55,57,56,48,56,49,56,50,56,51,56,52,56,53,56,54,56,55,56,56,56,57,57,48,57,49,57,50,57,51,57,52,57,53,57,54,57,55,57,56,57,57])) (.t 77)),zd 79 68 70,zs 79 76,zd 80 71 73,zs 80 78] (zq [zm 81 0,zm 82 4,zk 83 .sub 82 7,zm 84 0,zm 85 4,zk 86 .sub 85 8,zm 87 10,zo 88 (.bin .add (.t 87) (.c (.int .u32 (.ofNat 1)))),zo 89 (.idxS (.c (.str [48,48,48,49,48,50,48,51,48,52,48,53,48,54,48,55,48,56,48,57,49,48,49,49,49,50,49,51,49,52,49,53,49,54,49,55,49,56,49,57,50,48,50,49,50,50,50,51,50,52,50,53,50,54,50,55,50,56,50,57,51,48,51,49,51,50,51,51,51,52,51,53,51,54,51,55,51,56,51,57,52,48,52,49,52,50,52,51,52,52,52,53,52,54,52,55,52,56,52,57,53,48,53,49,53,50,53,51,53,52,53,53,53,54,53,55,53,56,53,57,54,48,54,49,54,50,54,51,54,52,54,53,54,54,54,55,54,56,54,57,55,48,55,49,55,50,55,51,55,52,55,53,55,54,55,55,55,56,55,57,56,48,56,49,56,50,56,51,56,52,56,53,56,54,56,55,56,56,56,57,57,48,57,49,57,50,57,51,57,52,57,53,57,54,57,55,57,56,57,57])) (.t 88)),zm 90 10,zo 91 (.idxS (.c (.str [48,48,48,49,48,50,48,51,48,52,48,53,48,54,48,55,48,56,48,57,49,48,49,49,49,50,49,51,49,52,49,53,49,54,49,55,49,56,49,57,50,48,50,49,50,50,50,51,50,52,50,53,50,54,50,55,50,56,50,57,51,48,51,49,51,50,51,51,51,52,51,53,51,54,51,55,51,56,51,57,52,48,52,49,52,50,52,51,52,52,52,53,52,54,52,55,52,56,52,57,53,48,53,49,53,50,53,51,53,52,53,53,53,54,53,55,53,56,53,57,54,48,54,49,54,50,54,51,54,52,54,53,54,54,54,55,54,56,54,57,55,48,55,49,55,50,55,51,55,52,55,53,55,54,55,55,55,56,55,57,56,48,56,49,56,50,56,51,56,52,56,53,56,54,56,55,56,56,56,57,57,48,57,49,57,50,57,51,57,52,57,53,57,54,57,55,57,56,57,57])) (.t 90)),zd 92 81 83,zs 92 89,zd 93 84 86,zs 93 91] (.reg [zm 94 4,zk 95 .sub 94 8,zm 4 95])))))))))))))) (zq [zm 96 1,zv 97 .u32 96,zm 12 97] (zr [zm 98 4,zk 99 .geq 98 4] 99 (zq [zm 100 12,zo 101 (.bin .rem (.t 100) (.c (.int .u32 (.ofNat 10000)))),zm 13 101] (zq [zm 102 12,zo 103 (.bin .quo (.t 102) (.c (.int .u32 (.ofNat 10000)))),zm 12 103] (zq [zm 104 13,zo 105 (.bin .quo (.t 104) (.c (.int .u32 (.ofNat 100)))),zo 106 (.bin .mul (.t 105) (.c (.int .u32 (.ofNat 2)))),zm 107 13,zo 108 (.bin .rem (.t 107) (.c (.int .u32 (.ofNat 100)))),zo 109 (.bin .mul (.t 108) (.c (.int .u32 (.ofNat 2)))),zm 14 106,zm 15 109] (zq [zm 110 0,zm 111 4,zk 112 .sub 111 1,zm 113 0,zm 114 4,zk 115 .sub 114 2,zm 116 15,zo 117 (.bin .add (.t 116) (.c (.int .u32 (.ofNat 1)))),zo 118 (.idxS (.c (.str [48,48,48,49,48,50,48,51,48,52,48,53,48,54,48,55,48,56,48,57,49,48,49,49,49,50,49,51,49,52,49,53,49,54,49,55,49,56,49,57,50,48,50,49,50,50,50,51,50,52,50,53,50,54,50,55,50,56,50,57,51,48,51,49,51,50,51,51,51,52,51,53,51,54,51,55,51,56,51,57,52,48,52,49,52,50,52,51,52,52,52,53,52,54,52,55,52,56,52,57,53,48,53,49,53,50,53,51,53,52,53,53,53,54,53,55,53,56,53,57,54,48,54,49,54,50,54,51,54,52,54,53,54,54,54,55,54,56,54,57,55,48,55,49,55,50,55,51,55,52,55,53,55,54,55,55,55,56,55,57,56,48,56,49,56,50,56,51,56,52,56,53,56,54,56,55,56,56,56,57,57,48,57,49,57,50,57,51,57,52,57,53,57,54,57,55,57,56,57,57])) (.t 117)),zm 119 15,zo 120 (.idxS (.c (.str [48,48,48,49,48,50,48,51,48,52,48,53,48,54,48,55,48,56,48,57,49,48,49,49,49,50,49,51,49,52,49,53,49,54,49,55,49,56,49,57,50,48,50,49,50,50,50,51,50,52,50,53,50,54,50,55,50,56,50,57,51,48,51,49,51,50,51,51,51,52,51,53,51,54,51,55,51,56,51,57,52,48,52,49,52,50,52,51,52,52,52,53,52,54,52,55,52,56,52,57,53,48,53,49,53,50,53,51,53,52,53,53,53,54,53,55,53,56,53,57,54,48,54,49,54,50,54,51,54,52,54,53,54,54,54,55,54,56,54,57,55,48,55,49,55,50,55,51,55,52,55,53,55,54,55,55,55,56,55,57,56,48,56,49,56,50,56,51,56,52,56,53,56,54,56,55,56,56,56,57,57,48,57,49,57,50,57,51,57,52,57,53,57,54,57,55,57,56,57,57])) (.t 119)),zd 121 110 112,zs 121 118,zd 122 113 115,zs 122 120] (zq [zm 123 0,zm 124 4,zk 125 .sub 124 3,zm 126 0,zm 127 4,zk 128 .sub 127 4,zm 129 14,zo 130 (.bin .add (.t 129) (.c (.int .u32 (.ofNat 1)))),zo 131 (.idxS (.c (.str [48,48,48,49,48,50,48,51,48,52,48,53,48,54,48,55,48,56,48,57,49,48,49,49,49,50,49,51,49,52,49,53,49,54,49,55,49,56,49,57,50,48,50,49,50,50,50,51,50,52,50,53,50,54,50,55,50,56,50,57,51,48,51,49,51,50,51,51,51,52,51,53,51,54,51,55,51,56,51,57,52,48,52,49,52,50,52,51,52,52,52,53,52,54,52,55,52,56,52,57,53,48,53,49,53,50,53,51,53,52,53,53,53,54,53,55,53,56,53,57,54,48,54,49,54,50,54,51,54,52,54,53,54,54,54,55,54,56,54,57,55,48,55,49,55,50,55,51,55,52,55,53,55,54,55,55,55,56,55,57,56,48,56,49,56,50,56,51,56,52,56,53,56,54,56,55,56,56,56,57,57,48,57,49,57,50,57,51,57,52,57,53,57,54,57,55,57,56,57,57])) (.t 130)),zm 132 14,zo 133 (.idxS (.c (.str [48,48,48,49,48,50,48,51,48,52,48,53,48,54,48,55,48,56,48,57,49,48,49,49,49,50,49,51,49,52,49,53,49,54,49,55,49,56,49,57,50,48,50,49,50,50,50,51,50,52,50,53,50,54,50,55,50,56,50,57,51,48,51,49,51,50,51,51,51,52,51,53,51,54,51,55,51,56,51,57,52,48,52,49,52,50,52,51,52,52,52,53,52,54,52,55,52,56,52,57,53,48,53,49,53,50,53,51,53,52,53,53,53,54,53,55,53,56,53,57,54,48,54,49,54,50,54,51,54,52,54,53,54,54,54,55,54,56,54,57,55,48,55,49,55,50,55,51,55,52,55,53,55,54,55,55,55,56,55,57,56,48,56,49,56,50,56,51,56,52,56,53,56,54,56,55,56,56,56,57,57,48,57,49,57,50,57,51,57,52,57,53,57,54,57,55,57,56,57,57])) (.t 132)),zd 134 123 125,zs 134 131,zd 135 126 128,zs 135 133] (.reg [zm 136 4,zk 137 .sub 136 4,zm 4 137])))))) .skip (zr [zm 138 4,zk 139 .geq 138 2] 139 (zq [zm 140 12,zo 141 (.bin .rem (.t 140) (.c (.int .u32 (.ofNat 100)))),zo 142 (.bin .mul (.t 141) (.c (.int .u32 (.ofNat 2)))),zm 16 142] (zq [zm 143 12,zo 144 (.bin .quo (.t 143) (.c (.int .u32 (.ofNat 100)))),zm 12 144] (zq [zm 145 0,zm 146 4,zk 147 .sub 146 1,zm 148 0,zm 149 4,zk 150 .sub 149 2,zm 151 16,zo 152 (.bin .add (.t 151) (.c (.int .u32 (.ofNat 1)))),zo 153 (.idxS (.c (.str [48,48,48,49,48,50,48,51,48,52,48,53,48,54,48,55,48,56,48,57,49,48,49,49,49,50,49,51,49,52,49,53,49,54,49,55,49,56,49,57,50,48,50,49,50,50,50,51,50,52,50,53,50,54,50,55,50,56,50,57,51,48,51,49,51,50,51,51,51,52,51,53,51,54,51,55,51,56,51,57,52,48,52,49,52,50,52,51,52,52,52,53,52,54,52,55,52,56,52,57,53,48,53,49,53,50,53,51,53,52,53,53,53,54,53,55,53,56,53,57,54,48,54,49,54,50,54,51,54,52,54,53,54,54,54,55,54,56,54,57,55,48,55,49,55,50,55,51,55,52,55,53,55,54,55,55,55,56,55,57,56,48,56,49,56,50,56,51,56,52,56,53,56,54,56,55,56,56,56,57,57,48,57,49,57,50,57,51,57,52,57,53,57,54,57,55,57,56,57,57])) (.t 152)),zm 154 16,zo 155 (.idxS (.c (.str [48,48,48,49,48,50,48,51,48,52,48,53,48,54,48,55,48,56,48,57,49,48,49,49,49,50,49,51,49,52,49,53,49,54,49,55,49,56,49,57,50,48,50,49,50,50,50,51,50,52,50,53,50,54,50,55,50,56,50,57,51,48,51,49,51,50,51,51,51,52,51,53,51,54,51,55,51,56,51,57,52,48,52,49,52,50,52,51,52,52,52,53,52,54,52,55,52,56,52,57,53,48,53,49,53,50,53,51,53,52,53,53,53,54,53,55,53,56,53,57,54,48,54,49,54,50,54,51,54,52,54,53,54,54,54,55,54,56,54,57,55,48,55,49,55,50,55,51,55,52,55,53,55,54,55,55,55,56,55,57,56,48,56,49,56,50,56,51,56,52,56,53,56,54,56,55,56,56,56,57,57,48,57,49,57,50,57,51,57,52,57,53,57,54,57,55,57,56,57,57])) (.t 154)),zd 156 145 147,zs 156 153,zd 157 148 150,zs 157 155] (.reg [zm 158 4,zk 159 .sub 158 2,zm 4 159])))) .skip (zq [zm 160 4,zk 161 .gtr 160 0] (.cond (.t 161) (.reg [zm 162 0,zm 163 12,zo 164 (.bin .add (.c (.int .u32 (.ofNat 48))) (.t 163)),zv 165 .u8 164,zo 166 (.idxA 1 (.t 162) (zi 0)),zs 166 165]) .skip)))))),[]⟩
theorem NX:cN Tryz.prog 74=some Lz:=by kernel_rfl
def BR:cg:=⟨44,zq [zo 2 (.mv (.c (.str [])))] (zq [zm 6 0,zv 7 .u64 6,zm 3 7] (zq [zo 8 (.mkSlice 1 [zU 0] (zi 0) (zi 48)),zm 4 8] (zr [zm 9 0,zk 10 .lss 9 0] 10 (zq [zm 11 3,zo 12 (.un .neg (.t 11)),zm 3 12] (.reg [zm 13 4,zo 14 (.buildSl 1 [zU 0] [(0,1,zu 45)]),zy 15 13 14,zm 4 15])) .skip (zq [zm 16 4,zm 17 3,zo 18 (.bin .shr (.t 17) (.c (.int .u64 (.ofNat 32)))),zx 19 39 [.t 16,.t 18,zi 10],zm 4 19] (zq [zm 20 3,zo 21 (.bin .and (.t 20) (.c (.int .u64 (.ofNat 4294967295)))),zm 5 21] (zr [zm 22 5,zo 23 (.bin .eql (.t 22) (.c (.int .u64 (.ofNat 0))))] 23 (zq [zm 24 4,zo 25 (.convBS (.t 24)),zm 2 25] .ret) .skip (zq [zm 26 4,zo 27 (.buildSl 1 [zU 0] [(0,1,zu 46)]),zy 28 26 27,zm 4 28] (.seq (.block 0 (.loop (zr [zm 29 5,zo 30 (.bin .neq (.t 29) (.c (.int .u64 (.ofNat 0))))] 30 .skip (.exit 0) (.block 1 (zq [zm 31 5,zo 32 (.bin .mul (.t 31) (.c (.int .u64 (.ofNat 10)))),zm 5 32] (zq [zm 33 4,zm 34 5,zo 35 (.bin .shr (.t 34) (.c (.int .u64 (.ofNat 32)))),zv 36 .u8 35,zo 37 (.bin .add (zu 48) (.t 36)),zo 38 (.buildSl 1 [zU 0] [(0,1,.t 37)]),zy 39 33 38,zm 4 39] (.reg [zm 40 5,zo 41 (.bin .and (.t 40) (.c (.int .u64 (.ofNat 4294967295)))),zm 5 41]))))))) (zq [zm 42 4,zo 43 (.convBS (.t 42)),zm 2 43] .ret))))))))),[.t 2]⟩
theorem OL:cN Tryz.prog 17=some BR:=by kernel_rfl
def c39:cg:=⟨11,zq [zo 6 (.mv zn)] (zq [zm 7 0,zm 8 1,zm 9 2,zx 10 76 [.t 7,.t 8,.t 9],zm 6 10] .ret),[.t 6]⟩
theorem Ov:cN Tryz.prog 39=some c39:=by kernel_rfl
def O5:cg:=⟨36,zq [zo 6 (.mv zn)] (zr [zm 9 2,zk 10 .eql 9 10] 10 (zr [zm 11 1,zo 12 (.bin .lss (.t 11) (.c (.int .u64 (.ofNat 100))))] 12 (zq [zm 13 0,zm 14 1,zv 15 .i64 14,zx 16 72 [.t 15],zy 17 13 16,zm 6 17] .ret) .skip (zq [zo 7 (.new [zU 0,zU 0,zU 0,zU 0,zU 0,zU 0,zU 0,zU 0,zU 0,zU 0,zU 0,zU 0,zU 0,zU 0,zU 0,zU 0,zU 0,zU 0,zU 0,zU 0,zU 0,zU 0,zU 0,zU 0])] (zq [zm 18 1,zx 19 73 [.t 18],zm 8 19] (zq [zm 20 8,zo 21 (.slA 24 1 (.t 7) none (some (.t 20)) none),zm 22 1,zx 23 74 [.t 21,.t 22]] (zq [zm 24 0,zm 25 8,zo 26 (.slA 24 1 (.t 7) none (some (.t 25)) none),zy 27 24 26,zm 6 27] .ret))))) .skip (zq [zm 29 0,zm 30 1,zm 31 2,zx 32 75 [.t 29,.t 30,.t 31,.c (.bool false),.c (.bool true)],zm 28 32,ze 33 0 28,ze 34 1 28,zm 0 33] (zq [zm 35 0,zm 6 35] .ret))),[.t 6]⟩
theorem NW:cN Tryz.prog 76=some O5:=by kernel_rfl
end
end Go.Proofs.Wo
namespace Go.Abs
section
variable {P:Program} {Prot:Gh} {w0:World} {ρ:Pl} {H:ae} {w:World}
theorem Rel.noIter(R:Rel Prot w0 ρ H w){it since last:Nat}{m:Option Nat}{seen:Array Nat}(hi:w.heap[it]?=some (.mapIter m since seen last)){b l:Nat}{L:Loc}(h:ρ b l=some L):L.c≠it:=by
 intro e
 obtain⟨x,o,_,h2,h3⟩:=R.obj b l L h
 rw[e,hi]at h2
 simp only[sJ]at h2
 subst h2
 cases x with
 | cells c low ro=>simp only[dy]at h3; obtain⟨C,e,lo,hi,h,_⟩:=h3; cases h
 | map es c=>simp only[dy]at h3; obtain⟨_,ES,h,_⟩:=h3; cases h
 | iter s p=>simp only[dy]at h3; cases h3.2
theorem Rel.rebase(R:Rel Prot w0 ρ H w){it since last:Nat}{m:Option Nat}{seen:Array Nat}(hi:w.heap[it]?=some (.mapIter m since seen last)):Rel ⟨fun c=>Prot.prot c∨c=it,Prot.dead⟩ w ρ H w:=by
 refine⟨rfl,rfl,rfl,Nat.le_refl _,fun c hc=>⟨?_,rfl⟩,R.dom,R.obj,fun b l L x h hx hr hc=>?_,R.inj,R.dead,R.glob⟩
 ·rcases hc with hc | rfl
  ·exact PH (R.prot c hc).1 R.size
  ·exact (Array.getElem?_eq_some_iff.1 hi).1
 ·rcases hc with hc | hc
  ·exact R.free b l L x h hx hr hc
  ·exact R.noIter hi h hc
theorem Rel.unbase(R:Rel Prot w0 ρ H w){it:Nat}{D:Nat->Prop}{ρ':Pl}{H':ae}{w':World}(R':Rel ⟨fun c=>Prot.prot c∨c=it,D⟩ w ρ' H' w'):Rel ⟨Prot.prot,D⟩ w0 ρ' H' w'/\w'.heap[it]?=w.heap[it]?:=by
 refine⟨⟨R'.os.trans R.os,R'.tape.trans R.tape,R'.output.trans R.output,Nat.le_trans R.size R'.size,fun c hc=>⟨(R.prot c hc).1,((R'.prot c (.inl hc)).2).trans (R.prot c hc).2⟩,R'.dom,R'.obj,fun b l L x h hx hr hc=>R'.free b l L x h hx hr (.inl hc),R'.inj,R'.dead,R'.glob⟩,(R'.prot it (.inr rfl)).2⟩
theorem Rel.iterSet(R:Rel Prot w0 ρ H w){it since last:Nat}{m:Option Nat}{seen:Array Nat}(hi:w.heap[it]?=some (.mapIter m since seen last))(hp:¬Prot.prot it){w':World}{o:Obj}
  (h1:w'.os=w.os) (h2:w'.tape=w.tape) (h3:w'.output=w.output) (h4:w'.heap=w.heap.setIfInBounds it o):Rel Prot w0 ρ H w':=by
 have hs:w'.heap.size=w.heap.size:=by rw[h4,Array.size_setIfInBounds]
 have hg:∀c,c≠it->w'.heap[c]?=w.heap[c]?:=fun c hc=>by rw[h4,Array.getElem?_setIfInBounds,if_neg (fun e=>hc e.symm)]
 refine⟨h1.trans R.os,h2.trans R.tape,h3.trans R.output,by rw[hs]; exact R.size,fun c hc=>?_,fun b l L h=>?_,fun b l L h=>?_,R.free,R.inj,R.dead,R.glob⟩
 ·obtain⟨q1,q2⟩:=R.prot c hc
  exact⟨q1,(hg c (fun e=>hp (e ▸ hc))).trans q2⟩
 ·obtain⟨q1,q2⟩:=R.dom b l L h
  exact⟨q1,by rw[hs]; exact q2⟩
 ·obtain⟨x,o,q1,q2,q3⟩:=R.obj b l L h
  exact⟨x,o,q1,(hg _ (R.noIter hi h)).trans q2,q3⟩
end
section
variable {P:Program} {w:World}
theorem ov{it bm since c0 clock:Nat}{seen:Array Nat}{es:Array MapEntry}(ty:TypeId)(hi:w.heap[it]?=some (.mapIter (some bm) since seen c0))(hb:w.heap[bm]?=some (.map es clock))
  (hold:∀x∈es.toList,x.born<since) (hsc:since<=c0) :
  ((leftOf es seen).size=0/\(Instr.next (.pointer (some ⟨it,0,none⟩)) false ty).run P w=.ok (.tuple #[.bool false]) w) ∨
  ∃e∈(leftOf es seen).toList,∃w1:World,(Instr.next (.pointer (some ⟨it,0,none⟩)) false ty).run P w=.ok (.tuple #[.bool true,e.key,e.val]) w1 /\
   w1.heap=w.heap.setIfInBounds it (.mapIter (some bm) since (seen.push e.born) clock)/\w1.os=w.os/\w1.tape=w.tape/\w1.output=w.output:=by
 simp only[Instr.next,getObj,Sem.run_bind,Sem.run,hi,hb,Result.andThen,next_test_false seen es since c0 hold hsc,PD,if_false]
 unfold leftOf
 have hmem:∀x∈(Array.filter (fun e=>!seen.contains e.born) es).toList,x.born<since:=fun x hx=>hold x (by simp at hx ⊢; exact hx.1)
 generalize Array.filter (fun e=>!seen.contains e.born) es=L at hmem ⊢
 have e1:L.filter (fun x=>decide (x.born<since))=L:=Array.filter_eq_self.2 (fun x hx=>by simpa using hmem x (by simpa using hx))
 have e2:L.filter (fun x=>decide (x.born ≥ since))=#[]:=by
  rw[Array.filter_eq_empty_iff]
  intro x hx
  have:=hmem x (by simpa using hx)
  simp
  omega
 simp only[e1,e2,Array.append_empty]
 by_cases h0:L.size=0
 ·left
  have:L=#[]:=Array.eq_empty_of_size_eq_zero h0
  subst this
  refine⟨rfl,?_⟩
  simp[choose,Sem.run,Question.forced]
 ·right
  have hne:L.isEmpty=false:=by simp[Array.isEmpty,h0]
  simp only[hne,PD,if_false,Array.empty_append,Array.size_map]
  have hch:∃(j:Nat) (w1:World),j<L.size/\(w1.heap=w.heap/\w1.os=w.os/\w1.tape=w.tape/\w1.output=w.output)/\(choose (Question.mapNext L.size)).run P w=.ok j w1:=by
   by_cases hf:L.size<=1
   ·exact⟨0,w,om,⟨rfl,rfl,rfl,rfl⟩,by simp[choose,Sem.run,Question.forced,hf]⟩
   ·exact⟨_,w.drew,Nat.mod_lt _ om,⟨rfl,rfl,rfl,rfl⟩,by
     simp only[choose,Sem.run,Question.forced,PE,hf,if_false,Question.cut]
     rfl⟩
  obtain⟨j,w1,hj,⟨q1,q2,q3,q4⟩,hrun⟩:=hch
  have hset:∀o':Obj,(setObj it o').run P w1=.ok () { w1 with heap:=w1.heap.setIfInBounds it o' }:=fun o'=>by
   simp only[setObj,Sem.run]
   rw[q1,hi]
  refine⟨L[j],by simp,{ w1 with heap:=w1.heap.setIfInBounds it (.mapIter (some bm) since (seen.push L[j].born) clock) },?_,by rw[q1],q2,q3,q4⟩
  simp only[hrun,Array.getElem?_map,Array.getElem?_eq_getElem hj,Option.map_some,Sem.run_bind,hset,Result.andThen]
  rfl
theorem uz{it bm since clock:Nat}{seen:Array Nat}{es:Array MapEntry}{e:MapEntry}(hi:w.heap[it]?=some (.mapIter (some bm) since (seen.push e.born) clock))(hb:w.heap[bm]?=some (.map es clock))
  (hf:es.find? (fun x=>x.born==e.born)=some e):(Instr.entry (.pointer (some ⟨it,0,none⟩))).run P w=.ok (.tuple #[e.key,e.val]) w:=by
 simp only[Instr.entry,getObj,Sem.run_bind,Sem.run,hi,hb,Result.andThen,Array.back?_push,bne_self_eq_false,PD,if_false,hf]
 rfl
end
end Go.Abs
namespace Go.Abs
def jS(ops:Array Oper)(i:Nat):Oper:=match ops[i]? with
 | some o=>o
 | none => ⟨none, .move (.tmp 0), 0, "", #[], none⟩
structure rt(P:Program)(n:Nat)(ops:Array Oper)(i:Nat)(d:Option Nat)(ao:gT):Prop where
 at_:ops[i]?=some (jS ops i)
 op:tM P (jS ops i).op=some ao
 guard:(jS ops i).guard=none
 dst:(jS ops i).dst=d
 ok:dd n d=true
structure rS(n:Nat)(ops:Array Oper)(i:Nat)(d:Option Nat)(o:Op):Prop where
 at_:ops[i]?=some (jS ops i)
 op:(jS ops i).op=o
 guard:(jS ops i).guard=none
 dst:(jS ops i).dst=d
 ok:dd n d=true
section
variable {P:Program} {Prot:Gh} {w0:World} {ρ:Pl} {H:ae} {w:World} {tb:FuncId->Bool}
theorem og{o:Oper}(h:o.guard=none)(f:Nat->Option Bool):Region.wanted o f=true:=by
 unfold Region.wanted; rw[h]
theorem gD(htb:∀f,Nat.blt f bO=true->tb f=true->bc P f=true){ds:List Deferred}{n:Nat}{ops:Array Oper}{Q:Exit->Act->World->Prop}{i:Nat}{is:List Nat}{d:Option Nat}{ao:gT}(ho:rt P n ops i d ao)
  {T:Tr af} {a:Act} (R:Rel Prot w0 ρ H w) (ht:aJ ρ n T a.tmps) (hd:a.defers=ds) {v:af} {H1:ae} (hv:bG tb T H ao=some (.val v,H1))
  (hk:∀ρ1 a1 w1,ρ.le ρ1->Rel Prot w0 ρ1 H1 w1->aJ ρ1 n (aO T d v) a1.tmps->a1.defers=ds->wpOps P ops Q is a1 w1):wpOps P ops Q (i::is) a w:=by
 obtain⟨ρ1,w1,nx,q1,q2,q3,q4⟩:=gC htb R ht (jS ops i) ho.op hv
 simp only[wpOps,ho.at_]
 rw[if_pos (og ho.guard _)]
 left
 have hd':∀u,(a.put d u).defers=ds:=fun u=>by cases d <;> simpa[Act.put] using hd
 simp only[Oper.wp,q2]
 cases nx <;> simp only[iz]at q4
 case value u=>
  simp only[Oper.upon,ho.dst]
  exact hk ρ1 _ _ q1 q3 (bu (ht.mono q1) ho.ok q4) (hd' _)
 case skip=>
  simp only[Oper.upon,ho.dst]
  exact hk ρ1 _ _ q1 q3 (bu (ht.mono q1) ho.ok q4) (hd' _)
theorem p7{n:Nat}{ops:Array Oper}{Q:Exit->Act->World->Prop}{i:Nat}{is:List Nat}{d:Option Nat}{o:Op}(ho:rS n ops i d o){a:Act}{u:Value}{w1:World}
  (hr:(execOp a.eval (jS ops i)).run P w=.ok (.value u) w1) (hk:wpOps P ops Q is (a.put d u) w1):wpOps P ops Q (i::is) a w:=by
 simp only[wpOps,ho.at_]
 rw[if_pos (og ho.guard _)]
 left
 simp only[Oper.wp,hr,Oper.upon,ho.dst]
 exact hk
theorem Fy{ds:List Deferred}{n:Nat}{ops:Array Oper}{Q:Exit->Act->World->Prop}{i:Nat}{is:List Nat}{d:Option Nat}{e:TypeId}(ho:rS n ops i d (.alloc e)){z:List af}(hz:cB P e=some z)
  {T:Tr af} {a:Act} (R:Rel Prot w0 ρ H w) (ht:aJ ρ n T a.tmps) (hd:a.defers=ds) {b:Nat} (hdead:Prot.dead b) (hx:H.get b=some (.cells z 0 false))
  (hk:∀ρ1 a1 w1,ρ.le ρ1->Rel ⟨Prot.prot,fun d=>Prot.dead d/\d≠b⟩ w0 ρ1 H w1->aJ ρ1 n (aO T d (.ptr (some ⟨b,z.length,0⟩))) a1.tmps->a1.defers=ds->wpOps P ops Q is a1 w1):wpOps P ops Q (i::is) a w:=by
 obtain⟨ρ1,w1,u,q1,q2,q3,q4⟩:=tH (P:=P) R ht (o:=jS ops i) (s:=none) (.inl ⟨e,ho.op,hz,rfl⟩) hdead hx
 have hd':∀u,(a.put d u).defers=ds:=fun u=>by cases d <;> simpa[Act.put] using hd
 refine p7 ho q2 (hk ρ1 _ _ q1 q3 (bu (ht.mono q1) ho.ok q4) (hd' _))
end
abbrev oN:=List UInt8×af
def Dt(N:Nat)(g:FuncId)(rv:af)(i:Nat):af:=.func (.func g) [] [rv,.ptr (some ⟨N+2*i,1,0⟩),.ptr (some ⟨N+2*i+1,1,0⟩)]
def eZ(N:Nat)(g:FuncId)(rv:af)(s:Nat->Bool):Nat->List oN->List gr
 | _,[]=>[]
 | i,(nm,v)::r=>(.str nm,bif s i then Dt N g rv i else v,i)::eZ N g rv s (i+1) r
structure LH(N m:Nat)(g:FuncId)(rv:af)(ks:List oN)(H0:ae)(s:Nat->Bool)(H:ae):Prop where
 next:H.next=N+2*ks.length
 old:∀b,b<N->b≠m->H.get b=H0.get b
 map:H.get m=some (.map (eZ N g rv s 0 ks) ks.length)
 nm:∀i p,ks[i]?=some p->H.get (N+2*i)=some (.cells [bif s i then .str p.1 else .str []] (bif s i then 1 else 0) false)
 dv:∀i p,ks[i]?=some p->H.get (N+2*i+1)=some (.cells [bif s i then p.2 else .nilFunc] (bif s i then 1 else 0) false)
def Gz(N:Nat)(ks:List oN)(s:Nat->Bool)(d:Nat):Prop:=∃i,i<ks.length/\s i=false/\(d=N+2*i∨d=N+2*i+1)
def Eh(s:Nat->Bool)(i:Nat):Nat->Bool:=fun j=>bif Nat.beq j i then true else s j
theorem gz(s:Nat->Bool)(i:Nat):Eh s i i=true:=by simp[Eh,Nat.beq_refl]
theorem ld{s:Nat->Bool}{i j:Nat}(h:j≠i):Eh s i j=s j:=by
 unfold Eh
 rw[dM,decide_eq_false h]; rfl
section
variable {N:Nat} {g:FuncId} {rv:af}
theorem xi(s:Nat->Bool):∀(ks:List oN) (k:Nat),(eZ N g rv s k ks).length=ks.length
 | [],_=>rfl
 | (_,_)::r,k=>by simp only[eZ,Pv,xi s r]
theorem ph(s:Nat->Bool):∀(ks:List oN) (k i:Nat) (p:oN),ks[i]?=some p->(eZ N g rv s k ks)[i]?=some (.str p.1,bif s (k+i) then Dt N g rv (k+i) else p.2,k+i)
 | [],_,_,_,h=>by simp at h
 | (nm,v)::r,k,0,p,h=>by
  simp only[PA,sJ]at h
  subst h
  simp[eZ]
 | (nm,v)::r,k,i+1,p,h=>by
  simp only[PC]at h
  have:=ph s r (k+1) i p h
  simp only[eZ,PC,this]
  rw[show k+1+i=k+(i+1) by omega]
theorem tB(s:Nat->Bool):∀(ks:List oN) (k j i:Nat) (p:oN),(ks.map (·.1)).Nodup->ks[i]?=some p->bY .str (.str p.1) (eZ N g rv s k ks) j=some (some (j+i,(.str p.1,bif s (k+i) then Dt N g rv (k+i) else p.2,k+i)))
 | [],_,_,_,_,_,h=>by simp at h
 | (nm,v)::r,k,j,0,p,_,h=>by
  simp only[PA,sJ]at h
  subst h
  simp[eZ,bY,ry]
 | (nm,v)::r,k,j,i+1,p,hn,h=>by
  simp only[PC]at h
  simp only[List.map_cons,List.nodup_cons]at hn
  have hne:(p.1==nm)=false:=by
   cases hh:p.1==nm with
   | false=>rfl
   | true=>
    rw[beq_iff_eq]at hh
    exact absurd (List.mem_map.2 ⟨p,Pz h,hh⟩) hn.1
  have:=tB s r (k+1) (j+1) i p hn.2 h
  simp only[eZ,bY,ry,hne,this]
  rw[show k+1+i=k+(i+1) by omega,show j+1+i=j+(i+1) by omega]
theorem xh(s:Nat->Bool):∀(ks:List oN) (k i:Nat) (p:oN),ks[i]?=some p->jY (eZ N g rv s k ks) i (.str p.1,Dt N g rv (k+i),k+i)=eZ N g rv (Eh s (k+i)) k ks
 | [],_,_,_,h=>by simp at h
 | (nm,v)::r,k,0,p,h=>by
  simp only[PA,sJ]at h
  subst h
  have tail:∀(r:List oN) (j:Nat),k<j->eZ N g rv s j r=eZ N g rv (Eh s k) j r:=by
   intro r
   induction r with
   | nil=>intro j _; rfl
   | cons q r ih=>
    intro j hj
    obtain⟨a,b⟩:=q
    simp only[eZ,ih (j+1) om]
    rw[ld (show j≠k by omega)]
  simp only[eZ,jY,Nat.add_zero,tail r (k+1) om,gz,cond_true]
 | (nm,v)::r,k,i+1,p,h=>by
  simp only[PC]at h
  have:=xh s r (k+1) i p h
  rw[show k+1+i=k+(i+1) by omega]at this
  simp only[eZ,jY,this]
  rw[ld (show k≠k+(i+1) by omega)]
theorem kh{H:ae}{b:Nat}{y x:af}(hx:x.cells=[x])(h1:x.one=true)(hg:H.get b=some (.cells [y] 0 false)):bD 1 H (.ptr (some ⟨b,1,0⟩)) x=some (H.set b (.cells [x] 1 false)):=by
 have e:Nat.ble 0 1=true:=rfl
 have e':Nat.ble 1 1=true:=rfl
 simp[bD,cP,hx,hg,h1,e,e']
theorem lL{H:ae}{b low:Nat}{y:af}(hl:low<=1)(hg:H.get b=some (.cells [y] low false)):bi false 1 H (.ptr (some ⟨b,1,0⟩))=some y:=by
 have e':Nat.ble 1 1=true:=rfl
 simp[bi,aT,hg,Pt hl,e']
end
end Go.Abs
