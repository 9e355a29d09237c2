/- Part of a proof (S6 S7 S8 S9 S10 S11 S12 S15 S13 S16 S17 S14 S18 S19 S20 S21 S22 S23 S24 S25 S26 S27 Zab YC1 YN0 W0); no condition. -/
import Derived.OpenShut
import Derived.ChangeSlices
import Derived.WideShapes
import Derived.SizedLaws
import Derived.ChangeArms
import Derived.ChangeSame
import Derived.Test.YtfleblkgifoeaaaGreatDoorProg
import Derived.KernelRfl
import Derived.Test.YtfleblkgifoeaaaGreatDoorP6
set_option linter.unusedSimpArgs false
set_option linter.unusedVariables false
set_option linter.unnecessarySimpa false
namespace Go.Abs.S
open Go.Abs
section
variable {C:CS} {T:Env} {H:AHeap} {r:List AOper} {d:Option Nat}
abbrev KT:=List (AVal×AHeap)→Env→AHeap→Prop
variable {K:KT}
def consK(v:AVal)(H:AHeap)(K:KT):KT:=fun ss=>K ((v,H)::ss)
theorem consK_app(v:AVal)(H':AHeap)(ss:List (AVal×AHeap)):consK v H' K ss T H=K ((v,H')::ss) T H:=_root_.id rfl
def OptKT(o:Option AVal)(C:CS)(r:List AOper)(T:Env)(d:Option Nat)(H:AHeap)(K:KT):Prop:=OptP o fun v=>wTr C r (upO T d v) H (consK v H K)
def OptHT(o:Option (AVal×AHeap))(C:CS)(r:List AOper)(T:Env)(d:Option Nat)(K:KT):Prop:=OptP o fun p=>wTr C r (upO T d p.1) p.2 (consK p.1 p.2 K)
def OptST(o:Option AHeap)(C:CS)(r:List AOper)(T:Env)(d:Option Nat)(K:KT):Prop:=OptP o fun H'=>wTr C r (upO T d undefA) H' (consK undefA H' K)
def kontT(C:CS)(r:List AOper)(T:Env)(d:Option Nat)(K:KT):AVal→AHeap→Prop:=fun v H'=>wTr C r (upO T d v) H' (consK v H' K)
theorem OptKT_some(v:AVal):OptKT (some v) C r T d H K=wTr C r (upO T d v) H (consK v H K):=OptP_some _ _
theorem OptHT_some(v:AVal)(H':AHeap):OptHT (some (v,H')) C r T d K=wTr C r (upO T d v) H' (consK v H' K):=OptP_some _ _
theorem OptST_some(H':AHeap):OptST (some H') C r T d K=wTr C r (upO T d undefA) H' (consK undefA H' K):=OptP_some _ _
theorem kontT_app(v:AVal):kontT C r T d K v H=wTr C r (upO T d v) H (consK v H K):=_root_.id rfl
theorem tr_nil:wTr C [] T H K=K [] T H:=_root_.id rfl
open Classical in
theorem tr_guard(o:AOp)(t:Nat)(b:Bool)(ht:t<1000000):wTr C (⟨d,o,some (t,b)⟩::r) T H K=if T t=.bool b then wTr C (⟨d,o,none⟩::r) T H K else wTr C r (upO T d undefA) H (consK undefA H K):=by
 simp only[wTr,sG_lt T ht]
 by_cases h:T t=.bool b
 ·rw[if_pos h,h]; cases b <;> rfl
 ·rw[if_neg h]
  have:sGv b (T t)=false:=by
   unfold sGv
   cases hv:T t <;> simp only[gVb]
   rename_i v
   rw[hv]at h
   cases b <;> cases v <;> simp at h ⊢
  rw[this]; rfl
open Classical in
theorem tr_pick(c a b:Opd):wTr C (⟨d,.pick c a b,none⟩::r) T H K=if sX T c=.bool true then wTr C r (upO T d (sX T a)) H (consK (sX T a) H K) else if sX T c=.bool false then wTr C r (upO T d (sX T b)) H (consK (sX T b) H K) else False:=by
 simp only[wTr,sG,wOp,cond_true]
 by_cases h:sX T c=.bool true
 ·rw[if_pos h,h]; simp; rfl
 ·rw[if_neg h]
  by_cases h':sX T c=.bool false
  ·rw[if_pos h',h']; simp; rfl
  ·rw[if_neg h']
   simp only[eq_iff_iff,iff_false,not_exists,not_and]
   intro v hv
   cases v
   ·exact absurd hv h'
   ·exact absurd hv h
theorem tr_mv(x:Opd):wTr C (⟨d,.mv x,none⟩::r) T H K=wTr C r (upO T d (sX T x)) H (consK (sX T x) H K):=_root_.id rfl
theorem tr_new(z:List AVal):wTr C (⟨d,.new z,none⟩::r) T H K=wTr C r (upO T d (oNew H z).1) (oNew H z).2 (consK (oNew H z).1 (oNew H z).2 K):=_root_.id rfl
theorem tr_box(x:Opd):wTr C (⟨d,.box x,none⟩::r) T H K=wTr C r (upO T d (oNew H (sX T x).cells).1) (oNew H (sX T x).cells).2 (consK (oNew H (sX T x).cells).1 (oNew H (sX T x).cells).2 K):=_root_.id rfl
theorem tr_build(z:List AVal)(ps:List (Nat×Nat×Opd)):wTr C (⟨d,.build z ps,none⟩::r) T H K=OptKT (aBuild z (sXP T ps)) C r T d H K:=_root_.id rfl
theorem tr_buildSl(n:Nat)(z:List AVal)(ps:List (Nat×Nat×Opd)):wTr C (⟨d,.buildSl n z ps,none⟩::r) T H K=OptHT (aBuildSl n z H (sXP T ps)) C r T d K:=_root_.id rfl
theorem tr_load(a:Bool)(n:Nat)(x:Opd):wTr C (⟨d,.load a n x,none⟩::r) T H K=OptKT (oLoad a n H (sX T x)) C r T d H K:=_root_.id rfl
theorem tr_store(n:Nat)(a x:Opd):wTr C (⟨d,.store n a x,none⟩::r) T H K=OptST (oStore n H (sX T a) (sX T x)) C r T d K:=_root_.id rfl
theorem tr_nilChk(x:Opd):wTr C (⟨d,.nilChk x,none⟩::r) T H K=OptKT (aNilChk (sX T x)) C r T d H K:=_root_.id rfl
theorem tr_bin(op:BinOp)(x y:Opd):wTr C (⟨d,.bin op x y,none⟩::r) T H K=OptKT (aBin op (sX T x) (sX T y)) C r T d H K:=_root_.id rfl
theorem tr_un(op:UnOp)(x:Opd):wTr C (⟨d,.un op x,none⟩::r) T H K=OptKT (aUn op (sX T x)) C r T d H K:=_root_.id rfl
theorem tr_conv(k:IntKind)(x:Opd):wTr C (⟨d,.conv k x,none⟩::r) T H K=OptKT (aConv k (sX T x)) C r T d H K:=_root_.id rfl
theorem tr_convSB(x:Opd):wTr C (⟨d,.convSB x,none⟩::r) T H K=OptHT (aSB H (sX T x)) C r T d K:=_root_.id rfl
theorem tr_convBS(x:Opd):wTr C (⟨d,.convBS x,none⟩::r) T H K=OptKT (aBS H (sX T x)) C r T d H K:=_root_.id rfl
theorem tr_mkFunc(fn:Fn)(a b:List Opd):wTr C (⟨d,.mkFunc fn a b,none⟩::r) T H K=wTr C r (upO T d (.func fn (sXs T a) (sXs T b))) H (consK (.func fn (sXs T a) (sXs T b)) H K):=_root_.id rfl
theorem tr_mkIface(t:TypeId)(x:Opd):wTr C (⟨d,.mkIface t x,none⟩::r) T H K=wTr C r (upO T d (.iface t (sX T x))) H (consK (.iface t (sX T x)) H K):=_root_.id rfl
theorem tr_mkSlice(b:Nat)(z:List AVal)(l c:Opd):wTr C (⟨d,.mkSlice b z l c,none⟩::r) T H K=OptHT (aMake b z H (sX T l) (sX T c)) C r T d K:=_root_.id rfl
theorem tr_sl(n:Nat)(x:Opd)(lo hi mx:Option Opd):wTr C (⟨d,.sl n x lo hi mx,none⟩::r) T H K=OptKT (aSl n (sX T x) (sXO T lo) (sXO T hi) (sXO T mx)) C r T d H K:=_root_.id rfl
theorem tr_slStr(x:Opd)(lo hi:Option Opd):wTr C (⟨d,.slStr x lo hi,none⟩::r) T H K=OptKT (aSlStr (sX T x) (sXO T lo) (sXO T hi)) C r T d H K:=_root_.id rfl
theorem tr_fieldA(o:Nat)(x:Opd):wTr C (⟨d,.fieldA o x,none⟩::r) T H K=OptKT (aField o (sX T x)) C r T d H K:=_root_.id rfl
theorem tr_field(a:Bool)(n o:Nat)(x:Opd):wTr C (⟨d,.field a n o x,none⟩::r) T H K=OptKT (aFieldV a n o (sX T x)) C r T d H K:=_root_.id rfl
theorem tr_idxA(n:Nat)(x i:Opd):wTr C (⟨d,.idxA n x i,none⟩::r) T H K=OptKT (aIdxA n (sX T x) (sX T i)) C r T d H K:=_root_.id rfl
theorem tr_idxArr(m n:Nat)(x i:Opd):wTr C (⟨d,.idxArr m n x i,none⟩::r) T H K=OptKT (aIdxArr m n (sX T x) (sX T i)) C r T d H K:=_root_.id rfl
theorem tr_idx(m n:Nat)(a:Bool)(x i:Opd):wTr C (⟨d,.idx m n a x i,none⟩::r) T H K=OptKT (aIdx m n a (sX T x) (sX T i)) C r T d H K:=_root_.id rfl
theorem tr_idxS(x i:Opd):wTr C (⟨d,.idxS x i,none⟩::r) T H K=OptKT (aIdxS (sX T x) (sX T i)) C r T d H K:=_root_.id rfl
theorem tr_extract(i:Nat)(x:Opd):wTr C (⟨d,.extract i x,none⟩::r) T H K=OptKT (aExtract i (sX T x)) C r T d H K:=_root_.id rfl
theorem tr_append(n b:Nat)(s x:Opd):wTr C (⟨d,.append n b s x,none⟩::r) T H K=OptHT (aAppend n b H (sX T s) (sX T x)) C r T d K:=_root_.id rfl
theorem tr_len(s:Bool)(x:Opd):wTr C (⟨d,.len s x,none⟩::r) T H K=OptKT (aLenK s (sX T x)) C r T d H K:=_root_.id rfl
theorem tr_call(f:FuncId)(args:List Opd):wTr C (⟨d,.call f args,none⟩::r) T H K=C f (sXs T args) H (kontT C r T d K):=_root_.id rfl
theorem tr_callv(f:Opd)(args:List Opd):wTr C (⟨d,.callv f args,none⟩::r) T H K=callvP C (sX T f) (sXs T args) H (kontT C r T d K):=_root_.id rfl
theorem tr_pf(f:PF)(xs:List Opd):wTr C (⟨d,.pf f xs,none⟩::r) T H K=OptKT (aPf f (sXs T xs)) C r T d H K:=_root_.id rfl
theorem tr_hf(f:HF)(xs:List Opd):wTr C (⟨d,.hf f xs,none⟩::r) T H K=OptHT (aHf f H (sXs T xs)) C r T d K:=_root_.id rfl
theorem tr_slA(m n:Nat)(x:Opd)(lo hi mx:Option Opd):wTr C (⟨d,.slA m n x lo hi mx,none⟩::r) T H K=OptKT (aSlArr m n (sX T x) (sXO T lo) (sXO T hi) (sXO T mx)) C r T d H K:=_root_.id rfl
theorem ck_nil'(hs:List AHeap)(o:AOper)(l:List AOper)(ps:List (List Nat))(v:AVal)(Hv:AHeap)(ss:List (AVal×AHeap)):wCk hs (o::l) ([]::ps) ((v,Hv)::ss) T=wCk hs l ps ss (upO T o.dst v):=by
 simp[wCk]
def ckP(hs:List AHeap)(ps:List Nat)(T:Env)(o:AOper)(v:AVal):Prop:=∀p∈ps,∃Hp,hs[p]?=some Hp∧(sG T o.guard=true→∃u,wLd T Hp o.op=some u∧aeq u v=true)
theorem ck_cons(hs:List AHeap)(o:AOper)(l:List AOper)(p:Nat)(q:List Nat)(ps:List (List Nat))(v:AVal)(Hv:AHeap)(ss:List (AVal×AHeap)):wCk hs (o::l) ((p::q)::ps) ((v,Hv)::ss) T=(ckP hs (p::q) T o v∧wCk hs l ps ss (upO T o.dst v)):=by
 simp[wCk,ckP]
theorem ck_end(hs:List AHeap)(ps:List (List Nat))(ss:List (AVal×AHeap)):wCk hs [] ps ss T=True:=by
 cases ps <;> simp[wCk]
theorem ckP_nil(hs:List AHeap)(o:AOper)(v:AVal):ckP hs [] T o v=True:=by simp[ckP]
theorem ckP_load(hs:List AHeap)(p:Nat)(q:List Nat)(a:Bool)(n:Nat)(x:Opd)(g:Option (Nat×Bool))(v:AVal):ckP hs (p::q) T ⟨d,.load a n x,g⟩ v=((∃Hp,hs[p]?=some Hp∧(sG T g=true→∃u,oLoad a n Hp (sX T x)=some u∧aeq u v=true))∧ckP hs q T ⟨d,.load a n x,g⟩ v):=by
 simp[ckP,wLd]
theorem aeq_int(k:IntKind)(a:Int):aeq (.int k a) (.int k a)=true:=by simp[aeq,eqF_eq]
theorem aeq_str(a:List UInt8):aeq (.str a) (.str a)=true:=by simp[aeq]
end
def natM(N:ANat)(md:Nat→Option PMd):ANat:=⟨N.is,N.run,md⟩
theorem natM_ok{P:Program}{N:ANat}(h:NatOK P N)(md:Nat→Option PMd):NatOK P (natM N md):=⟨h.body,h.run⟩
end Go.Abs.S
namespace Go.Abs.S
open Go.Abs
theorem row_newL(H:AHeap)(l:List AVal){n:Nat}(hn:l.length=n):∃H',oNew H l=(cellR H.next n 0,H')∧Row H' H.next l∧H'.next=H.next+1∧∀c,c≠H.next→H'.get c=H.get c:=by
 subst hn
 exact⟨_,rfl,row_push _ _,rfl,fun c hc=>by rw[AHeap.get_push,if_neg hc]⟩
theorem cells_agg(l:List AVal):(AVal.agg l).cells=l:=_root_.id rfl
theorem ext_0(x:AVal)(r:List AVal):aExtract 0 (.tuple (x::r))=some x:=_root_.id rfl
theorem ext_1(x y:AVal)(r:List AVal):aExtract 1 (.tuple (x::y::r))=some y:=_root_.id rfl
theorem arr_idx{b n i:Nat}(h:i<n)(k:IntKind):aIdxArr n 1 (cellR b n 0) (.int k (i:Int))=some (cellR b n i):=by
 show (bif Nat.blt i n then some (AVal.ptr (some ⟨b,n,0+i*1⟩)) else none)=_
 have:Nat.blt i n=true:=by simpa[Nat.blt_eq] using h
 rw[this,Nat.zero_add,Nat.mul_one]; rfl
theorem Ext.of_new{H H':AHeap}{b:Nat}(hn:H'.next=H.next+1)(h:∀c,c≠b→H'.get c=H.get c){n:Nat}(hb:n≤b):Ext n H H':=⟨om,fun c hc=>h c om⟩
end Go.Abs.S
namespace Go.Abs.S
open Go.Abs Go.WideShapes Go.ChangeShapes
variable {H:Type} {enc:TypeId×Value→H}
end Go.Abs.S
namespace Go.Abs.S
open Go.Abs
theorem aw_cut{C:CS}{c:ACode}{id:Nat}{Q:Post}{T:Env}{H:AHeap}(F:Env→AHeap→Prop)(hC:CMono C)(h:wp C c (inBlk id (inSeq Q F)) T H)(k:∀T H,F T H→Q .normal T H):wp C c (inBlk id Q) T H:=by
 refine wp_mono' hC c (fun e T H hq=>?_) h
 cases e with
 | normal=>exact k _ _ hq
 | ret=>exact hq
 | exit j=>
  simp only[inBlk]at hq ⊢
  cases hb:Nat.beq j id with
  | true=>rw[hb]at hq; exact k _ _ hq
  | false=>rw[hb]at hq; exact hq
end Go.Abs.S
namespace Go.Abs.S
open Go.Abs
theorem str_len(s:List UInt8):aLenK true (.str s)=some (.int .i64 (s.length:Int)):=_root_.id rfl
theorem str_idx{s:List UInt8}{i:Nat}{b:UInt8}(h:s[i]?=some b)(k:IntKind):aIdxS (.str s) (.int k (i:Int))=some (.int .u8 (b.toNat:Int)):=by
 show (match (s[i]?:Option UInt8) with | some b=>some (AVal.int .u8 b.toNat) | none=>none)=_
 rw[h]
theorem bd_nat{y n:Nat}(h:n≤y):bd (.int .i64 (n:Int)) y=some n:=by
 show (bif Nat.ble n y then some n else none)=_
 rw[Nat.ble_eq_true_of_le h]; rfl
theorem str_sl{s:List UInt8}{l h:Nat}(h1:l≤h)(h2:h≤s.length):aSlStr (.str s) (some (.int .i64 (l:Int))) (some (.int .i64 (h:Int)))=some (.str ((s.drop l).take (h-l))):=by
 simp only[aSlStr,aBnd,bdO,bd_nat h2,bd_nat h1]
theorem str_slL{s:List UInt8}{l:Nat}(h1:l≤s.length):aSlStr (.str s) (some (.int .i64 (l:Int))) none=some (.str (s.drop l)):=by
 simp only[aSlStr,aBnd,bdO,bd_nat h1]
 rw[List.take_of_length_le (by simp)]
theorem str_slH{s:List UInt8}{h:Nat}(h2:h≤s.length):aSlStr (.str s) none (some (.int .i64 (h:Int)))=some (.str (s.take h)):=by
 simp only[aSlStr,aBnd,bdO,bd_nat h2,List.drop_zero,Nat.sub_zero]
theorem str_eql(x y:List UInt8):aBin .eql (.str x) (.str y)=some (.bool (decide (x=y))):=by
 simp only[aBin,aStr]
 by_cases h:x=y <;> simp[h]
theorem str_neq(x y:List UInt8):aBin .neq (.str x) (.str y)=some (.bool (!decide (x=y))):=by
 simp only[aBin,aStr]
 by_cases h:x=y <;> simp[h]
theorem str_add{x y:List UInt8}(h:x.length+y.length≤9223372036854775807):aBin .add (.str x) (.str y)=some (.str (x++y)):=by
 simp only[aBin,aStr,Nat.ble_eq_true_of_le h,cond_true]
theorem conv_in(k k':IntKind)(n:Int):aConv k (.int k' n)=some (.int k (k.wrap n)):=by
 simp only[aConv,wrF_eq]
theorem un_not(b:Bool):aUn .not (.bool b)=some (.bool (!b)):=_root_.id rfl
theorem bin_quo(k:IntKind)(a b:Int)(h:b≠0):aBin .quo (.int k a) (.int k b)=some (.int k (k.wrap (a.tdiv b))):=by
 simp[aBin,isShift,aIntF_eq,aInt,h]
theorem bin_shl(k k':IntKind)(a:Int)(b:Nat):aBin .shl (.int k a) (.int k' (b:Int))=some (.int k (k.wrap (a*2 ^ (min b k.bits)))):=by
 simp only[aBin,isShift,cond_true,aShiftF_eq,aShift]
 rw[if_neg om]; rfl
theorem bin_shr(k k':IntKind)(a:Int)(b:Nat):aBin .shr (.int k a) (.int k' (b:Int))=some (.int k (a.fdiv (2 ^ (min b k.bits)))):=by
 simp only[aBin,isShift,cond_true,aShiftF_eq,aShift]
 rw[if_neg om]; rfl
theorem undef_bool(b:Bool):(undefA=AVal.bool b)=False:=by simp[undefA]
theorem wrapU8{a:Int}(h1:0≤a)(h2:a≤255):IntKind.u8.wrap a=a:=IntWalk.u8_in _ ⟨h1,h2⟩
end Go.Abs.S
namespace Go.Abs.S
open Go.Abs
theorem ofInt_nat(n m:Nat):(BitVec.ofInt m (n:Int)).toNat=n % 2 ^ m:=by
 rw[BitVec.toNat_ofInt]
 omega
theorem wrapI{a:Nat}(h:a<2 ^ 63):IntKind.i64.wrap (a:Int)=a:=by
 rw[IntKind.wrap_i64]; omega
theorem bin_orN{a b:Nat}(ha:a<2 ^ 63)(hb:b<2 ^ 63):aBin .or (.int .i64 (a:Int)) (.int .i64 (b:Int))=some (.int .i64 ((a ||| b:Nat):Int)):=by
 have e:(BitVec.ofInt IntKind.i64.bits (a:Int) ||| BitVec.ofInt IntKind.i64.bits (b:Int)).toNat=a ||| b:=by
  rw[BitVec.toNat_or,ofInt_nat,ofInt_nat]
  have h1:a % 2 ^ IntKind.i64.bits=a:=Nat.mod_eq_of_lt (by simp only[IntKind.bits]; omega)
  have h2:b % 2 ^ IntKind.i64.bits=b:=Nat.mod_eq_of_lt (by simp only[IntKind.bits]; omega)
  rw[h1,h2]
 simp only[aBin,isShift,cond_false,if_true,aIntF_eq,aInt,e]
 rw[wrapI (Nat.or_lt_two_pow ha hb)]
theorem bin_shlN{k':IntKind}{a b:Nat}(hb:b≤63)(h:a*2 ^ b<2 ^ 63):aBin .shl (.int .i64 (a:Int)) (.int k' (b:Int))=some (.int .i64 ((a*2 ^ b:Nat):Int)):=by
 rw[bin_shl]
 have e:min b IntKind.i64.bits=b:=by simp only[IntKind.bits]; omega
 rw[e]
 have e2:(a:Int)*2 ^ b=((a*2 ^ b:Nat):Int):=by simp
 rw[e2,wrapI h]
theorem or_low(n a:Nat){b:Nat}(h:b<2 ^ n):a*2 ^ n ||| b=a*2 ^ n+b:=by
 rw[Nat.mul_comm,Nat.two_pow_add_eq_or_of_lt h]
theorem pf_min(a b:Int):aPf (.mm false) [.int .i64 a,.int .i64 b]=some (.int .i64 (if b<a then b else a)):=by
 simp only[aPf,aMMs,aMM,aMM1,ltF_eq,cond_false]
 by_cases h:b<a <;> simp[h]
def u8s(l:List Nat):List AVal:=l.map fun n:Nat=>.int .u8 (n:Int)
theorem u8s_len(l:List Nat):(u8s l).length=l.length:=by simp[u8s]
theorem u8s_get{l:List Nat}{i:Nat}{n:Nat}(h:l[i]?=some n):(u8s l)[i]?=some (.int .u8 (n:Int)):=by simp[u8s,h]
theorem u8s_set(l:List Nat)(i n:Nat):u8s (l.set i n)=(u8s l).set i (.int .u8 (n:Int)):=by simp[u8s]
end Go.Abs.S
namespace Go.Abs.S
open Go.Abs
theorem wrapU32{a:Int}(h1:0≤a)(h2:a<4294967296):IntKind.u32.wrap a=a:=by
 rw[IntKind.wrap_u32]; omega
theorem wrapU64'{a:Int}(h1:0≤a)(h2:a<18446744073709551616):IntKind.u64.wrap a=a:=by
 rw[IntKind.wrap_u64]; omega
theorem quoU32{a:Nat}(b:Nat)(h:0<b)(ha:a<4294967296):aBin .quo (.int .u32 (a:Int)) (.int .u32 (b:Int))=some (.int .u32 ((a / b:Nat):Int)):=by
 rw[bin_quo _ _ _ om]
 have:(a:Int).tdiv b=((a / b:Nat):Int):=rfl
 have h2:=Nat.div_le_self a b
 rw[this,wrapU32 (Int.natCast_nonneg _) (by generalize a / b=q at *; omega)]
theorem remU32{a:Nat}(b:Nat)(h:0<b):aBin .rem (.int .u32 (a:Int)) (.int .u32 (b:Int))=some (.int .u32 ((a % b:Nat):Int)):=by
 rw[bin_rem _ _ _ om]; rfl
theorem quoU64{a:Nat}(b:Nat)(h:0<b)(ha:a<18446744073709551616):aBin .quo (.int .u64 (a:Int)) (.int .u64 (b:Int))=some (.int .u64 ((a / b:Nat):Int)):=by
 rw[bin_quo _ _ _ om]
 have:(a:Int).tdiv b=((a / b:Nat):Int):=rfl
 have h2:=Nat.div_le_self a b
 rw[this,wrapU64' (Int.natCast_nonneg _) (by generalize a / b=q at *; omega)]
theorem remU64{a:Nat}(b:Nat)(h:0<b):aBin .rem (.int .u64 (a:Int)) (.int .u64 (b:Int))=some (.int .u64 ((a % b:Nat):Int)):=by
 rw[bin_rem _ _ _ om]; rfl
theorem shrN(k k':IntKind)(a:Nat){b:Nat}(hb:b≤k.bits):aBin .shr (.int k (a:Int)) (.int k' (b:Int))=some (.int k ((a / 2 ^ b:Nat):Int)):=by
 rw[bin_shr,Nat.min_eq_left hb]
 congr 2
 have:((2:Int) ^ b)=((2 ^ b:Nat):Int):=by simp
 rw[this,Int.fdiv_eq_ediv_of_nonneg _ (Int.natCast_nonneg _)]
 rfl
theorem bin_andU64{a b:Nat}(ha:a<2 ^ 64)(hb:b<2 ^ 64):aBin .and (.int .u64 (a:Int)) (.int .u64 (b:Int))=some (.int .u64 ((a &&& b:Nat):Int)):=by
 have e:(BitVec.ofInt IntKind.u64.bits (a:Int) &&& BitVec.ofInt IntKind.u64.bits (b:Int)).toNat=a &&& b:=by
  rw[BitVec.toNat_and,ofInt_nat,ofInt_nat]
  have h1:a % 2 ^ IntKind.u64.bits=a:=Nat.mod_eq_of_lt (by simp only[IntKind.bits]; omega)
  have h2:b % 2 ^ IntKind.u64.bits=b:=Nat.mod_eq_of_lt (by simp only[IntKind.bits]; omega)
  rw[h1,h2]
 simp only[aBin,isShift,cond_false,if_true,aIntF_eq,aInt,e]
 have h3:=Nat.and_lt_two_pow a hb
 rw[wrapU64' om om]
def byts(s:List UInt8):List AVal:=s.map fun b=>.int .u8 (b.toNat:Int)
theorem byts_len(s:List UInt8):(byts s).length=s.length:=by simp[byts]
theorem byts_append(s t:List UInt8):byts (s++t)=byts s++byts t:=by simp[byts]
theorem byts_one(s:List UInt8):(byts s).all AVal.one=true:=by simp[byts,AVal.one]
theorem bytesOf_byts:∀s:List UInt8,bytesOf (byts s)=some s
 | []=>rfl
 | b::s=>by
  have h:=bytesOf_byts s
  show (match bytesOf (byts s) with | some l=>some (UInt8.ofNat (Int.toNat (b.toNat:Int))::l) | none=>none)=_
  rw[h]
  simp
theorem src_str(H:AHeap)(s:List UInt8):aSrc 1 H (.str s)=some (s.length,byts s):=_root_.id rfl
def bufS(b cap n:Nat):AVal:=.slice (some ⟨b,cap,0⟩) n (.known cap)
def Buf(H:AHeap)(b cap:Nat)(s:List UInt8):Prop:=∃l,Row H b l∧l.length=cap∧l.take s.length=byts s
theorem buf_len(b cap n:Nat):aLenK false (bufS b cap n)=some (.int .i64 (n:Int)):=_root_.id rfl
theorem buf_idx{b cap n:Nat}(k:IntKind){i:Nat}(h:i<n):aIdxA 1 (bufS b cap n) (.int k (i:Int))=some (cellR b cap i):=by
 show (bif Nat.blt i n then some (AVal.ptr (some ⟨b,cap,0+i*1⟩)) else none)=_
 have:Nat.blt i n=true:=by simpa[Nat.blt_eq] using h
 rw[this,Nat.zero_add,Nat.mul_one]; rfl
theorem rep_one(z:AVal):∀k,rep [z] k=List.replicate k z
 | 0=>rfl
 | k+1=>by simp only[rep,rep_one z k,List.replicate_succ]; rfl
theorem buf_make{H:AHeap}(z:AVal)(cap:Nat)(hc:cap≤1000000):∃H',aMake 1 [z] H (.int .i64 (0:Int)) (.int .i64 (cap:Int))=some (bufS H.next cap 0,H')∧Buf H' H.next cap []∧H'.next=H.next+1∧∀c,c≠H.next→H'.get c=H.get c:=by
 refine⟨H.push (.cells (List.replicate cap z) 0 false),?_,⟨_,row_push _ _,by simp,by simp[byts]⟩,rfl,fun c hc=>by rw[AHeap.get_push,if_neg hc]⟩
 have h0:natOf (.int .i64 (0:Int))=some 0:=rfl
 have h1:natOf (.int .i64 (cap:Int))=some cap:=by
  show natOf (.int .i64 (Int.ofNat cap))=some cap
  simp only[natOf,Nat.ble_eq_true_of_le (show cap≤9223372036854775807 by omega),cond_true]
 simp only[aMake,h0,h1,rep_one,Nat.ble_eq_true_of_le (Nat.zero_le _),Nat.ble_eq_true_of_le (show 1*cap≤281474976710656 by omega),Bool.and_self,cond_true,List.length_replicate]
 rfl
theorem ap_buf{H:AHeap}{b cap:Nat}{s x:List UInt8}(hb:Buf H b cap s){t:AVal}(hs:aSrc 1 H t=some (x.length,byts x))(hx:x≠[])(hf:s.length+x.length≤cap)(hc:cap≤1000000) :
  ∃H',aAppend 1 1 H (bufS b cap s.length) t=some (bufS b cap (s++x).length,H')∧Buf H' b cap (s++x)∧H'.next=H.next∧∀c,c≠b→H'.get c=H.get c:=by
 obtain⟨l,⟨low,h1,h2⟩,h3,h4⟩:=hb
 have hl:0<x.length:=List.length_pos_iff.2 hx
 have e0:Nat.beq x.length 0=false:=by rw[beq_dec]; exact decide_eq_false om
 refine⟨H.set b (.cells (l.take s.length++(byts x++l.drop (s.length+x.length))) cap false),?_,⟨_,⟨cap,by rw[AHeap.get_set,if_pos rfl],?_⟩,?_,?_⟩,rfl,fun c hc=>by rw[AHeap.get_set,if_neg hc]⟩
 ·have hw:wrCells H ⟨b,cap,0+s.length*1⟩ (byts x)=some (H.set b (.cells (l.take s.length++(byts x++l.drop (s.length+x.length))) cap false)):=by
   unfold wrCells
   simp only[h1,Nat.zero_add,Nat.mul_one,Nat.ble_eq_true_of_le (show low≤cap by omega),byts_len,Nat.ble_eq_true_of_le hf,byts_one,h3,Nat.beq_refl,Bool.and_self,cond_true]
  simp only[aAppend,hs,e0,cond_false,bufS,Nat.add_zero,Nat.mul_one,Nat.ble_eq_true_of_le (show 2*(s.length+x.length)≤281474976710656 by omega),Nat.ble_eq_true_of_le (show s.length+x.length≤9223372036854775807 by omega),byts_len,Nat.beq_refl,byts_one,Bool.and_self,show Nat.blt 0 1=true from rfl,cond_true,Nat.ble_eq_true_of_le hf,lA]
  rw[Nat.mul_one]at hw
  rw[hw]
 ·simp[byts]; omega
 ·simp[byts]; omega
 ·rw[byts_append,← h4,← List.append_assoc]
  have e:(List.take s.length l++byts x).length=(s++x).length:=by simp[byts]; omega
  rw[← e,List.take_left]
theorem bs_buf{H:AHeap}{b cap:Nat}{s:List UInt8}(hb:Buf H b cap s)(hf:s.length≤cap):aBS H (bufS b cap s.length)=some (.str s):=by
 obtain⟨l,⟨low,h1,h2⟩,h3,h4⟩:=hb
 have hr:rdCells H ⟨b,cap,0⟩ s.length=some (byts s):=by
  unfold rdCells
  simp only[h1,Nat.ble_eq_true_of_le (show low≤cap by omega),Nat.ble_eq_true_of_le (show cap≤l.length by omega),Nat.zero_add,Nat.ble_eq_true_of_le hf,Bool.and_self,cond_true,List.drop_zero,h4]
 simp only[aBS,bufS,hr,bytesOf_byts]
theorem buf_src{H:AHeap}{b cap:Nat}{s:List UInt8}(hb:Buf H b cap s)(hf:s.length≤cap):aSrc 1 H (bufS b cap s.length)=some (s.length,byts s):=by
 obtain⟨l,⟨low,h1,h2⟩,h3,h4⟩:=hb
 have hr:rdCells H ⟨b,cap,0⟩ s.length=some (byts s):=by
  unfold rdCells
  simp only[h1,Nat.ble_eq_true_of_le (show low≤cap by omega),Nat.ble_eq_true_of_le (show cap≤l.length by omega),Nat.zero_add,Nat.ble_eq_true_of_le hf,Bool.and_self,cond_true,List.drop_zero,h4]
 simp only[aSrc,bufS,Nat.mul_one,hr]
theorem Buf.same{H H':AHeap}{b cap:Nat}{s:List UInt8}(h:Buf H b cap s)(e:H'.get b=H.get b):Buf H' b cap s:=by
 obtain⟨l,h1,h2⟩:=h
 exact⟨l,h1.same e,h2⟩
theorem slA_buf{b cap k:Nat}(h:k≤cap)(hc:0<cap):aSlArr cap 1 (cellR b cap 0) none (some (.int .i64 (k:Int))) none=some (bufS b cap k):=by
 have e:Nat.beq cap 0=false:=by rw[beq_dec]; exact decide_eq_false om
 simp only[aSlArr,cellR,aBnd,bdO,bd_nat h,Option.getD_none,e,cond_false,Nat.zero_mul,Nat.add_zero,Nat.sub_zero,bufS]
def Glo(H:AHeap)(g:Nat)(l:List AVal):Prop:=H.get g=some (.cells l 0 true)
theorem gl_idx{H:AHeap}{g n:Nat}{l:List AVal}(h:Glo H g l)(hn:l.length=n){i:Nat}(hi:i<n)(k:IntKind):aHf (.gIdx g n 1) H [.int k (i:Int)]=some (cellR g n i,H):=by
 have:gPtr H g=some (cellR g n 0):=by
  unfold gPtr
  rw[h,← hn]; rfl
 simp only[aHf,aGIdx,this,arr_idx hi]
theorem gl_load{H:AHeap}{g n:Nat}{l:List AVal}(h:Glo H g l)(hn:l.length=n){i:Nat}{x:AVal}(hi:l[i]?=some x):oLoad false 1 H (cellR g n i)=some x:=by
 subst hn
 have hlt:=(List.getElem?_eq_some_iff.1 hi).1
 obtain⟨y,h4,h5⟩:=rd_at (rd_whole h (Nat.zero_le _)) hlt
 rw[hi]at h4
 simp only[sJ]at h4
 subst h4
 simp only[Nat.zero_add]at h5
 simp only[oLoad,cellR,h5,cond_false]
theorem Glo.ext{n g:Nat}{H H':AHeap}{l:List AVal}(h:Glo H g l)(hg:g<n)(e:Ext n H H'):Glo H' g l:=(e.old g hg).trans h
theorem row_storeN{H:AHeap}{b n:Nat}{l:List AVal}(h:Row H b l)(hn:l.length=n){xs:List AVal}(hx:xs.length=n)(ho:xs.all AVal.one=true) :
  ∃H',oStore n H (cellR b n 0) (.agg xs)=some H'∧Row H' b xs∧H'.next=H.next∧∀c,c≠b→H'.get c=H.get c:=by
 subst hn
 obtain⟨low,h1,h2⟩:=h
 refine⟨H.set b (.cells xs l.length false),?_,⟨l.length,by rw[AHeap.get_set,if_pos rfl],om⟩,rfl,fun c hc=>by rw[AHeap.get_set,if_neg hc]⟩
 simp only[oStore,cellR,cells_agg,hx,Nat.beq_refl,cond_true]
 unfold wrCells
 simp only[h1,hx,Nat.ble_eq_true_of_le h2,Nat.beq_refl,Nat.zero_add,Nat.ble_eq_true_of_le rL,ho,Bool.and_self,cond_true,List.take_zero,List.nil_append,List.drop_length,List.append_nil]
theorem row_loadN{H:AHeap}{b n:Nat}{l:List AVal}(h:Row H b l)(hn:l.length=n):oLoad true n H (cellR b n 0)=some (.agg l):=by
 subst hn
 obtain⟨low,h1,h2⟩:=h
 simp only[oLoad,cellR,rd_whole h1 h2,cond_true]
theorem fld0(b n o:Nat):aField o (cellR b n 0)=some (cellR b n o):=by
 simp only[aField,cellR,Nat.zero_add]
theorem fin_c1{T:Env}{H:AHeap}(g:Bool)(n i:Nat)(K:AVal→AHeap→Prop){v:AVal}(h:oLoad g n H (T i)=some v)(hk:K v H):fin [.cell g n i] K .ret T H:=by
 simp only[fin,wRes,h,OptP_some]; exact hk
theorem fin_c2{T:Env}{H:AHeap}(g g':Bool)(n n' i i':Nat)(K:AVal→AHeap→Prop){v v':AVal}(h:oLoad g n H (T i)=some v)(h':oLoad g' n' H (T i')=some v')(hk:K (.tuple [v,v']) H):fin [.cell g n i,.cell g' n' i'] K .ret T H:=by
 simp only[fin,wRes,h,h',OptP_some]; exact hk
theorem fin_n0{T:Env}{H:AHeap}(K:AVal→AHeap→Prop):fin [] K .normal T H=K (.tuple []) H:=by
 simp only[fin,wRes,OptP_some]; rfl
end Go.Abs.S
namespace Go.Abs.S
open Go.Abs
theorem bs_cel{n:Nat}{H:AHeap}{s:AVal}{t:List UInt8}(h:Cel n H s (byts t)):aBS H s=some (.str t):=by
 rcases h with⟨h,h2⟩ | ⟨a,r,rfl,_,h3⟩
 ·have ht:t=[]:=by simpa[byts] using h2
  subst ht
  rcases isE_cases h with rfl | ⟨a,rfl⟩ <;> rfl
 ·simp only[aBS,h3,bytesOf_byts]
end Go.Abs.S
namespace Go.Abs.S
open Go.Abs Go.WideShapes Go.ChangeShapes
variable {H:Type} {enc:TypeId×Value→H}
end Go.Abs.S
namespace Go.Abs.S
open Go.Abs Go.WideShapes Go.ChangeShapes
variable {H:Type} {enc:TypeId×Value→H}
end Go.Abs.S
namespace Go.Abs.S
open Go.Abs Go.WideShapes Go.ChangeShapes
variable {H:Type} {enc:TypeId×Value→H}
end Go.Abs.S
namespace Go.Abs.S
open Go.Abs
def AppN(m n:Nat)(H:AHeap)(s:AVal)(L:List AVal)(k:Nat):Prop:=
 (s=nilS∧L=[]∧k=0)∨∃b low,s=.slice (some ⟨b,L.length,0⟩) k (.open_ m)∧L.length=m*k∧n≤b∧b<H.next∧H.get b=some (.cells L low false)∧low≤L.length∧0<k
theorem AppN.nil(m n:Nat)(H:AHeap):AppN m n H nilS [] 0:=.inl ⟨rfl,rfl,rfl⟩
theorem AppN.len{m n k:Nat}{H:AHeap}{s:AVal}{L:List AVal}(h:AppN m n H s L k):aLenK false s=some (.int .i64 (k:Int)):=by
 rcases h with⟨rfl,_,rfl⟩ | ⟨b,low,rfl,_⟩ <;> rfl
theorem AppN.blk{m n k:Nat}{H:AHeap}{s:AVal}{L:List AVal}(h:AppN m n H s L k):∀a j r,s=.slice (some a) j r→a.b<H.next:=by
 intro a j r he
 rcases h with⟨rfl,_⟩ | ⟨b,low,rfl,_,_,h4,_⟩
 ·simp[nilS]at he
 ·simp only[AVal.slice.injEq,sJ]at he
  rw[← he.1]; exact h4
def oneM(H:AHeap)(m:Nat):AVal:=.slice (some ⟨H.next,m,0⟩) 1 (.known 1)
theorem buildM{m:Nat}{z xs:List AVal}(H:AHeap)(hz:z.length=m)(hx:xs.length=m):aBuildSl 1 z H [(0,m,.agg xs)]=some (oneM H m,H.push (.cells xs 0 false)):=by
 subst hz
 have hb:Nat.beq xs.length z.length=true:=by rw[hx]; exact Nat.beq_refl _
 simp only[aBuildSl,rep,List.append_nil,aFill,cells_agg,hx,Nat.beq_refl,Nat.zero_add,Nat.ble_eq_true_of_le rL,Bool.and_self,cond_true,splice,List.take_zero,List.nil_append,List.drop_length,List.append_nil,oneM]
theorem srcM{m:Nat}{xs:List AVal}(H:AHeap)(hx:xs.length=m):aSrc m (H.push (.cells xs 0 false)) (oneM H m)=some (1,xs):=by
 subst hx
 have:=rd_whole (H:=H.push (.cells xs 0 false)) (b:=H.next) (l:=xs) (low:=0) (ro:=false) (by rw[AHeap.get_push,if_pos rfl]) (Nat.zero_le _)
 simp only[aSrc,oneM,Nat.one_mul,this]
theorem AppN.push{m n k:Nat}{H:AHeap}{s:AVal}{L:List AVal}(h:AppN m n H s L k)(hn:n≤H.next){xs:List AVal}(hx:xs.length=m)(ho:xs.all AVal.one=true)(hm:0<m){bytes:Nat}(hb:2*(k+1)*bytes≤281474976710656)(hb1:0<bytes) :
  ∃s' H',aAppend m bytes (H.push (.cells xs 0 false)) s (oneM H m)=some (s',H')∧AppN m n H' s' (L++xs) (k+1)∧Ext n H H'∧∀c,c<H.next→(∀a j r,s=.slice (some a) j r→c≠a.b)→H'.get c=H.get c:=by
 have hlen:k+1≤9223372036854775807:=by
  have:2*(k+1)≤2*(k+1)*bytes:=Nat.le_mul_of_pos_right _ hb1
  omega
 have hlt:Nat.blt 0 m=true:=by simpa[Nat.blt_eq] using hm
 have c1:∀j,j=k→(Nat.blt 0 m&&(Nat.ble ((2*(j+1)+0)*bytes) 281474976710656&&(Nat.ble (j+1) 9223372036854775807&&(Nat.beq xs.length (1*m)&&xs.all AVal.one))))=true:=by
  intro j hj
  subst hj
  simp only[Nat.add_zero,Nat.ble_eq_true_of_le hb,Nat.ble_eq_true_of_le hlen,hx,Nat.one_mul,Nat.beq_refl,ho,hlt,Bool.and_self]
 rcases h with⟨rfl,rfl,rfl⟩ | ⟨b,low,rfl,h2,h3,h4,h5,h6,h7⟩
 ·refine⟨.slice (some ⟨H.next+1,m,0⟩) 1 (.open_ m),(H.push (.cells xs 0 false)).push (.cells xs 0 false),?_,.inr ⟨H.next+1,0,by simp[hx],by simp[hx],om,Nat.lt_succ_self _,?_,Nat.zero_le _,om⟩,((Ext.refl n H).push hn _).push (by rw[push_next]; omega) _,fun c hc _=>by rw[AHeap.get_push,if_neg (by rw[push_next]; omega),get_push_lt hc]⟩
  ·simp only[aAppend,srcM H hx,nilS]
   rw[show Nat.beq 1 0=false from rfl,cond_false,c1 0 rfl,cond_true,hx]
   rfl
  ·rw[AHeap.get_push]; exact if_pos rfl
 ·have hg:(H.push (.cells xs 0 false)).get b=some (.cells L low false):=by rw[AHeap.get_push,if_neg om]; exact h5
  have hgrow:growCells (H.push (.cells xs 0 false)) ⟨b,L.length,0⟩ L.length xs=some ((H.push (.cells xs 0 false)).set b (.cells (L++xs) low false)):=by
   unfold growCells
   simp only[hg,Nat.ble_eq_true_of_le h6,Nat.ble_eq_true_of_le rL,Nat.ble_eq_true_of_le (Nat.zero_le _),Nat.ble_eq_true_of_le (show L.length+1≤L.length+xs.length by omega),Nat.beq_refl,ho,Bool.and_self,cond_true,List.take_length]
  refine⟨.slice (some ⟨b,L.length+m,0⟩) (k+1) (.open_ m),(H.push (.cells xs 0 false)).set b (.cells (L++xs) low false),?_,.inr ⟨b,low,by simp[hx],by rw[lA,h2,hx,Nat.mul_add,Nat.mul_one],h3,by rw[set_next,push_next]; omega,by rw[AHeap.get_set,if_pos rfl],by simp; omega,om⟩,((Ext.refl n H).push hn _).set h3 _,fun c hc hd=>by rw[AHeap.get_set,if_neg (hd _ _ _ rfl),get_push_lt hc]⟩
  have e0:0+k*m=L.length:=by rw[h2,Nat.mul_comm]; omega
  have e1:Nat.ble (0+(k+1)*m) L.length=false:=by
   rw[ble_dec]; refine decide_eq_false ?_
   rw[Nat.add_mul,Nat.one_mul]; omega
  simp only[aAppend,srcM H hx]
  rw[show Nat.beq 1 0=false from rfl,cond_false,c1 k rfl,cond_true]
  simp only[Nat.beq_refl,cond_true,e1,cond_false,e0,hgrow,hx]
theorem idxM{b lim k m:Nat}(K:IntKind){i:Nat}(h:i<k):aIdxA m (.slice (some ⟨b,lim,0⟩) k (.open_ m)) (.int K (i:Int))=some (cellR b lim (i*m)):=by
 show (bif Nat.blt i k then some (AVal.ptr (some ⟨b,lim,0+i*m⟩)) else none)=_
 have:Nat.blt i k=true:=by simpa[Nat.blt_eq] using h
 rw[this,Nat.zero_add]; rfl
end Go.Abs.S
namespace Go.Abs.S
open Go.Abs
def Blk(v:AVal)(P:Nat→Prop):Prop:=∀a m r,v=.slice (some a) m r→P a.b
theorem Blk.mono{v:AVal}{P Q:Nat→Prop}(h:Blk v P)(k:∀b,P b→Q b):Blk v Q:=fun a m r e=>k _ (h a m r e)
theorem isE_one{s:AVal}(h:isE s=true):s.one=true:=by
 rcases isE_cases h with rfl | ⟨a,rfl⟩ <;> rfl
theorem blk_nil(P:Nat→Prop):Blk nilS P:=by intro a m r h; simp[nilS]at h
theorem blk_some{a:Ad}{m:Nat}{r:Room}{P:Nat→Prop}(h:P a.b):Blk (.slice (some a) m r) P:=by
 intro a' m' r' e
 simp only[AVal.slice.injEq,sJ]at e
 rw[← e.1]; exact h
theorem Blk.and{v:AVal}{P Q:Nat→Prop}(h:Blk v P)(k:Blk v Q):Blk v fun b=>P b∧Q b:=fun a m r e=>⟨h a m r e,k a m r e⟩
theorem rd_row{H:AHeap}{b n:Nat}{l:List AVal}(h:Row H b l)(hn:l.length=n){i k:Nat}(hik:i+k≤n):rdCells H ⟨b,n,i⟩ k=some ((l.drop i).take k):=by
 subst hn
 obtain⟨low,h1,h2⟩:=h
 unfold rdCells
 simp only[h1,Nat.ble_eq_true_of_le h2,Nat.ble_eq_true_of_le rL,Nat.ble_eq_true_of_le hik,Bool.and_self,cond_true]
theorem row_loadK{H:AHeap}{b n:Nat}{l:List AVal}(h:Row H b l)(hn:l.length=n){i k:Nat}(hik:i+k≤n):oLoad true k H (cellR b n i)=some (.agg ((l.drop i).take k)):=by
 simp only[oLoad,cellR,rd_row h hn hik,cond_true]
theorem row_storeK{H:AHeap}{b n:Nat}{l:List AVal}(h:Row H b l)(hn:l.length=n){i k:Nat}(hik:i+k≤n){xs:List AVal}(hx:xs.length=k)(ho:xs.all AVal.one=true) :
  ∃H',oStore k H (cellR b n i) (.agg xs)=some H'∧Row H' b (l.take i++(xs++l.drop (i+k)))∧H'.next=H.next∧∀c,c≠b→H'.get c=H.get c:=by
 subst hn hx
 obtain⟨low,h1,h2⟩:=h
 refine⟨H.set b (.cells (l.take i++(xs++l.drop (i+xs.length))) l.length false),?_,⟨l.length,by rw[AHeap.get_set,if_pos rfl],by simp; omega⟩,rfl,fun c hc=>by rw[AHeap.get_set,if_neg hc]⟩
 simp only[oStore,cellR,cells_agg,Nat.beq_refl,cond_true]
 unfold wrCells
 simp only[h1,Nat.ble_eq_true_of_le h2,Nat.beq_refl,Nat.ble_eq_true_of_le hik,ho,Bool.and_self,cond_true]
theorem fldA(b n i o:Nat):aField o (cellR b n i)=some (cellR b n (i+o)):=_root_.id rfl
theorem nil_cell(b n i:Nat):aNilChk (cellR b n i)=some (cellR b n i):=_root_.id rfl
theorem AppN.blk'{m n k:Nat}{H:AHeap}{s:AVal}{L:List AVal}(h:AppN m n H s L k):Blk s (·<H.next):=fun a j r e=>h.blk a j r e
theorem AppN.same{m n k:Nat}{H H':AHeap}{s:AVal}{L:List AVal}(h:AppN m n H s L k)(hn:H.next≤H'.next)(e:Blk s fun b=>H'.get b=H.get b):AppN m n H' s L k:=by
 rcases h with h | ⟨b,low,rfl,h2,h3,h4,h5,h6,h7⟩
 ·exact .inl h
 ·exact .inr ⟨b,low,rfl,h2,h3,om,(e _ _ _ rfl).trans h5,h6,h7⟩
theorem AppN.one{m n k:Nat}{H:AHeap}{s:AVal}{L:List AVal}(h:AppN m n H s L k):s.one=true:=by
 rcases h with⟨rfl,_⟩ | ⟨b,low,rfl,_⟩ <;> rfl
theorem AppN.pushB{m k:Nat}{H:AHeap}{s:AVal}{L:List AVal}(h:AppN m 0 H s L k){xs:List AVal}(hx:xs.length=m)(ho:xs.all AVal.one=true)(hm:0<m){bytes:Nat}(hb:2*(k+1)*bytes≤281474976710656)(hb1:0<bytes) :
  ∃s' H',aAppend m bytes (H.push (.cells xs 0 false)) s (oneM H m)=some (s',H')∧AppN m 0 H' s' (L++xs) (k+1)∧H.next≤H'.next∧(∀P,Blk s P→Blk s' fun b=>P b∨H.next≤b)∧∀c,c<H.next→Blk s (c≠·)→H'.get c=H.get c:=by
 rcases h with⟨rfl,rfl,rfl⟩ | ⟨b,low,rfl,h2,h3,h4,h5,h6,h7⟩
 ·obtain⟨s',H',h1,h2,h3,h4⟩:=(AppN.nil m H.next H).push rL hx ho hm hb hb1
  refine⟨s',H',h1,?_,h3.next,fun P _=>?_,fun c hc _=>h3.old c hc⟩
  ·rcases h2 with h2 | ⟨b,low,e1,e2,e3,e4,e5,e6,e7⟩
   ·exact .inl h2
   ·exact .inr ⟨b,low,e1,e2,Nat.zero_le _,e4,e5,e6,e7⟩
  ·rcases h2 with⟨_,_,h2⟩ | ⟨b,low,rfl,e2,e3,e4,e5,e6,e7⟩
   ·omega
   ·exact blk_some (.inr e3)
 ·have h0:AppN m 0 H (.slice (some ⟨b,L.length,0⟩) k (.open_ m)) L k:=.inr ⟨b,low,rfl,h2,h3,h4,h5,h6,h7⟩
  have hb':AppN m b H (.slice (some ⟨b,L.length,0⟩) k (.open_ m)) L k:=.inr ⟨b,low,rfl,h2,Nat.le_refl _,h4,h5,h6,h7⟩
  have hlen:k+1≤9223372036854775807:=by
   have:2*(k+1)≤2*(k+1)*bytes:=Nat.le_mul_of_pos_right _ hb1
   omega
  have hlt:Nat.blt 0 m=true:=by simpa[Nat.blt_eq] using hm
  have c1:(Nat.blt 0 m&&(Nat.ble ((2*(k+1)+0)*bytes) 281474976710656&&(Nat.ble (k+1) 9223372036854775807&&(Nat.beq xs.length (1*m)&&xs.all AVal.one))))=true:=by
   simp only[Nat.add_zero,Nat.ble_eq_true_of_le hb,Nat.ble_eq_true_of_le hlen,hx,Nat.one_mul,Nat.beq_refl,ho,hlt,Bool.and_self]
  have hg:(H.push (.cells xs 0 false)).get b=some (.cells L low false):=by rw[AHeap.get_push,if_neg om]; exact h5
  have hgrow:growCells (H.push (.cells xs 0 false)) ⟨b,L.length,0⟩ L.length xs=some ((H.push (.cells xs 0 false)).set b (.cells (L++xs) low false)):=by
   unfold growCells
   simp only[hg,Nat.ble_eq_true_of_le h6,Nat.ble_eq_true_of_le rL,Nat.ble_eq_true_of_le (Nat.zero_le _),Nat.ble_eq_true_of_le (show L.length+1≤L.length+xs.length by omega),Nat.beq_refl,ho,Bool.and_self,cond_true,List.take_length]
  have e0:0+k*m=L.length:=by rw[h2,Nat.mul_comm]; omega
  have e1:Nat.ble (0+(k+1)*m) L.length=false:=by
   rw[ble_dec]; refine decide_eq_false ?_
   rw[Nat.add_mul,Nat.one_mul]; omega
  refine⟨.slice (some ⟨b,L.length+m,0⟩) (k+1) (.open_ m),(H.push (.cells xs 0 false)).set b (.cells (L++xs) low false),?_,.inr ⟨b,low,by simp[hx],by rw[lA,h2,hx,Nat.mul_add,Nat.mul_one],Nat.zero_le _,by rw[set_next,push_next]; omega,by rw[AHeap.get_set,if_pos rfl],by simp; omega,om⟩,by rw[set_next,push_next]; omega,fun P hP=>(have hP2:P b:=hP _ _ _ rfl; blk_some (.inl hP2)),fun c hc hd=>by rw[AHeap.get_set,if_neg (hd _ _ _ rfl),get_push_lt hc]⟩
  simp only[aAppend,srcM H hx]
  rw[show Nat.beq 1 0=false from rfl,cond_false,c1,cond_true]
  simp only[Nat.beq_refl,cond_true,e1,cond_false,e0,hgrow,hx]
end Go.Abs.S
namespace Go.Abs.S
open Go.Abs
end Go.Abs.S
namespace Go.Abs.S
open Go.Abs
def hold(c:ACode):ACode:=c
theorem aeq_open(a:Ad)(n m:Nat):aeq (.slice (some a) n (.open_ m)) (.slice (some a) n (.open_ m))=true:=by simp[aeq]
theorem aeq_nilS:aeq nilS nilS=true:=rfl
end Go.Abs.S
namespace Go.Abs.S
open Go.Abs
theorem sW:type_of% (And.intro (And.intro (And.intro (And.intro (And.intro (And.intro (And.intro (@pf_min) (@undef_bool)) (And.intro (@str_len) (@str_eql))) (And.intro (And.intro (@str_neq) (@conv_in)) (@un_not))) (And.intro (And.intro (And.intro (@eq_self.{1}) (@decide_true)) (@decide_false)) (And.intro (And.intro (@Bool.not_true) (@Bool.not_false)) (@argE_0)))) (And.intro (And.intro (And.intro (And.intro (@argE_1) (@argE_2)) (And.intro (@argE_3) (@argE_4))) (And.intro (And.intro (@aw_skip) (@aw_reg)) (@aw_seq))) (And.intro (And.intro (And.intro (@aw_cond) (@aw_exit)) (@aw_ret)) (And.intro (And.intro (@inSeq_normal) (@inSeq_exit)) (@inSeq_ret))))) (And.intro (And.intro (And.intro (And.intro (And.intro (@inBlk_exit) (@inBlk_normal)) (And.intro (@inBlk_ret) (@OptK_some))) (And.intro (And.intro (@OptH_some) (@OptS_some)) (@kont_app))) (And.intro (And.intro (And.intro (@ar_nil) (@ar_guard)) (@ar_mv)) (And.intro (And.intro (@ar_pick) (@ar_new)) (@ar_box)))) (And.intro (And.intro (And.intro (And.intro (@ar_build) (@ar_buildSl)) (@ar_load)) (And.intro (And.intro (@ar_store) (@ar_nilChk)) (@ar_bin))) (And.intro (And.intro (And.intro (@ar_un) (@ar_conv)) (@ar_convSB)) (And.intro (And.intro (@ar_convBS) (@ar_mkFunc)) (@ar_mkIface)))))) (And.intro (And.intro (And.intro (And.intro (And.intro (And.intro (@ar_mkSlice) (@ar_sl)) (And.intro (@ar_slStr) (@ar_fieldA))) (And.intro (And.intro (@ar_field) (@ar_idxA)) (@ar_idxArr))) (And.intro (And.intro (And.intro (@ar_idx) (@ar_idxS)) (@ar_extract)) (And.intro (And.intro (@ar_append) (@ar_len)) (@ar_call)))) (And.intro (And.intro (And.intro (And.intro (@ar_callv) (@callvP_func)) (@ar_pf)) (And.intro (And.intro (@ar_hf) (@ar_slA)) (@upO_some))) (And.intro (And.intro (And.intro (@upO_none) (@sX_t)) (@sX_c)) (And.intro (And.intro (@sX_f) (@fin_t)) (@fin_t2))))) (And.intro (And.intro (And.intro (And.intro (And.intro (@fin_t3) (@up_same)) (And.intro (@up_ne) (@ne_eq.{1}))) (And.intro (And.intro (@not_false_eq_true) (@AVal.bool.injEq)) (@decide_eq_true_eq))) (And.intro (And.intro (And.intro (@decide_eq_false_iff_not) (@Int.ofNat_eq_natCast)) (@Int.cast_ofNat_Int)) (And.intro (And.intro (@bin_lss) (@bin_leq)) (@bin_gtr)))) (And.intro (And.intro (And.intro (And.intro (@bin_geq) (@bin_eql)) (@bin_neq)) (And.intro (And.intro (@bin_add) (@bin_sub)) (@bin_mul))) (And.intro (And.intro (And.intro (@Bool.not_eq_true') (@Bool.not_eq_false')) (@Bool.true_eq_false)) (And.intro (And.intro (@Bool.false_eq_true) (@if_true.{1})) (@if_false.{1}))))))):=And.intro (And.intro (And.intro (And.intro (And.intro (And.intro (And.intro (@pf_min) (@undef_bool)) (And.intro (@str_len) (@str_eql))) (And.intro (And.intro (@str_neq) (@conv_in)) (@un_not))) (And.intro (And.intro (And.intro (@eq_self.{1}) (@decide_true)) (@decide_false)) (And.intro (And.intro (@Bool.not_true) (@Bool.not_false)) (@argE_0)))) (And.intro (And.intro (And.intro (And.intro (@argE_1) (@argE_2)) (And.intro (@argE_3) (@argE_4))) (And.intro (And.intro (@aw_skip) (@aw_reg)) (@aw_seq))) (And.intro (And.intro (And.intro (@aw_cond) (@aw_exit)) (@aw_ret)) (And.intro (And.intro (@inSeq_normal) (@inSeq_exit)) (@inSeq_ret))))) (And.intro (And.intro (And.intro (And.intro (And.intro (@inBlk_exit) (@inBlk_normal)) (And.intro (@inBlk_ret) (@OptK_some))) (And.intro (And.intro (@OptH_some) (@OptS_some)) (@kont_app))) (And.intro (And.intro (And.intro (@ar_nil) (@ar_guard)) (@ar_mv)) (And.intro (And.intro (@ar_pick) (@ar_new)) (@ar_box)))) (And.intro (And.intro (And.intro (And.intro (@ar_build) (@ar_buildSl)) (@ar_load)) (And.intro (And.intro (@ar_store) (@ar_nilChk)) (@ar_bin))) (And.intro (And.intro (And.intro (@ar_un) (@ar_conv)) (@ar_convSB)) (And.intro (And.intro (@ar_convBS) (@ar_mkFunc)) (@ar_mkIface)))))) (And.intro (And.intro (And.intro (And.intro (And.intro (And.intro (@ar_mkSlice) (@ar_sl)) (And.intro (@ar_slStr) (@ar_fieldA))) (And.intro (And.intro (@ar_field) (@ar_idxA)) (@ar_idxArr))) (And.intro (And.intro (And.intro (@ar_idx) (@ar_idxS)) (@ar_extract)) (And.intro (And.intro (@ar_append) (@ar_len)) (@ar_call)))) (And.intro (And.intro (And.intro (And.intro (@ar_callv) (@callvP_func)) (@ar_pf)) (And.intro (And.intro (@ar_hf) (@ar_slA)) (@upO_some))) (And.intro (And.intro (And.intro (@upO_none) (@sX_t)) (@sX_c)) (And.intro (And.intro (@sX_f) (@fin_t)) (@fin_t2))))) (And.intro (And.intro (And.intro (And.intro (And.intro (@fin_t3) (@up_same)) (And.intro (@up_ne) (@ne_eq.{1}))) (And.intro (And.intro (@not_false_eq_true) (@AVal.bool.injEq)) (@decide_eq_true_eq))) (And.intro (And.intro (And.intro (@decide_eq_false_iff_not) (@Int.ofNat_eq_natCast)) (@Int.cast_ofNat_Int)) (And.intro (And.intro (@bin_lss) (@bin_leq)) (@bin_gtr)))) (And.intro (And.intro (And.intro (And.intro (@bin_geq) (@bin_eql)) (@bin_neq)) (And.intro (And.intro (@bin_add) (@bin_sub)) (@bin_mul))) (And.intro (And.intro (And.intro (@Bool.not_eq_true') (@Bool.not_eq_false')) (@Bool.true_eq_false)) (And.intro (And.intro (@Bool.false_eq_true) (@if_true.{1})) (@if_false.{1}))))))
theorem sL:type_of% (And.intro (And.intro (@List.nil_append.{0}) (@List.cons_append.{0})) (@List.append_nil.{0})):=And.intro (And.intro (@List.nil_append.{0}) (@List.cons_append.{0})) (@List.append_nil.{0})
theorem sR:type_of% (And.intro (And.intro (And.intro (And.intro (And.intro (And.intro (@consK_app) (@OptKT_some)) (@OptHT_some)) (And.intro (@OptST_some) (@kontT_app))) (And.intro (And.intro (And.intro (@tr_nil) (@tr_guard)) (@tr_pick)) (And.intro (@tr_mv) (@tr_new)))) (And.intro (And.intro (And.intro (And.intro (@tr_box) (@tr_build)) (@tr_buildSl)) (And.intro (@tr_load) (@tr_store))) (And.intro (And.intro (And.intro (@tr_nilChk) (@tr_bin)) (@tr_un)) (And.intro (@tr_conv) (@tr_convSB))))) (And.intro (And.intro (And.intro (And.intro (And.intro (@tr_convBS) (@tr_mkFunc)) (@tr_mkIface)) (And.intro (@tr_mkSlice) (@tr_sl))) (And.intro (And.intro (And.intro (@tr_slStr) (@tr_fieldA)) (@tr_field)) (And.intro (@tr_idxA) (@tr_idxArr)))) (And.intro (And.intro (And.intro (And.intro (@tr_idx) (@tr_idxS)) (@tr_extract)) (And.intro (@tr_append) (@tr_len))) (And.intro (And.intro (And.intro (@tr_call) (@tr_callv)) (@tr_pf)) (And.intro (@tr_hf) (@tr_slA)))))):=And.intro (And.intro (And.intro (And.intro (And.intro (And.intro (@consK_app) (@OptKT_some)) (@OptHT_some)) (And.intro (@OptST_some) (@kontT_app))) (And.intro (And.intro (And.intro (@tr_nil) (@tr_guard)) (@tr_pick)) (And.intro (@tr_mv) (@tr_new)))) (And.intro (And.intro (And.intro (And.intro (@tr_box) (@tr_build)) (@tr_buildSl)) (And.intro (@tr_load) (@tr_store))) (And.intro (And.intro (And.intro (@tr_nilChk) (@tr_bin)) (@tr_un)) (And.intro (@tr_conv) (@tr_convSB))))) (And.intro (And.intro (And.intro (And.intro (And.intro (@tr_convBS) (@tr_mkFunc)) (@tr_mkIface)) (And.intro (@tr_mkSlice) (@tr_sl))) (And.intro (And.intro (And.intro (@tr_slStr) (@tr_fieldA)) (@tr_field)) (And.intro (@tr_idxA) (@tr_idxArr)))) (And.intro (And.intro (And.intro (And.intro (@tr_idx) (@tr_idxS)) (@tr_extract)) (And.intro (@tr_append) (@tr_len))) (And.intro (And.intro (And.intro (@tr_call) (@tr_callv)) (@tr_pf)) (And.intro (@tr_hf) (@tr_slA)))))
theorem sXs_n(T:Env):sXs T []=[]:=_root_.id rfl
theorem sXs_c(T:Env)(x:Opd)(r:List Opd):sXs T (x::r)=sX T x::sXs T r:=_root_.id rfl
theorem sXO_n(T:Env):sXO T none=none:=_root_.id rfl
theorem sXO_s(T:Env)(x:Opd):sXO T (some x)=some (sX T x):=_root_.id rfl
theorem sXP_n(T:Env):sXP T []=[]:=_root_.id rfl
theorem sXP_c(T:Env)(o n:Nat)(x:Opd)(r:List (Nat×Nat×Opd)):sXP T ((o,n,x)::r)=(o,n,sX T x)::sXP T r:=_root_.id rfl
theorem sA:type_of% (And.intro sW (And.intro sL (And.intro @aw_block (And.intro @sXs_n (And.intro @sXs_c (And.intro @sXO_n (And.intro @sXO_s (And.intro @sXP_n @sXP_c)))))))):=And.intro sW (And.intro sL (And.intro @aw_block (And.intro @sXs_n (And.intro @sXs_c (And.intro @sXO_n (And.intro @sXO_s (And.intro @sXP_n @sXP_c)))))))
end Go.Abs.S
namespace Go.Abs.S
open Go.Abs
theorem AppN.many{m k j:Nat}{H:AHeap}{s x:AVal}{L xs:List AVal}(h:AppN m 0 H s L k)(hs:aSrc m H x=some (j,xs))(hx:xs.length=m*j)(ho:xs.all AVal.one=true)(hm:0<m){bytes:Nat}(hb:2*(k+j)*bytes≤281474976710656)(hb1:0<bytes) :
  ∃s' H',aAppend m bytes H s x=some (s',H')∧AppN m 0 H' s' (L++xs) (k+j)∧H.next≤H'.next∧(∀P,Blk s P→Blk s' fun b=>P b∨H.next≤b)∧∀c,c<H.next→Blk s (c≠·)→H'.get c=H.get c:=by
 by_cases hj:j=0
 ·subst hj
  have hxs:xs=[]:=List.length_eq_zero_iff.1 om
  subst hxs
  rw[List.append_nil,Nat.add_zero]
  refine⟨s,H,?_,h,Nat.le_refl _,fun P hP=>hP.mono fun b hb=>.inl hb,fun _ _ _=>rfl⟩
  simp only[aAppend,hs,show Nat.beq 0 0=true from rfl,cond_true]
  rcases h with⟨rfl,_⟩ | ⟨b,low,rfl,_⟩ <;> rfl
 have hxl:0<xs.length:=by rw[hx]; exact Nat.mul_pos hm om
 have hlen:k+j≤9223372036854775807:=by
  have:2*(k+j)≤2*(k+j)*bytes:=Nat.le_mul_of_pos_right _ hb1
  omega
 have hlt:Nat.blt 0 m=true:=by simpa[Nat.blt_eq] using hm
 have e0:Nat.beq j 0=false:=by rw[beq_dec]; exact decide_eq_false hj
 have c1:∀q,q=k→(Nat.blt 0 m&&(Nat.ble ((2*(q+j)+0)*bytes) 281474976710656&&(Nat.ble (q+j) 9223372036854775807&&(Nat.beq xs.length (j*m)&&xs.all AVal.one))))=true:=by
  intro q hq
  subst hq
  simp only[Nat.add_zero,Nat.ble_eq_true_of_le hb,Nat.ble_eq_true_of_le hlen,hx,Nat.mul_comm m j,Nat.beq_refl,ho,hlt,Bool.and_self]
 rcases h with⟨rfl,rfl,rfl⟩ | ⟨b,low,rfl,h2,h3,h4,h5,h6,h7⟩
 ·refine⟨.slice (some ⟨H.next,xs.length,0⟩) j (.open_ m),H.push (.cells xs 0 false),?_,.inr ⟨H.next,0,by simp,by simp[hx],Nat.zero_le _,Nat.lt_succ_self _,by rw[AHeap.get_push]; exact if_pos rfl,Nat.zero_le _,om⟩,by simp[AHeap.push],fun P _=>blk_some (.inr rL),fun c hc _=>get_push_lt hc⟩
  simp only[aAppend,hs,e0,cond_false,nilS]
  rw[c1 0 rfl,cond_true]
 ·have hgrow:growCells H ⟨b,L.length,0⟩ L.length xs=some (H.set b (.cells (L++xs) low false)):=by
   unfold growCells
   simp only[h5,Nat.ble_eq_true_of_le h6,Nat.ble_eq_true_of_le rL,Nat.ble_eq_true_of_le (Nat.zero_le _),Nat.ble_eq_true_of_le (show L.length+1≤L.length+xs.length by omega),Nat.beq_refl,ho,Bool.and_self,cond_true,List.take_length]
  have e1:0+k*m=L.length:=by rw[h2,Nat.mul_comm]; omega
  have e2:Nat.ble (0+(k+j)*m) L.length=false:=by
   rw[ble_dec]; refine decide_eq_false ?_
   rw[Nat.add_mul,h2,Nat.mul_comm k m]
   have:0<j*m:=Nat.mul_pos om hm
   omega
  refine⟨.slice (some ⟨b,L.length+xs.length,0⟩) (k+j) (.open_ m),H.set b (.cells (L++xs) low false),?_,.inr ⟨b,low,by simp,by rw[lA,h2,hx,Nat.mul_add],Nat.zero_le _,by rw[set_next]; exact h4,by rw[AHeap.get_set,if_pos rfl],by simp; omega,om⟩,Nat.le_refl _,fun P hP=>(have hP2:P b:=hP _ _ _ rfl; blk_some (.inl hP2)),fun c hc hd=>by rw[AHeap.get_set,if_neg (hd _ _ _ rfl)]⟩
  simp only[aAppend,hs,e0,cond_false,c1 k rfl,cond_true,Nat.beq_refl,e1,e2,hgrow]
theorem AppN.cel1{H:AHeap}{s:AVal}{L:List AVal}{k n:Nat}(h:AppN 1 0 H s L k)(hb:Blk s (·<n)):Cel n H s L:=by
 rcases h with⟨rfl,rfl,_⟩ | ⟨b,low,rfl,h2,_,h4,h5,h6,_⟩
 ·exact .inl ⟨rfl,rfl⟩
 ·have e:k=L.length:=om
  exact .inr ⟨⟨b,L.length,0⟩,.open_ 1,by rw[e],hb _ _ _ rfl,rd_whole h5 h6⟩
end Go.Abs.S
namespace Go.Abs.S
open Go.Abs
end Go.Abs.S
namespace Go.Abs.S
open Go.Abs
end Go.Abs.S
namespace Go.Abs.S
open Go.Abs
end Go.Abs.S
namespace Go.Abs.S
open Go.Abs
theorem aw_drawN{C:CS}{T:Env}{H:AHeap}{Q:Post}{l:List AOper}{chk:List (List Nat)}(h:wTr C (claims H.next l) T (reserves H l) fun ss T' H'=>wCk (reserves H l::ss.map (·.2)) (claims H.next l) chk ss T∧Q .normal T' H'):wp C (.draw l chk) Q T H:=h
theorem tr_claim{C:CS}{T:Env}{H:AHeap}{K:List (AVal×AHeap)→Env→AHeap→Prop}{d:Option Nat}{r:List AOper}(b:Nat)(z:List AVal)(s:Option (Nat×Nat)):wTr C (⟨d,.claim b z s,none⟩::r) T H K=OptKT (aClaim H b z s) C r T d H K:=_root_.id rfl
theorem claim_ok{H:AHeap}{b:Nat}{z:List AVal}(h:H.get b=some (.cells z 0 false))(hz:aeqs z z=true):aClaim H b z none=some (cellR b z.length 0):=by
 unfold aClaim
 simp only[h,hz,cond_true]; rfl
theorem ckP_claim{T:Env}{d:Option Nat}(hs:List AHeap)(p:Nat)(q:List Nat)(b:Nat)(z:List AVal)(s:Option (Nat×Nat))(g:Option (Nat×Bool))(v:AVal):ckP hs (p::q) T ⟨d,.claim b z s,g⟩ v=((∃Hp,hs[p]?=some Hp∧(sG T g=true→∃u,aClaim Hp b z s=some u∧aeq u v=true))∧ckP hs q T ⟨d,.claim b z s,g⟩ v):=by
 simp[ckP,wLd]
theorem aeq_cellR(b n i:Nat):aeq (cellR b n i) (cellR b n i)=true:=by simp[aeq,cellR]
end Go.Abs.S
namespace Go.Abs.S
open Go.Abs Go.WideShapes Go.ChangeShapes
variable {H:Type} {enc:TypeId×Value→H}
end Go.Abs.S
namespace Go.Abs.S
open Go.Abs
abbrev zi(n:Nat):Opd:=.c (.int .i64 (.ofNat n))
abbrev zu(n:Nat):Opd:=.c (.int .u8 (.ofNat n))
abbrev zn:Opd:=.c (.slice none 0 (.known 0))
abbrev zI(n:Nat):AVal:=.int .i64 (.ofNat n)
abbrev zU(n:Nat):AVal:=.int .u8 (.ofNat n)
abbrev zN:AVal:=.slice none 0 (.known 0)
abbrev zo(d:Nat)(p:AOp):AOper:=⟨some d,p,none⟩
abbrev zp(p:AOp):AOper:=⟨none,p,none⟩
abbrev zg(d:Nat)(p:AOp)(t:Nat)(b:Bool):AOper:=⟨some d,p,some (t,b)⟩
abbrev zm(d x:Nat):AOper:=⟨some d,.mv (.t x),none⟩
abbrev zc(d x:Nat):AOper:=⟨some d,.nilChk (.t x),none⟩
abbrev zf(d n x:Nat):AOper:=⟨some d,.fieldA n (.t x),none⟩
abbrev zl(d x:Nat):AOper:=⟨some d,.load false 1 (.t x),none⟩
abbrev zt(d n x:Nat):AOper:=⟨some d,.load true n (.t x),none⟩
abbrev ze(d n x:Nat):AOper:=⟨some d,.extract n (.t x),none⟩
abbrev zb(d:Nat)(o:BinOp)(x y:Nat):AOper:=⟨some d,.bin o (.t x) (.t y),none⟩
abbrev zk(d:Nat)(o:BinOp)(x n:Nat):AOper:=⟨some d,.bin o (.t x) (.c (.int .i64 (.ofNat n))),none⟩
abbrev zx(d f:Nat)(l:List Opd):AOper:=⟨some d,.call f l,none⟩
abbrev zh(d x:Nat):AOper:=⟨some d,.len false (.t x),none⟩
abbrev zd(d x y:Nat):AOper:=⟨some d,.idxA 1 (.t x) (.t y),none⟩
abbrev zy(d x y:Nat):AOper:=⟨some d,.append 1 1 (.t x) (.t y),none⟩
abbrev zv(d:Nat)(k:IntKind)(x:Nat):AOper:=⟨some d,.conv k (.t x),none⟩
abbrev zs(x y:Nat):AOper:=⟨none,.store 1 (.t x) (.t y),none⟩
abbrev zq(l:List AOper)(c:ACode):ACode:=.seq (.reg l) c
abbrev zr(l:List AOper)(x:Nat)(a b c:ACode):ACode:=.seq (.seq (.reg l) (.cond (.t x) a b)) c
theorem zI_eq(n:Nat):zI n=.int .i64 (n:Int):=_root_.id rfl
theorem zU_eq(n:Nat):zU n=.int .u8 (n:Int):=_root_.id rfl
theorem zN_eq:zN=.slice none 0 (.known 0):=_root_.id rfl
theorem sB:type_of% (And.intro @zI_eq (And.intro @zU_eq zN_eq)):=And.intro @zI_eq (And.intro @zU_eq zN_eq)
end Go.Abs.S
namespace Go.Proofs.Wo
open Go.Abs Go.Abs.S
noncomputable section
def c62:AFn:=⟨110,zq [zo 4 (.new [zU 0,.str [],zI 0,zI 0,zI 0,zI 0]),zo 5 (.new [zI 0,zI 0])] (zr [zm 11 0,zo 12 (.len true (.t 11)),zk 13 .gtr 12 16384] 13 (zq [zo 14 (.build [zU 0,.str [],zI 0,zI 0,zI 0,zI 0] []),zo 15 (.build [zI 0,zI 0] [(0,1,zi 3)]),zp (.store 6 (.t 4) (.t 14)),zp (.store 2 (.t 5) (.t 15))] .ret) .skip (zr [zm 16 1,zk 17 .lss 16 0,zm 18 17,zg 19 (.mv (.t 1)) 18 false,zg 20 (.mv (.t 0)) 18 false,zg 21 (.len true (.t 20)) 18 false,zg 22 (.bin .gtr (.t 19) (.t 21)) 18 false,zo 23 (.pick (.t 18) (.c (.bool true)) (.t 22))] 23 (zq [zo 24 (.build [zU 0,.str [],zI 0,zI 0,zI 0,zI 0] []),zo 25 (.build [zI 0,zI 0] [(0,1,zi 2)]),zp (.store 6 (.t 4) (.t 24)),zp (.store 2 (.t 5) (.t 25))] .ret) .skip (zq [zm 26 0,zm 27 1,zx 28 101 [.t 26,.t 27],zm 1 28] (zq [zm 29 1,zm 30 1,zm 31 0,zm 32 1,zo 33 (.slStr (.t 31) none (some (.t 32))),zx 34 102 [.t 33,.c (.str [10])],zo 35 (.bin .add (zi 1) (.t 34)),zo 36 (.build [zU 0,.str [],zI 0,zI 0,zI 0,zI 0] [(4,1,.t 29),(5,1,.t 30),(3,1,.t 35)]),zo 6 (.new [zU 0,.str [],zI 0,zI 0,zI 0,zI 0]),zp (.store 6 (.t 6) (.t 36))] (zq [zf 37 3 6,zl 38 37,zo 39 (.build [zI 0,zI 0] [(0,1,zi 100),(1,1,.t 38)]),zo 7 (.new [zI 0,zI 0]),zp (.store 2 (.t 7) (.t 39))] (.seq (.block 0 (zq [zm 57 1,zm 58 0,zo 59 (.len true (.t 58)),zb 60 .eql 57 59,zm 56 60] (.cond (.t 56) (.reg [zf 61 0 6,zp (.store 1 (.t 61) (zu 5))]) (zq [zm 63 0,zm 64 1,zo 65 (.idxS (.t 63) (.t 64)),zx 66 103 [.t 65],zm 62 66] (.cond (.t 62) (zq [zm 67 0,zm 68 1,zx 69 104 [.t 67,.t 68],zf 70 5 6,zs 70 69] (zq [zm 72 0,zm 73 1,zf 74 5 6,zl 75 74,zo 76 (.slStr (.t 72) (some (.t 73)) (some (.t 75))),zx 77 105 [.t 76],zm 71 77,ze 78 0 71,ze 79 1 71,zm 8 78,zm 9 79] (zr [zm 80 9,zo 81 (.un .not (.t 80))] 81 (.seq (.draw [zo 82 (.build [zU 0,.str [],zI 0,zI 0,zI 0,zI 0] []),zt 83 2 7,zp (.store 6 (.t 4) (.t 82)),zp (.store 2 (.t 5) (.t 83))] [[],[3],[],[]]) .ret) .skip (.reg [zm 84 8,zf 85 0 6,zp (.store 1 (.t 85) (zu 1)),zf 86 2 6,zs 86 84])))) (zq [zm 88 0,zm 89 1,zo 90 (.idxS (.t 88) (.t 89)),zx 91 106 [.t 90],zm 87 91] (.cond (.t 87) (zq [zm 92 0,zm 93 1,zx 94 107 [.t 92,.t 93,.f 108],zf 95 5 6,zs 95 94] (zq [zm 96 0,zm 97 1,zf 98 5 6,zl 99 98,zo 100 (.slStr (.t 96) (some (.t 97)) (some (.t 99))),zx 101 109 [.t 100],zf 102 0 6,zp (.store 1 (.t 102) (zu 2)),zf 103 1 6,zs 103 101] (zq [zf 104 1 6,zl 105 104,zx 106 110 [.t 105]] (.cond (.t 106) (.reg [zf 107 0 6,zp (.store 1 (.t 107) (zu 3))]) .skip)))) (zq [zm 40 0,zm 41 1,zx 42 111 [.t 40,.t 41],zm 10 42] (zr [zm 43 10,zo 44 (.bin .eql (.t 43) (.c (.str [])))] 44 (.seq (.draw [zo 45 (.build [zU 0,.str [],zI 0,zI 0,zI 0,zI 0] []),zt 46 2 7,zp (.store 6 (.t 4) (.t 45)),zp (.store 2 (.t 5) (.t 46))] [[],[3],[],[]]) .ret) .skip (.reg [zm 47 10,zx 48 109 [.t 47],zm 49 1,zm 50 10,zo 51 (.len true (.t 50)),zb 52 .add 49 51,zf 53 0 6,zp (.store 1 (.t 53) (zu 4)),zf 54 1 6,zs 54 48,zf 55 5 6,zs 55 52])))))))))) (zq [zt 108 6 6,zo 109 (.build [zI 0,zI 0] []),zp (.store 6 (.t 4) (.t 108)),zp (.store 2 (.t 5) (.t 109))] .ret))))))),[.cell true 6 4,.cell true 2 5]⟩
theorem za62:cN Tryz.prog 62=some c62:=by kernel_rfl
def c101:AFn:=⟨22,zq [zo 4 (.mv (zi 0))] (.block 0 (.loop (.block 1 (zq [zm 5 0,zm 6 1,zx 7 107 [.t 5,.t 6,.f 146],zm 1 7] (zr [zm 8 1,zm 9 0,zo 10 (.len true (.t 9)),zb 11 .eql 8 10,zm 12 11,zg 13 (.mv (.t 0)) 12 false,zg 14 (.mv (.t 1)) 12 false,zg 15 (.idxS (.t 13) (.t 14)) 12 false,zg 16 (.bin .neq (.t 15) (zu 35)) 12 false,zo 17 (.pick (.t 12) (.c (.bool true)) (.t 16))] 17 (zq [zm 18 1,zm 4 18] .ret) .skip (.reg [zm 19 0,zm 20 1,zx 21 107 [.t 19,.t 20,.f 147],zm 1 21])))))),[.t 4]⟩
theorem za101:cN Tryz.prog 101=some c101:=by kernel_rfl
def c107:AFn:=⟨21,zq [zo 6 (.mv (zi 0))] (.seq (.block 0 (.loop (zr [zm 7 1,zm 8 0,zo 9 (.len true (.t 8)),zb 10 .lss 7 9,zm 11 10,zg 12 (.mv (.t 2)) 11 true,zg 13 (.mv (.t 0)) 11 true,zg 14 (.mv (.t 1)) 11 true,zg 15 (.idxS (.t 13) (.t 14)) 11 true,zg 16 (.callv (.t 12) [.t 15]) 11 true,zo 17 (.pick (.t 11) (.t 16) (.c (.bool false)))] 17 .skip (.exit 0) (.block 1 (.reg [zm 18 1,zk 19 .add 18 1,zm 1 19]))))) (zq [zm 20 1,zm 6 20] .ret)),[.t 6]⟩
theorem za107:cN Tryz.prog 107=some c107:=by kernel_rfl
def c146:AFn:=⟨17,zq [zo 2 (.mv (.c (.bool false)))] (zq [zm 3 0,zo 4 (.bin .eql (.t 3) (zu 9)),zm 5 4,zg 6 (.mv (.t 0)) 5 false,zg 7 (.bin .eql (.t 6) (zu 10)) 5 false,zo 8 (.pick (.t 5) (.c (.bool true)) (.t 7)),zm 9 8,zg 10 (.mv (.t 0)) 9 false,zg 11 (.bin .eql (.t 10) (zu 13)) 9 false,zo 12 (.pick (.t 9) (.c (.bool true)) (.t 11)),zm 13 12,zg 14 (.mv (.t 0)) 13 false,zg 15 (.bin .eql (.t 14) (zu 32)) 13 false,zo 16 (.pick (.t 13) (.c (.bool true)) (.t 15)),zm 2 16] .ret),[.t 2]⟩
theorem za146:cN Tryz.prog 146=some c146:=by kernel_rfl
def c147:AFn:=⟨5,zq [zo 2 (.mv (.c (.bool false)))] (zq [zm 3 0,zo 4 (.bin .neq (.t 3) (zu 10)),zm 2 4] .ret),[.t 2]⟩
theorem za147:cN Tryz.prog 147=some c147:=by kernel_rfl
def c102:AFn:=⟨34,zq [zo 4 (.mv (zi 0))] (zr [zm 7 1,zo 8 (.len true (.t 7)),zk 9 .eql 8 0] 9 (zq [zm 10 0,zx 11 148 [.t 10],zk 12 .add 11 1,zm 4 12] .ret) .skip (zr [zm 13 1,zo 14 (.len true (.t 13)),zk 15 .eql 14 1] 15 (zq [zm 16 0,zm 17 1,zo 18 (.idxS (.t 17) (zi 0)),zo 19 (.pf .cbs [.t 16,.t 18]),zm 4 19] .ret) .skip (zq [zo 5 (.mv (zi 0))] (.block 0 (.loop (.block 1 (zq [zm 20 0,zm 21 1,zx 22 150 [.t 20,.t 21],zm 6 22] (zr [zm 23 6,zo 24 (.bin .eql (.t 23) (.c (.int .i64 (.negSucc 0))))] 24 (zq [zm 25 5,zm 4 25] .ret) .skip (zq [zm 26 5,zk 27 .add 26 1,zm 5 27] (.reg [zm 28 0,zm 29 6,zm 30 1,zo 31 (.len true (.t 30)),zb 32 .add 29 31,zo 33 (.slStr (.t 28) (some (.t 32)) none),zm 0 33])))))))))),[.t 4]⟩
theorem za102:cN Tryz.prog 102=some c102:=by kernel_rfl
def c181:AFn:=⟨143,zq [zo 4 (.mv (zi 0))] (zq [zm 14 1,zo 15 (.len true (.t 14)),zm 5 15] (.seq (.block 0 (zq [zm 17 5,zk 18 .eql 17 0,zm 19 18,zg 20 (.mv (.t 1)) 19 false,zg 21 (.mv (.t 0)) 19 false,zg 22 (.bin .eql (.t 20) (.t 21)) 19 false,zo 23 (.pick (.t 19) (.c (.bool true)) (.t 22)),zm 16 23] (.cond (.t 16) (zq [zo 4 (.mv (zi 0))] .ret) (zq [zm 25 5,zk 26 .eql 25 1,zm 24 26] (.cond (.t 24) (zq [zm 27 0,zm 28 1,zo 29 (.idxS (.t 28) (zi 0)),zx 30 184 [.t 27,.t 29],zm 4 30] .ret) (zq [zm 32 5,zm 33 0,zo 34 (.len true (.t 33)),zb 35 .geq 32 34,zm 31 35] (.cond (.t 31) (zq [zo 4 (.mv (.c (.int .i64 (.negSucc 0))))] .ret) (zq [zm 37 5,zo 38 (.hf (.gLd 0 false 1) []),zb 39 .leq 37 38,zm 40 39,zg 41 (.mv (.t 0)) 40 true,zg 42 (.len true (.t 41)) 40 true,zg 43 (.bin .leq (.t 42) (zi 64)) 40 true,zo 44 (.pick (.t 40) (.t 43) (.c (.bool false))),zm 36 44] (.cond (.t 36) (zq [zm 45 0,zm 46 1,zx 47 200 [.t 45,.t 46],zm 4 47] .ret) .skip))))))))) (zq [zm 48 1,zo 49 (.idxS (.t 48) (zi 0)),zm 6 49] (zq [zm 50 1,zo 51 (.idxS (.t 50) (zi 1)),zm 7 51] (zq [zo 8 (.mv (zi 0))] (zq [zm 52 0,zo 53 (.len true (.t 52)),zm 54 5,zb 55 .sub 53 54,zk 56 .add 55 1,zm 9 56] (zq [zo 10 (.mv (zi 0))] (.seq (.block 1 (.loop (zr [zm 57 8,zm 58 9,zb 59 .lss 57 58] 59 .skip (.exit 1) (.block 2 (zr [zm 60 0,zm 61 8,zo 62 (.idxS (.t 60) (.t 61)),zm 63 6,zb 64 .neq 62 63] 64 (zq [zm 65 0,zm 66 8,zk 67 .add 66 1,zm 68 9,zo 69 (.slStr (.t 65) (some (.t 67)) (some (.t 68))),zm 70 6,zx 71 184 [.t 69,.t 70],zm 11 71] (zr [zm 72 11,zk 73 .lss 72 0] 73 (zq [zo 4 (.mv (.c (.int .i64 (.negSucc 0))))] .ret) .skip (.reg [zm 74 8,zm 75 11,zk 76 .add 75 1,zb 77 .add 74 76,zm 8 77]))) .skip (zr [zm 78 0,zm 79 8,zk 80 .add 79 1,zo 81 (.idxS (.t 78) (.t 80)),zm 82 7,zb 83 .eql 81 82,zm 84 83,zg 85 (.mv (.t 0)) 84 true,zg 86 (.mv (.t 8)) 84 true,zg 87 (.mv (.t 8)) 84 true,zg 88 (.mv (.t 5)) 84 true,zg 89 (.bin .add (.t 87) (.t 88)) 84 true,zg 90 (.slStr (.t 85) (some (.t 86)) (some (.t 89))) 84 true,zg 91 (.mv (.t 1)) 84 true,zg 92 (.bin .eql (.t 90) (.t 91)) 84 true,zo 93 (.pick (.t 84) (.t 92) (.c (.bool false)))] 93 (zq [zm 94 8,zm 4 94] .ret) .skip (zq [zm 95 8,zk 96 .add 95 1,zm 8 96] (zq [zm 97 10,zk 98 .add 97 1,zm 10 98] (zq [zm 99 5,zo 100 (.hf (.gLd 0 false 1) []),zb 101 .leq 99 100,zm 102 101,zg 103 (.mv (.t 10)) 102 true,zg 104 (.mv (.t 8)) 102 true,zg 105 (.call 201 [.t 104]) 102 true,zg 106 (.bin .gtr (.t 103) (.t 105)) 102 true,zo 107 (.pick (.t 102) (.t 106) (.c (.bool false)))] (.cond (.t 107) (zq [zm 108 0,zm 109 8,zo 110 (.slStr (.t 108) (some (.t 109)) none),zm 111 1,zx 112 200 [.t 110,.t 111],zm 12 112] (zr [zm 113 12,zk 114 .geq 113 0] 114 (zq [zm 115 12,zm 116 8,zb 117 .add 115 116,zm 4 117] .ret) .skip (zq [zo 4 (.mv (.c (.int .i64 (.negSucc 0))))] .ret))) (zq [zm 118 5,zo 119 (.hf (.gLd 0 false 1) []),zb 120 .gtr 118 119,zm 121 120,zg 122 (.mv (.t 10)) 121 true,zg 123 (.mv (.t 8)) 121 true,zg 124 (.bin .shr (.t 123) (.c (.int .u64 (.ofNat 4)))) 121 true,zg 125 (.bin .add (zi 4) (.t 124)) 121 true,zg 126 (.bin .geq (.t 122) (.t 125)) 121 true,zo 127 (.pick (.t 121) (.t 126) (.c (.bool false))),zm 128 127,zg 129 (.mv (.t 8)) 128 true,zg 130 (.mv (.t 9)) 128 true,zg 131 (.bin .lss (.t 129) (.t 130)) 128 true,zo 132 (.pick (.t 128) (.t 131) (.c (.bool false)))] (.cond (.t 132) (zq [zm 133 0,zm 134 8,zo 135 (.slStr (.t 133) (some (.t 134)) none),zm 136 1,zx 137 202 [.t 135,.t 136],zm 13 137] (zr [zm 138 13,zk 139 .lss 138 0] 139 (zq [zo 4 (.mv (.c (.int .i64 (.negSucc 0))))] .ret) .skip (zq [zm 140 8,zm 141 13,zb 142 .add 140 141,zm 4 142] .ret))) .skip)))))))))))) (zq [zo 4 (.mv (.c (.int .i64 (.negSucc 0))))] .ret))))))))),[.t 4]⟩
theorem za181:cN Tryz.prog 181=some c181:=by kernel_rfl
def c184:AFn:=⟨8,zq [zo 4 (.mv (zi 0))] (zq [zm 5 0,zm 6 1,zo 7 (.pf .ibs [.t 5,.t 6]),zm 4 7] .ret),[.t 4]⟩
theorem za184:cN Tryz.prog 184=some c184:=by kernel_rfl
def c103:AFn:=⟨9,zq [zo 2 (.mv (.c (.bool false)))] (zq [zm 3 0,zo 4 (.bin .leq (zu 48) (.t 3)),zm 5 4,zg 6 (.mv (.t 0)) 5 true,zg 7 (.bin .leq (.t 6) (zu 57)) 5 true,zo 8 (.pick (.t 5) (.t 7) (.c (.bool false))),zm 2 8] .ret),[.t 2]⟩
theorem za103:cN Tryz.prog 103=some c103:=by kernel_rfl
def c104:AFn:=⟨36,zq [zo 4 (.mv (zi 0))] (zq [zm 7 0,zm 8 1,zx 9 107 [.t 7,.t 8,.f 103],zm 5 9] (zr [zm 10 5,zm 11 1,zb 12 .eql 10 11,zm 13 12,zg 14 (.mv (.t 5)) 13 false,zg 15 (.mv (.t 0)) 13 false,zg 16 (.len true (.t 15)) 13 false,zg 17 (.bin .eql (.t 14) (.t 16)) 13 false,zo 18 (.pick (.t 13) (.c (.bool true)) (.t 17)),zm 19 18,zg 20 (.mv (.t 0)) 19 false,zg 21 (.mv (.t 5)) 19 false,zg 22 (.idxS (.t 20) (.t 21)) 19 false,zg 23 (.bin .neq (.t 22) (zu 46)) 19 false,zo 24 (.pick (.t 19) (.c (.bool true)) (.t 23))] 24 (zq [zm 25 5,zm 4 25] .ret) .skip (.seq (zq [zm 26 0,zm 27 5,zk 28 .add 27 1,zx 29 107 [.t 26,.t 28,.f 103],zm 6 29] (zq [zm 30 6,zm 31 5,zk 32 .add 31 1,zb 33 .gtr 30 32] (.cond (.t 33) (zq [zm 34 6,zm 4 34] .ret) .skip))) (zq [zm 35 5,zm 4 35] .ret)))),[.t 4]⟩
theorem za104:cN Tryz.prog 104=some c104:=by kernel_rfl
def c105:AFn:=⟨51,zq [zo 2 (.mv (zi 0)),zo 3 (.mv (.c (.bool false)))] (zr [zm 9 0,zo 10 (.bin .eql (.t 9) (.c (.str []))),zm 11 10,zg 12 (.mv (.t 0)) 11 false,zg 13 (.idxS (.t 12) (zi 0)) 11 false,zg 14 (.call 103 [.t 13]) 11 false,zg 15 (.un .not (.t 14)) 11 false,zo 16 (.pick (.t 11) (.c (.bool true)) (.t 15)),zm 17 16,zg 18 (.mv (.t 0)) 17 false,zg 19 (.call 104 [.t 18,zi 0]) 17 false,zg 20 (.mv (.t 0)) 17 false,zg 21 (.len true (.t 20)) 17 false,zg 22 (.bin .neq (.t 19) (.t 21)) 17 false,zo 23 (.pick (.t 17) (.c (.bool true)) (.t 22))] 23 (zq [zo 2 (.mv (zi 0)),zo 3 (.mv (.c (.bool false)))] .ret) .skip (zq [zm 25 0,zx 26 151 [.t 25,.c (.str [46])],zm 24 26,ze 27 0 24,ze 28 1 24,ze 29 2 24,zm 4 27,zm 5 28,zm 6 29] (zq [zo 7 (.mv (zi 0))] (.seq (zq [zm 30 4,zo 31 (.len true (.t 30)),zo 32 (.mv (zi 0))] (.block 0 (.loop (zq [zb 33 .lss 32 31] (.seq (.cond (.t 33) .skip (.exit 0)) (.seq (.block 1 (zq [zm 34 32,zm 8 34] (zq [zm 35 7,zk 36 .mul 35 10,zm 37 4,zm 38 8,zo 39 (.idxS (.t 37) (.t 38)),zo 40 (.bin .sub (.t 39) (zu 48)),zv 41 .i64 40,zb 42 .add 36 41,zm 7 42] (zq [zm 43 7,zk 44 .geq 43 2147483648] (.cond (.t 44) (zq [zo 2 (.mv (zi 0)),zo 3 (.mv (.c (.bool false)))] .ret) .skip))))) (.reg [zk 45 .add 32 1,zm 32 45]))))))) (zq [zm 46 7,zo 47 (.bin .shl (.t 46) (.c (.int .u64 (.ofNat 32)))),zm 48 5,zx 49 152 [.t 48],zb 50 .or 47 49,zm 2 50,zo 3 (.mv (.c (.bool true)))] .ret))))),[.t 2,.t 3]⟩
theorem za105:cN Tryz.prog 105=some c105:=by kernel_rfl
def c151:AFn:=⟨13,zq [zo 4 (.mv (.c (.str []))),zo 5 (.mv (.c (.str []))),zo 6 (.mv (.c (.bool false)))] (zq [zm 7 0,zm 8 1,zx 9 182 [.t 7,.t 8],ze 10 0 9,ze 11 1 9,ze 12 2 9,zm 4 10,zm 5 11,zm 6 12] .ret),[.t 4,.t 5,.t 6]⟩
theorem za151:cN Tryz.prog 151=some c151:=by kernel_rfl
def c182:AFn:=⟨23,zq [zo 4 (.mv (.c (.str []))),zo 5 (.mv (.c (.str []))),zo 6 (.mv (.c (.bool false)))] (.seq (zq [zm 8 0,zm 9 1,zx 10 181 [.t 8,.t 9],zm 7 10] (zq [zm 11 7,zk 12 .geq 11 0] (.cond (.t 12) (zq [zm 13 0,zm 14 7,zo 15 (.slStr (.t 13) none (some (.t 14))),zm 16 0,zm 17 7,zm 18 1,zo 19 (.len true (.t 18)),zb 20 .add 17 19,zo 21 (.slStr (.t 16) (some (.t 20)) none),zm 4 15,zm 5 21,zo 6 (.mv (.c (.bool true)))] .ret) .skip))) (zq [zm 22 0,zm 4 22,zo 5 (.mv (.c (.str []))),zo 6 (.mv (.c (.bool false)))] .ret)),[.t 4,.t 5,.t 6]⟩
theorem za182:cN Tryz.prog 182=some c182:=by kernel_rfl
def c152:AFn:=⟨47,zq [zo 2 (.mv (zi 0))] (zq [zo 3 (.new [zU 0,zU 0,zU 0,zU 0,zU 0,zU 0,zU 0,zU 0,zU 0,zU 0,zU 0,zU 0,zU 0,zU 0,zU 0,zU 0,zU 0,zU 0,zU 0,zU 0,zU 0,zU 0,zU 0,zU 0,zU 0,zU 0,zU 0,zU 0,zU 0,zU 0,zU 0,zU 0])] (.seq (zq [zm 9 0,zo 10 (.len true (.t 9)),zo 11 (.pf (.mm false) [.t 10,zi 32]),zo 12 (.mv (zi 0))] (.block 0 (.loop (zq [zb 13 .lss 12 11] (.seq (.cond (.t 13) .skip (.exit 0)) (.seq (.block 1 (zq [zm 14 12,zm 4 14] (.reg [zm 15 4,zm 16 0,zm 17 4,zo 18 (.idxS (.t 16) (.t 17)),zo 19 (.bin .sub (.t 18) (zu 48)),zo 20 (.idxArr 32 1 (.t 3) (.t 15)),zs 20 19]))) (.reg [zk 21 .add 12 1,zm 12 21]))))))) (zq [zo 5 (.mv (zi 0))] (.seq (zq [zo 22 (.mv (zi 0))] (.block 2 (.loop (zq [zk 23 .lss 22 32] (.seq (.cond (.t 23) .skip (.exit 2)) (.seq (.block 3 (zq [zo 6 (.mv (zu 0))] (.seq (zq [zo 7 (.mv (zi 31))] (.block 4 (.loop (zr [zm 24 7,zk 25 .geq 24 0] 25 .skip (.exit 4) (.seq (.block 5 (zq [zm 28 7,zo 29 (.idxArr 32 1 (.t 3) (.t 28)),zl 30 29,zo 31 (.bin .mul (.t 30) (zu 2)),zm 32 6,zb 33 .add 31 32,zm 8 33] (.reg [zm 34 7,zm 35 8,zo 36 (.bin .rem (.t 35) (zu 10)),zm 37 8,zo 38 (.bin .quo (.t 37) (zu 10)),zo 39 (.idxArr 32 1 (.t 3) (.t 34)),zs 39 36,zm 6 38]))) (.reg [zm 26 7,zk 27 .sub 26 1,zm 7 27])))))) (.reg [zm 40 5,zo 41 (.bin .shl (.t 40) (.c (.int .u64 (.ofNat 1)))),zm 42 6,zv 43 .i64 42,zb 44 .or 41 43,zm 5 44])))) (.reg [zk 45 .add 22 1,zm 22 45]))))))) (zq [zm 46 5,zm 2 46] .ret))))),[.t 2]⟩
theorem za152:cN Tryz.prog 152=some c152:=by kernel_rfl
def c106:AFn:=⟨21,zq [zo 2 (.mv (.c (.bool false)))] (zq [zm 3 0,zo 4 (.bin .leq (zu 97) (.t 3)),zm 5 4,zg 6 (.mv (.t 0)) 5 true,zg 7 (.bin .leq (.t 6) (zu 122)) 5 true,zo 8 (.pick (.t 5) (.t 7) (.c (.bool false))),zm 9 8,zg 10 (.mv (.t 0)) 9 false,zg 11 (.bin .leq (zu 65) (.t 10)) 9 false,zg 12 (.mv (.t 11)) 9 false,zg 13 (.mv (.t 0)) 12 true,zg 14 (.bin .leq (.t 13) (zu 90)) 12 true,zg 15 (.pick (.t 12) (.t 14) (.c (.bool false))) 9 false,zo 16 (.pick (.t 9) (.c (.bool true)) (.t 15)),zm 17 16,zg 18 (.mv (.t 0)) 17 false,zg 19 (.bin .eql (.t 18) (zu 95)) 17 false,zo 20 (.pick (.t 17) (.c (.bool true)) (.t 19)),zm 2 20] .ret),[.t 2]⟩
theorem za106:cN Tryz.prog 106=some c106:=by kernel_rfl
def c108:AFn:=⟨9,zq [zo 2 (.mv (.c (.bool false)))] (zq [zm 3 0,zx 4 106 [.t 3],zm 5 4,zg 6 (.mv (.t 0)) 5 false,zg 7 (.call 103 [.t 6]) 5 false,zo 8 (.pick (.t 5) (.c (.bool true)) (.t 7)),zm 2 8] .ret),[.t 2]⟩
theorem za108:cN Tryz.prog 108=some c108:=by kernel_rfl
def c109:AFn:=⟨5,zq [zo 2 (.mv (.c (.str [])))] (zq [zm 3 0,zx 4 153 [.t 3],zm 2 4] .ret),[.t 2]⟩
theorem za109:cN Tryz.prog 109=some c109:=by kernel_rfl
def c110:AFn:=⟨11,zq [zo 2 (.mv (.c (.bool false)))] (.seq (zq [zm 3 0] (.block 0 (zr [zo 5 (.bin .eql (.t 3) (.c (.str [108,101,116]))),zm 4 5] 4 .skip (zq [zo 6 (.bin .eql (.t 3) (.c (.str [115,101,116]))),zm 4 6] (.cond (.t 4) .skip (zq [zo 7 (.bin .eql (.t 3) (.c (.str [105,102]))),zm 4 7] (.cond (.t 4) .skip (zq [zo 8 (.bin .eql (.t 3) (.c (.str [101,108,115,101]))),zm 4 8] (.cond (.t 4) .skip (zq [zo 9 (.bin .eql (.t 3) (.c (.str [119,104,105,108,101]))),zm 4 9] (.cond (.t 4) .skip (.reg [zo 10 (.bin .eql (.t 3) (.c (.str [114,101,116,117,114,110]))),zm 4 10]))))))))) (.cond (.t 4) (zq [zo 2 (.mv (.c (.bool true)))] .ret) .skip)))) (zq [zo 2 (.mv (.c (.bool false)))] .ret)),[.t 2]⟩
theorem za110:cN Tryz.prog 110=some c110:=by kernel_rfl
def c111:AFn:=⟨26,zq [zo 4 (.mv (.c (.str [])))] (zq [zm 8 0,zm 9 1,zo 10 (.slStr (.t 8) (some (.t 9)) none),zm 5 10] (.seq (zq [zo 11 (.build [.str [],.str [],.str [],.str [],.str [],.str []] [(0,1,.c (.str [38,38])),(1,1,.c (.str [124,124])),(2,1,.c (.str [61,61])),(3,1,.c (.str [33,61])),(4,1,.c (.str [60,61])),(5,1,.c (.str [62,61]))]),zo 12 (.mv (zi 0))] (.block 0 (.loop (zq [zk 13 .lss 12 6] (.seq (.cond (.t 13) .skip (.exit 0)) (.seq (.block 1 (zq [zo 14 (.idx 6 1 false (.t 11) (.t 12)),zm 7 14] (zq [zm 15 5,zm 16 7,zx 17 154 [.t 15,.t 16]] (.cond (.t 17) (zq [zm 18 7,zm 4 18] .ret) .skip)))) (.reg [zk 19 .add 12 1,zm 12 19]))))))) (zr [zm 20 5,zo 21 (.idxS (.t 20) (zi 0)),zx 22 155 [.c (.str [60,62,43,45,42,47,33,40,41,123,125,44,59,61]),.t 21],zk 23 .geq 22 0] 23 (zq [zm 24 5,zo 25 (.slStr (.t 24) none (some (zi 1))),zm 4 25] .ret) .skip (zq [zo 4 (.mv (.c (.str [])))] .ret)))),[.t 4]⟩
theorem za111:cN Tryz.prog 111=some c111:=by kernel_rfl
def c154:AFn:=⟨8,zq [zo 4 (.mv (.c (.bool false)))] (zq [zm 5 0,zm 6 1,zx 7 183 [.t 5,.t 6],zm 4 7] .ret),[.t 4]⟩
theorem za154:cN Tryz.prog 154=some c154:=by kernel_rfl
def c183:AFn:=⟨18,zq [zo 4 (.mv (.c (.bool false)))] (zq [zm 5 0,zo 6 (.len true (.t 5)),zm 7 1,zo 8 (.len true (.t 7)),zb 9 .geq 6 8,zm 10 9,zg 11 (.mv (.t 0)) 10 true,zg 12 (.mv (.t 1)) 10 true,zg 13 (.len true (.t 12)) 10 true,zg 14 (.slStr (.t 11) none (some (.t 13))) 10 true,zg 15 (.mv (.t 1)) 10 true,zg 16 (.bin .eql (.t 14) (.t 15)) 10 true,zo 17 (.pick (.t 10) (.t 16) (.c (.bool false))),zm 4 17] .ret),[.t 4]⟩
theorem za183:cN Tryz.prog 183=some c183:=by kernel_rfl
def c155:AFn:=⟨8,zq [zo 4 (.mv (zi 0))] (zq [zm 5 0,zm 6 1,zx 7 184 [.t 5,.t 6],zm 4 7] .ret),[.t 4]⟩
theorem za155:cN Tryz.prog 155=some c155:=by kernel_rfl
def c162:AFn:=⟨44,zq [zo 2 (.mv (.c (.str [])))] (zq [zm 6 0,zv 7 .u64 6,zm 3 7] (zq [zo 8 (.mkSlice 1 [zU 0] (zi 0) (zi 48)),zm 4 8] (zr [zm 9 0,zk 10 .lss 9 0] 10 (zq [zm 11 3,zo 12 (.un .neg (.t 11)),zm 3 12] (.reg [zm 13 4,zo 14 (.buildSl 1 [zU 0] [(0,1,zu 45)]),zy 15 13 14,zm 4 15])) .skip (zq [zm 16 4,zm 17 3,zo 18 (.bin .shr (.t 17) (.c (.int .u64 (.ofNat 32)))),zx 19 186 [.t 16,.t 18,zi 10],zm 4 19] (zq [zm 20 3,zo 21 (.bin .and (.t 20) (.c (.int .u64 (.ofNat 4294967295)))),zm 5 21] (zr [zm 22 5,zo 23 (.bin .eql (.t 22) (.c (.int .u64 (.ofNat 0))))] 23 (zq [zm 24 4,zo 25 (.convBS (.t 24)),zm 2 25] .ret) .skip (zq [zm 26 4,zo 27 (.buildSl 1 [zU 0] [(0,1,zu 46)]),zy 28 26 27,zm 4 28] (.seq (.block 0 (.loop (zr [zm 29 5,zo 30 (.bin .neq (.t 29) (.c (.int .u64 (.ofNat 0))))] 30 .skip (.exit 0) (.block 1 (zq [zm 31 5,zo 32 (.bin .mul (.t 31) (.c (.int .u64 (.ofNat 10)))),zm 5 32] (zq [zm 33 4,zm 34 5,zo 35 (.bin .shr (.t 34) (.c (.int .u64 (.ofNat 32)))),zv 36 .u8 35,zo 37 (.bin .add (zu 48) (.t 36)),zo 38 (.buildSl 1 [zU 0] [(0,1,.t 37)]),zy 39 33 38,zm 4 39] (.reg [zm 40 5,zo 41 (.bin .and (.t 40) (.c (.int .u64 (.ofNat 4294967295)))),zm 5 41]))))))) (zq [zm 42 4,zo 43 (.convBS (.t 42)),zm 2 43] .ret))))))))),[.t 2]⟩
theorem za162:cN Tryz.prog 162=some c162:=by kernel_rfl
def c186:AFn:=⟨11,zq [zo 6 (.mv zn)] (zq [zm 7 0,zm 8 1,zm 9 2,zx 10 145 [.t 7,.t 8,.t 9],zm 6 10] .ret),[.t 6]⟩
theorem za186:cN Tryz.prog 186=some c186:=by kernel_rfl
def c145:AFn:=⟨36,zq [zo 6 (.mv zn)] (zr [zm 9 2,zk 10 .eql 9 10] 10 (zr [zm 11 1,zo 12 (.bin .lss (.t 11) (.c (.int .u64 (.ofNat 100))))] 12 (zq [zm 13 0,zm 14 1,zv 15 .i64 14,zx 16 177 [.t 15],zy 17 13 16,zm 6 17] .ret) .skip (zq [zo 7 (.new [zU 0,zU 0,zU 0,zU 0,zU 0,zU 0,zU 0,zU 0,zU 0,zU 0,zU 0,zU 0,zU 0,zU 0,zU 0,zU 0,zU 0,zU 0,zU 0,zU 0,zU 0,zU 0,zU 0,zU 0])] (zq [zm 18 1,zx 19 178 [.t 18],zm 8 19] (zq [zm 20 8,zo 21 (.slA 24 1 (.t 7) none (some (.t 20)) none),zm 22 1,zx 23 179 [.t 21,.t 22]] (zq [zm 24 0,zm 25 8,zo 26 (.slA 24 1 (.t 7) none (some (.t 25)) none),zy 27 24 26,zm 6 27] .ret))))) .skip (zq [zm 29 0,zm 30 1,zm 31 2,zx 32 180 [.t 29,.t 30,.t 31,.c (.bool false),.c (.bool true)],zm 28 32,ze 33 0 28,ze 34 1 28,zm 0 33] (zq [zm 35 0,zm 6 35] .ret))),[.t 6]⟩
theorem za145:cN Tryz.prog 145=some c145:=by kernel_rfl
def c177:AFn:=⟨15,zq [zo 2 (.mv (.c (.str [])))] (zr [zm 3 0,zk 4 .lss 3 10] 4 (zq [zm 5 0,zm 6 0,zk 7 .add 6 1,zo 8 (.slStr (.c (.str [48,49,50,51,52,53,54,55,56,57,97,98,99,100,101,102,103,104,105,106,107,108,109,110,111,112,113,114,115,116,117,118,119,120,121,122])) (some (.t 5)) (some (.t 7))),zm 2 8] .ret) .skip (zq [zm 9 0,zk 10 .mul 9 2,zm 11 0,zk 12 .mul 11 2,zk 13 .add 12 2,zo 14 (.slStr (.c (.str [48,48,48,49,48,50,48,51,48,52,48,53,48,54,48,55,48,56,48,57,49,48,49,49,49,50,49,51,49,52,49,53,49,54,49,55,49,56,49,57,50,48,50,49,50,50,50,51,50,52,50,53,50,54,50,55,50,56,50,57,51,48,51,49,51,50,51,51,51,52,51,53,51,54,51,55,51,56,51,57,52,48,52,49,52,50,52,51,52,52,52,53,52,54,52,55,52,56,52,57,53,48,53,49,53,50,53,51,53,52,53,53,53,54,53,55,53,56,53,57,54,48,54,49,54,50,54,51,54,52,54,53,54,54,54,55,54,56,54,57,55,48,55,49,55,50,55,51,55,52,55,53,55,54,55,55,55,56,55,57,56,48,56,49,56,50,56,51,56,52,56,53,56,54,56,55,56,56,56,57,57,48,57,49,57,50,57,51,57,52,57,53,57,54,57,55,57,56,57,57])) (some (.t 10)) (some (.t 13))),zm 2 14] .ret)),[.t 2]⟩
theorem za177:cN Tryz.prog 177=some c177:=by kernel_rfl
def c178:AFn:=⟨15,zq [zo 2 (.mv (zi 0))] (zq [zm 4 0,zx 5 196 [.t 4],zx 6 195 [.t 5],zm 3 6] (zq [zm 7 3,zm 8 0,zm 9 3,zo 10 (.hf (.gIdx 1 20 1) [.t 9]),zl 11 10,zb 12 .geq 8 11,zx 13 197 [.t 12],zb 14 .add 7 13,zm 2 14] .ret)),[.t 2]⟩
theorem za178:cN Tryz.prog 178=some c178:=by kernel_rfl
def c196:AFn:=⟨25,zq [zo 2 (.mv (zi 0))] (zr [zm 3 0,zo 4 (.bin .geq (.t 3) (.c (.int .u64 (.ofNat 4294967296))))] 4 (zq [zm 5 0,zo 6 (.bin .shr (.t 5) (.c (.int .u64 (.ofNat 32)))),zm 0 6] (.reg [zo 2 (.mv (zi 32))])) .skip (zr [zm 7 0,zo 8 (.bin .geq (.t 7) (.c (.int .u64 (.ofNat 65536))))] 8 (zq [zm 9 0,zo 10 (.bin .shr (.t 9) (.c (.int .u64 (.ofNat 16)))),zm 0 10] (.reg [zm 11 2,zk 12 .add 11 16,zm 2 12])) .skip (zr [zm 13 0,zo 14 (.bin .geq (.t 13) (.c (.int .u64 (.ofNat 256))))] 14 (zq [zm 15 0,zo 16 (.bin .shr (.t 15) (.c (.int .u64 (.ofNat 8)))),zm 0 16] (.reg [zm 17 2,zk 18 .add 17 8,zm 2 18])) .skip (zq [zm 19 2,zm 20 0,zv 21 .u8 20,zo 22 (.idxS (.c (.str [0,1,2,2,3,3,3,3,4,4,4,4,4,4,4,4,5,5,5,5,5,5,5,5,5,5,5,5,5,5,5,5,6,6,6,6,6,6,6,6,6,6,6,6,6,6,6,6,6,6,6,6,6,6,6,6,6,6,6,6,6,6,6,6,7,7,7,7,7,7,7,7,7,7,7,7,7,7,7,7,7,7,7,7,7,7,7,7,7,7,7,7,7,7,7,7,7,7,7,7,7,7,7,7,7,7,7,7,7,7,7,7,7,7,7,7,7,7,7,7,7,7,7,7,7,7,7,7,8,8,8,8,8,8,8,8,8,8,8,8,8,8,8,8,8,8,8,8,8,8,8,8,8,8,8,8,8,8,8,8,8,8,8,8,8,8,8,8,8,8,8,8,8,8,8,8,8,8,8,8,8,8,8,8,8,8,8,8,8,8,8,8,8,8,8,8,8,8,8,8,8,8,8,8,8,8,8,8,8,8,8,8,8,8,8,8,8,8,8,8,8,8,8,8,8,8,8,8,8,8,8,8,8,8,8,8,8,8,8,8,8,8,8,8,8,8,8,8,8,8,8,8,8,8,8,8])) (.t 21)),zv 23 .i64 22,zb 24 .add 19 23,zm 2 24] .ret)))),[.t 2]⟩
theorem za196:cN Tryz.prog 196=some c196:=by kernel_rfl
def c195:AFn:=⟨6,zq [zo 2 (.mv (zi 0))] (zq [zm 3 0,zk 4 .mul 3 78913,zo 5 (.bin .shr (.t 4) (.c (.int .u64 (.ofNat 18)))),zm 2 5] .ret),[.t 2]⟩
theorem za195:cN Tryz.prog 195=some c195:=by kernel_rfl
def c197:AFn:=⟨4,zq [zo 2 (.mv (zi 0))] (zr [zm 3 0] 3 (zq [zo 2 (.mv (zi 1))] .ret) .skip (zq [zo 2 (.mv (zi 0))] .ret)),[.t 2]⟩
theorem za197:cN Tryz.prog 197=some c197:=by kernel_rfl
def c179:AFn:=⟨167,zq [zm 17 0,zh 18 17,zm 4 18] (.seq (.block 0 (.loop (zr [zm 19 4,zk 20 .geq 19 8] 20 .skip (.exit 0) (.block 1 (zq [zm 21 1,zo 22 (.bin .rem (.t 21) (.c (.int .u64 (.ofNat 100000000)))),zv 23 .u32 22,zm 5 23] (zq [zm 24 1,zo 25 (.bin .quo (.t 24) (.c (.int .u64 (.ofNat 100000000)))),zm 1 25] (zq [zm 26 5,zo 27 (.bin .quo (.t 26) (.c (.int .u32 (.ofNat 10000)))),zm 28 5,zo 29 (.bin .rem (.t 28) (.c (.int .u32 (.ofNat 10000)))),zm 6 27,zm 7 29] (zq [zm 30 7,zo 31 (.bin .quo (.t 30) (.c (.int .u32 (.ofNat 100)))),zo 32 (.bin .mul (.t 31) (.c (.int .u32 (.ofNat 2)))),zm 33 7,zo 34 (.bin .rem (.t 33) (.c (.int .u32 (.ofNat 100)))),zo 35 (.bin .mul (.t 34) (.c (.int .u32 (.ofNat 2)))),zm 8 32,zm 9 35] (zq [zm 36 6,zo 37 (.bin .quo (.t 36) (.c (.int .u32 (.ofNat 100)))),zo 38 (.bin .mul (.t 37) (.c (.int .u32 (.ofNat 2)))),zm 39 6,zo 40 (.bin .rem (.t 39) (.c (.int .u32 (.ofNat 100)))),zo 41 (.bin .mul (.t 40) (.c (.int .u32 (.ofNat 2)))),zm 10 38,zm 11 41] (zq [zm 42 0,zm 43 4,zk 44 .sub 43 1,zm 45 0,zm 46 4,zk 47 .sub 46 2,zm 48 9,zo 49 (.bin .add (.t 48) (.c (.int .u32 (.ofNat 1)))),zo 50 (.idxS (.c (.str [48,48,48,49,48,50,48,51,48,52,48,53,48,54,48,55,48,56,48,57,49,48,49,49,49,50,49,51,49,52,49,53,49,54,49,55,49,56,49,57,50,48,50,49,50,50,50,51,50,52,50,53,50,54,50,55,50,56,50,57,51,48,51,49,51,50,51,51,51,52,51,53,51,54,51,55,51,56,51,57,52,48,52,49,52,50,52,51,52,52,52,53,52,54,52,55,52,56,52,57,53,48,53,49,53,50,53,51,53,52,53,53,53,54,53,55,53,56,53,57,54,48,54,49,54,50,54,51,54,52,54,53,54,54,54,55,54,56,54,57,55,48,55,49,55,50,55,51,55,52,55,53,55,54,55,55,55,56,55,57,56,48,56,49,56,50,56,51,56,52,56,53,56,54,56,55,56,56,56,57,57,48,57,49,57,50,57,51,57,52,57,53,57,54,57,55,57,56,57,57])) (.t 49)),zm 51 9,zo 52 (.idxS (.c (.str [48,48,48,49,48,50,48,51,48,52,48,53,48,54,48,55,48,56,48,57,49,48,49,49,49,50,49,51,49,52,49,53,49,54,49,55,49,56,49,57,50,48,50,49,50,50,50,51,50,52,50,53,50,54,50,55,50,56,50,57,51,48,51,49,51,50,51,51,51,52,51,53,51,54,51,55,51,56,51,57,52,48,52,49,52,50,52,51,52,52,52,53,52,54,52,55,52,56,52,57,53,48,53,49,53,50,53,51,53,52,53,53,53,54,53,55,53,56,53,57,54,48,54,49,54,50,54,51,54,52,54,53,54,54,54,55,54,56,54,57,55,48,55,49,55,50,55,51,55,52,55,53,55,54,55,55,55,56,55,57,56,48,56,49,56,50,56,51,56,52,56,53,56,54,56,55,56,56,56,57,57,48,57,49,57,50,57,51,57,52,57,53,57,54,57,55,57,56,57,57])) (.t 51)),zd 53 42 44,zs 53 50,zd 54 45 47,zs 54 52] (zq [zm 55 0,zm 56 4,zk 57 .sub 56 3,zm 58 0,zm 59 4,zk 60 .sub 59 4,zm 61 8,zo 62 (.bin .add (.t 61) (.c (.int .u32 (.ofNat 1)))),zo 63 (.idxS (.c (.str [48,48,48,49,48,50,48,51,48,52,48,53,48,54,48,55,48,56,48,57,49,48,49,49,49,50,49,51,49,52,49,53,49,54,49,55,49,56,49,57,50,48,50,49,50,50,50,51,50,52,50,53,50,54,50,55,50,56,50,57,51,48,51,49,51,50,51,51,51,52,51,53,51,54,51,55,51,56,51,57,52,48,52,49,52,50,52,51,52,52,52,53,52,54,52,55,52,56,52,57,53,48,53,49,53,50,53,51,53,52,53,53,53,54,53,55,53,56,53,57,54,48,54,49,54,50,54,51,54,52,54,53,54,54,54,55,54,56,54,57,55,48,55,49,55,50,55,51,55,52,55,53,55,54,55,55,55,56,55,57,56,48,56,49,56,50,56,51,56,52,56,53,56,54,56,55,56,56,56,57,57,48,57,49,57,50,57,51,57,52,57,53,57,54,57,55,57,56,57,57])) (.t 62)),zm 64 8,zo 65 (.idxS (.c (.str [48,48,48,49,48,50,48,51,48,52,48,53,48,54,48,55,48,56,48,57,49,48,49,49,49,50,49,51,49,52,49,53,49,54,49,55,49,56,49,57,50,48,50,49,50,50,50,51,50,52,50,53,50,54,50,55,50,56,50,57,51,48,51,49,51,50,51,51,51,52,51,53,51,54,51,55,51,56,51,57,52,48,52,49,52,50,52,51,52,52,52,53,52,54,52,55,52,56,52,57,53,48,53,49,53,50,53,51,53,52,53,53,53,54,53,55,53,56,53,57,54,48,54,49,54,50,54,51,54,52,54,53,54,54,54,55,54,56,54,57,55,48,55,49,55,50,55,51,55,52,55,53,55,54,55,55,55,56,55,57,56,48,56,49,56,50,56,51,56,52,56,53,56,54,56,55,56,56,56,57,57,48,57,49,57,50,57,51,57,52,57,53,57,54,57,55,57,56,57,57])) (.t 64)),zd 66 55 57,zs 66 63,zd 67 58 60,zs 67 65] (zq [zm 68 0,zm 69 4,zk 70 .sub 69 5,zm 71 0,zm 72 4,zk 73 .sub 72 6,zm 74 11,zo 75 (.bin .add (.t 74) (.c (.int .u32 (.ofNat 1)))),zo 76 (.idxS (.c (.str [48,48,48,49,48,50,48,51,48,52,48,53,48,54,48,55,48,56,48,57,49,48,49,49,49,50,49,51,49,52,49,53,49,54,49,55,49,56,49,57,50,48,50,49,50,50,50,51,50,52,50,53,50,54,50,55,50,56,50,57,51,48,51,49,51,50,51,51,51,52,51,53,51,54,51,55,51,56,51,57,52,48,52,49,52,50,52,51,52,52,52,53,52,54,52,55,52,56,52,57,53,48,53,49,53,50,53,51,53,52,53,53,53,54,53,55,53,56,53,57,54,48,54,49,54,50,54,51,54,52,54,53,54,54,54,55,54,56,54,57,55,48,55,49,55,50,55,51,55,52,55,53,55,54,55,55,55,56,55,57,56,48,56,49,56,50,56,51,56,52,56,53,56,54,56,55,56,56,56,57,57,48,57,49,57,50,57,51,57,52,57,53,57,54,57,55,57,56,57,57])) (.t 75)),zm 77 11,zo 78 (.idxS (.c (.str [48,48,48,49,48,50,48,51,48,52,48,53,48,54,48,55,48,56,48,57,49,48,49,49,49,50,49,51,49,52,49,53,49,54,49,55,49,56,49,57,50,48,50,49,50,50,50,51,50,52,50,53,50,54,50,55,50,56,50,57,51,48,51,49,51,50,51,51,51,52,51,53,51,54,51,55,51,56,51,57,52,48,52,49,52,50,52,51,52,52,52,53,52,54,52,55,52,56,52,57,53,48,53,49,53,50,53,51,53,52,53,53,53,54,53,55,53,56,53,57,54,48,54,49,54,50,54,51,54,52,54,53,54,54,54,55,54,56,54,57,55,48,55,49,55,50,55,51,55,52,55,53,55,54,55,55,55,56,55,57,56,48,56,49,56,50,56,51,56,52,56,53,56,54,56,55,56,56,56,57,57,48,57,49,57,50,57,51,57,52,57,53,57,54,57,55,57,56,57,57])) (.t 77)),zd 79 68 70,zs 79 76,zd 80 71 73,zs 80 78] (zq [zm 81 0,zm 82 4,zk 83 .sub 82 7,zm 84 0,zm 85 4,zk 86 .sub 85 8,zm 87 10,zo 88 (.bin .add (.t 87) (.c (.int .u32 (.ofNat 1)))),zo 89 (.idxS (.c (.str [48,48,48,49,48,50,48,51,48,52,48,53,48,54,48,55,48,56,48,57,49,48,49,49,49,50,49,51,49,52,49,53,49,54,49,55,49,56,49,57,50,48,50,49,50,50,50,51,50,52,50,53,50,54,50,55,50,56,50,57,51,48,51,49,51,50,51,51,51,52,51,53,51,54,51,55,51,56,51,57,52,48,52,49,52,50,52,51,52,52,52,53,52,54,52,55,52,56,52,57,53,48,53,49,53,50,53,51,53,52,53,53,53,54,53,55,53,56,53,57,54,48,54,49,54,50,54,51,54,52,54,53,54,54,54,55,54,56,54,57,55,48,55,49,55,50,55,51,55,52,55,53,55,54,55,55,55,56,55,57,56,48,56,49,56,50,56,51,56,52,56,53,56,54,56,55,56,56,56,57,57,48,57,49,57,50,57,51,57,52,57,53,57,54,57,55,57,56,57,57])) (.t 88)),zm 90 10,zo 91 (.idxS (.c (.str [48,48,48,49,48,50,48,51,48,52,48,53,48,54,48,55,48,56,48,57,49,48,49,49,49,50,49,51,49,52,49,53,49,54,49,55,49,56,49,57,50,48,50,49,50,50,50,51,50,52,50,53,50,54,50,55,50,56,50,57,51,48,51,49,51,50,51,51,51,52,51,53,51,54,51,55,51,56,51,57,52,48,52,49,52,50,52,51,52,52,52,53,52,54,52,55,52,56,52,57,53,48,53,49,53,50,53,51,53,52,53,53,53,54,53,55,53,56,53,57,54,48,54,49,54,50,54,51,54,52,54,53,54,54,54,55,54,56,54,57,55,48,55,49,55,50,55,51,55,52,55,53,55,54,55,55,55,56,55,57,56,48,56,49,56,50,56,51,56,52,56,53,56,54,56,55,56,56,56,57,57,48,57,49,57,50,57,51,57,52,57,53,57,54,57,55,57,56,57,57])) (.t 90)),zd 92 81 83,zs 92 89,zd 93 84 86,zs 93 91] (.reg [zm 94 4,zk 95 .sub 94 8,zm 4 95])))))))))))))) (zq [zm 96 1,zv 97 .u32 96,zm 12 97] (zr [zm 98 4,zk 99 .geq 98 4] 99 (zq [zm 100 12,zo 101 (.bin .rem (.t 100) (.c (.int .u32 (.ofNat 10000)))),zm 13 101] (zq [zm 102 12,zo 103 (.bin .quo (.t 102) (.c (.int .u32 (.ofNat 10000)))),zm 12 103] (zq [zm 104 13,zo 105 (.bin .quo (.t 104) (.c (.int .u32 (.ofNat 100)))),zo 106 (.bin .mul (.t 105) (.c (.int .u32 (.ofNat 2)))),zm 107 13,zo 108 (.bin .rem (.t 107) (.c (.int .u32 (.ofNat 100)))),zo 109 (.bin .mul (.t 108) (.c (.int .u32 (.ofNat 2)))),zm 14 106,zm 15 109] (zq [zm 110 0,zm 111 4,zk 112 .sub 111 1,zm 113 0,zm 114 4,zk 115 .sub 114 2,zm 116 15,zo 117 (.bin .add (.t 116) (.c (.int .u32 (.ofNat 1)))),zo 118 (.idxS (.c (.str [48,48,48,49,48,50,48,51,48,52,48,53,48,54,48,55,48,56,48,57,49,48,49,49,49,50,49,51,49,52,49,53,49,54,49,55,49,56,49,57,50,48,50,49,50,50,50,51,50,52,50,53,50,54,50,55,50,56,50,57,51,48,51,49,51,50,51,51,51,52,51,53,51,54,51,55,51,56,51,57,52,48,52,49,52,50,52,51,52,52,52,53,52,54,52,55,52,56,52,57,53,48,53,49,53,50,53,51,53,52,53,53,53,54,53,55,53,56,53,57,54,48,54,49,54,50,54,51,54,52,54,53,54,54,54,55,54,56,54,57,55,48,55,49,55,50,55,51,55,52,55,53,55,54,55,55,55,56,55,57,56,48,56,49,56,50,56,51,56,52,56,53,56,54,56,55,56,56,56,57,57,48,57,49,57,50,57,51,57,52,57,53,57,54,57,55,57,56,57,57])) (.t 117)),zm 119 15,zo 120 (.idxS (.c (.str [48,48,48,49,48,50,48,51,48,52,48,53,48,54,48,55,48,56,48,57,49,48,49,49,49,50,49,51,49,52,49,53,49,54,49,55,49,56,49,57,50,48,50,49,50,50,50,51,50,52,50,53,50,54,50,55,50,56,50,57,51,48,51,49,51,50,51,51,51,52,51,53,51,54,51,55,51,56,51,57,52,48,52,49,52,50,52,51,52,52,52,53,52,54,52,55,52,56,52,57,53,48,53,49,53,50,53,51,53,52,53,53,53,54,53,55,53,56,53,57,54,48,54,49,54,50,54,51,54,52,54,53,54,54,54,55,54,56,54,57,55,48,55,49,55,50,55,51,55,52,55,53,55,54,55,55,55,56,55,57,56,48,56,49,56,50,56,51,56,52,56,53,56,54,56,55,56,56,56,57,57,48,57,49,57,50,57,51,57,52,57,53,57,54,57,55,57,56,57,57])) (.t 119)),zd 121 110 112,zs 121 118,zd 122 113 115,zs 122 120] (zq [zm 123 0,zm 124 4,zk 125 .sub 124 3,zm 126 0,zm 127 4,zk 128 .sub 127 4,zm 129 14,zo 130 (.bin .add (.t 129) (.c (.int .u32 (.ofNat 1)))),zo 131 (.idxS (.c (.str [48,48,48,49,48,50,48,51,48,52,48,53,48,54,48,55,48,56,48,57,49,48,49,49,49,50,49,51,49,52,49,53,49,54,49,55,49,56,49,57,50,48,50,49,50,50,50,51,50,52,50,53,50,54,50,55,50,56,50,57,51,48,51,49,51,50,51,51,51,52,51,53,51,54,51,55,51,56,51,57,52,48,52,49,52,50,52,51,52,52,52,53,52,54,52,55,52,56,52,57,53,48,53,49,53,50,53,51,53,52,53,53,53,54,53,55,53,56,53,57,54,48,54,49,54,50,54,51,54,52,54,53,54,54,54,55,54,56,54,57,55,48,55,49,55,50,55,51,55,52,55,53,55,54,55,55,55,56,55,57,56,48,56,49,56,50,56,51,56,52,56,53,56,54,56,55,56,56,56,57,57,48,57,49,57,50,57,51,57,52,57,53,57,54,57,55,57,56,57,57])) (.t 130)),zm 132 14,zo 133 (.idxS (.c (.str [48,48,48,49,48,50,48,51,48,52,48,53,48,54,48,55,48,56,48,57,49,48,49,49,49,50,49,51,49,52,49,53,49,54,49,55,49,56,49,57,50,48,50,49,50,50,50,51,50,52,50,53,50,54,50,55,50,56,50,57,51,48,51,49,51,50,51,51,51,52,51,53,51,54,51,55,51,56,51,57,52,48,52,49,52,50,52,51,52,52,52,53,52,54,52,55,52,56,52,57,53,48,53,49,53,50,53,51,53,52,53,53,53,54,53,55,53,56,53,57,54,48,54,49,54,50,54,51,54,52,54,53,54,54,54,55,54,56,54,57,55,48,55,49,55,50,55,51,55,52,55,53,55,54,55,55,55,56,55,57,56,48,56,49,56,50,56,51,56,52,56,53,56,54,56,55,56,56,56,57,57,48,57,49,57,50,57,51,57,52,57,53,57,54,57,55,57,56,57,57])) (.t 132)),zd 134 123 125,zs 134 131,zd 135 126 128,zs 135 133] (.reg [zm 136 4,zk 137 .sub 136 4,zm 4 137])))))) .skip (zr [zm 138 4,zk 139 .geq 138 2] 139 (zq [zm 140 12,zo 141 (.bin .rem (.t 140) (.c (.int .u32 (.ofNat 100)))),zo 142 (.bin .mul (.t 141) (.c (.int .u32 (.ofNat 2)))),zm 16 142] (zq [zm 143 12,zo 144 (.bin .quo (.t 143) (.c (.int .u32 (.ofNat 100)))),zm 12 144] (zq [zm 145 0,zm 146 4,zk 147 .sub 146 1,zm 148 0,zm 149 4,zk 150 .sub 149 2,zm 151 16,zo 152 (.bin .add (.t 151) (.c (.int .u32 (.ofNat 1)))),zo 153 (.idxS (.c (.str [48,48,48,49,48,50,48,51,48,52,48,53,48,54,48,55,48,56,48,57,49,48,49,49,49,50,49,51,49,52,49,53,49,54,49,55,49,56,49,57,50,48,50,49,50,50,50,51,50,52,50,53,50,54,50,55,50,56,50,57,51,48,51,49,51,50,51,51,51,52,51,53,51,54,51,55,51,56,51,57,52,48,52,49,52,50,52,51,52,52,52,53,52,54,52,55,52,56,52,57,53,48,53,49,53,50,53,51,53,52,53,53,53,54,53,55,53,56,53,57,54,48,54,49,54,50,54,51,54,52,54,53,54,54,54,55,54,56,54,57,55,48,55,49,55,50,55,51,55,52,55,53,55,54,55,55,55,56,55,57,56,48,56,49,56,50,56,51,56,52,56,53,56,54,56,55,56,56,56,57,57,48,57,49,57,50,57,51,57,52,57,53,57,54,57,55,57,56,57,57])) (.t 152)),zm 154 16,zo 155 (.idxS (.c (.str [48,48,48,49,48,50,48,51,48,52,48,53,48,54,48,55,48,56,48,57,49,48,49,49,49,50,49,51,49,52,49,53,49,54,49,55,49,56,49,57,50,48,50,49,50,50,50,51,50,52,50,53,50,54,50,55,50,56,50,57,51,48,51,49,51,50,51,51,51,52,51,53,51,54,51,55,51,56,51,57,52,48,52,49,52,50,52,51,52,52,52,53,52,54,52,55,52,56,52,57,53,48,53,49,53,50,53,51,53,52,53,53,53,54,53,55,53,56,53,57,54,48,54,49,54,50,54,51,54,52,54,53,54,54,54,55,54,56,54,57,55,48,55,49,55,50,55,51,55,52,55,53,55,54,55,55,55,56,55,57,56,48,56,49,56,50,56,51,56,52,56,53,56,54,56,55,56,56,56,57,57,48,57,49,57,50,57,51,57,52,57,53,57,54,57,55,57,56,57,57])) (.t 154)),zd 156 145 147,zs 156 153,zd 157 148 150,zs 157 155] (.reg [zm 158 4,zk 159 .sub 158 2,zm 4 159])))) .skip (zq [zm 160 4,zk 161 .gtr 160 0] (.cond (.t 161) (.reg [zm 162 0,zm 163 12,zo 164 (.bin .add (.c (.int .u32 (.ofNat 48))) (.t 163)),zv 165 .u8 164,zo 166 (.idxA 1 (.t 162) (zi 0)),zs 166 165]) .skip)))))),[]⟩
theorem za179:cN Tryz.prog 179=some c179:=by kernel_rfl
def c71:AFn:=⟨53,zq [zo 4 (.new [zU 0,.str [],zI 0,zI 0,zI 0,zI 0]),zo 5 (.new [zI 0,zI 0])] (zr [zm 7 0,zo 8 (.len true (.t 7)),zk 9 .gtr 8 16384] 9 (zq [zo 10 (.build [zU 0,.str [],zI 0,zI 0,zI 0,zI 0] []),zo 11 (.build [zI 0,zI 0] [(0,1,zi 3)]),zp (.store 6 (.t 4) (.t 10)),zp (.store 2 (.t 5) (.t 11))] .ret) .skip (zr [zm 12 1,zk 13 .lss 12 0,zm 14 13,zg 15 (.mv (.t 1)) 14 false,zg 16 (.mv (.t 0)) 14 false,zg 17 (.len true (.t 16)) 14 false,zg 18 (.bin .gtr (.t 15) (.t 17)) 14 false,zo 19 (.pick (.t 14) (.c (.bool true)) (.t 18))] 19 (zq [zo 20 (.build [zU 0,.str [],zI 0,zI 0,zI 0,zI 0] []),zo 21 (.build [zI 0,zI 0] [(0,1,zi 2)]),zp (.store 6 (.t 4) (.t 20)),zp (.store 2 (.t 5) (.t 21))] .ret) .skip (zq [zm 22 0,zm 23 1,zx 24 112 [.t 22,.t 23],zm 1 24] (zr [zm 25 1,zm 26 0,zo 27 (.len true (.t 26)),zb 28 .eql 25 27] 28 (zq [zm 29 0,zm 30 1,zx 31 113 [.t 29,.t 30],zm 32 1,zm 33 1,zo 34 (.build [zU 0,.str [],zI 0,zI 0,zI 0,zI 0] [(0,1,zu 5),(3,1,.t 31),(4,1,.t 32),(5,1,.t 33)]),zo 35 (.build [zI 0,zI 0] []),zp (.store 6 (.t 4) (.t 34)),zp (.store 2 (.t 5) (.t 35))] .ret) .skip (zq [zm 36 0,zm 37 1,zx 38 114 [.t 36,.t 37],zo 6 (.new [zU 0,.str [],zI 0,zI 0,zI 0,zI 0]),zp (.store 6 (.t 6) (.t 38))] (zr [zf 39 0 6,zl 40 39,zo 41 (.bin .eql (.t 40) (zu 0))] 41 (zq [zo 42 (.build [zU 0,.str [],zI 0,zI 0,zI 0,zI 0] []),zm 43 0,zm 44 1,zx 45 113 [.t 43,.t 44],zo 46 (.build [zI 0,zI 0] [(0,1,zi 100),(1,1,.t 45)]),zp (.store 6 (.t 4) (.t 42)),zp (.store 2 (.t 5) (.t 46))] .ret) .skip (zq [zm 47 0,zm 48 1,zx 49 113 [.t 47,.t 48],zf 50 3 6,zs 50 49] (zq [zt 51 6 6,zo 52 (.build [zI 0,zI 0] []),zp (.store 6 (.t 4) (.t 51)),zp (.store 2 (.t 5) (.t 52))] .ret)))))))),[.cell true 6 4,.cell true 2 5]⟩
theorem za71:cN Tryz.prog 71=some c71:=by kernel_rfl
def c112:AFn:=⟨45,zq [zo 4 (.mv (zi 0))] (.seq (.block 0 (.loop (zr [zm 6 1,zm 7 0,zo 8 (.len true (.t 7)),zb 9 .lss 6 8] 9 .skip (.exit 0) (.block 1 (zq [zm 10 0,zm 11 1,zo 12 (.idxS (.t 10) (.t 11)),zm 5 12] (zq [zm 13 5,zo 14 (.bin .eql (.t 13) (zu 35))] (.cond (.t 14) (.block 2 (.loop (zr [zm 15 1,zm 16 0,zo 17 (.len true (.t 16)),zb 18 .lss 15 17,zm 19 18,zg 20 (.mv (.t 0)) 19 true,zg 21 (.mv (.t 1)) 19 true,zg 22 (.idxS (.t 20) (.t 21)) 19 true,zg 23 (.bin .neq (.t 22) (zu 10)) 19 true,zo 24 (.pick (.t 19) (.t 23) (.c (.bool false)))] 24 .skip (.exit 2) (.block 3 (.reg [zm 25 1,zk 26 .add 25 1,zm 1 26]))))) (zq [zm 27 5,zo 28 (.bin .eql (.t 27) (zu 9)),zm 29 28,zg 30 (.mv (.t 5)) 29 false,zg 31 (.bin .eql (.t 30) (zu 10)) 29 false,zo 32 (.pick (.t 29) (.c (.bool true)) (.t 31)),zm 33 32,zg 34 (.mv (.t 5)) 33 false,zg 35 (.bin .eql (.t 34) (zu 13)) 33 false,zo 36 (.pick (.t 33) (.c (.bool true)) (.t 35)),zm 37 36,zg 38 (.mv (.t 5)) 37 false,zg 39 (.bin .eql (.t 38) (zu 32)) 37 false,zo 40 (.pick (.t 37) (.c (.bool true)) (.t 39))] (.cond (.t 40) (.reg [zm 41 1,zk 42 .add 41 1,zm 1 42]) (zq [zm 43 1,zm 4 43] .ret)))))))))) (zq [zm 44 1,zm 4 44] .ret)),[.t 4]⟩
theorem za112:cN Tryz.prog 112=some c112:=by kernel_rfl
def c113:AFn:=⟨19,zq [zo 4 (.mv (zi 0))] (zq [zo 5 (.mv (zi 1))] (.seq (zq [zo 6 (.mv (zi 0))] (.block 0 (.loop (zr [zm 7 6,zm 8 1,zb 9 .lss 7 8] 9 .skip (.exit 0) (.seq (.block 1 (zq [zm 12 0,zm 13 6,zo 14 (.idxS (.t 12) (.t 13)),zo 15 (.bin .eql (.t 14) (zu 10))] (.cond (.t 15) (.reg [zm 16 5,zk 17 .add 16 1,zm 5 17]) .skip))) (.reg [zm 10 6,zk 11 .add 10 1,zm 6 11])))))) (zq [zm 18 5,zm 4 18] .ret))),[.t 4]⟩
theorem za113:cN Tryz.prog 113=some c113:=by kernel_rfl
def c114:AFn:=⟨120,zq [zo 4 (.new [zU 0,.str [],zI 0,zI 0,zI 0,zI 0])] (.seq (zq [zm 12 0,zm 13 1,zx 14 156 [.t 12,.t 13],zm 5 14] (zq [zm 15 5,zk 16 .gtr 15 0] (.cond (.t 16) (zq [zm 18 0,zm 19 1,zm 20 1,zm 21 5,zb 22 .add 20 21,zo 23 (.slStr (.t 18) (some (.t 19)) (some (.t 22))),zx 24 157 [.t 23],zm 17 24,ze 25 0 17,ze 26 1 17,zm 6 25,zm 7 26] (zr [zm 27 7,zo 28 (.un .not (.t 27))] 28 (zq [zo 29 (.build [zU 0,.str [],zI 0,zI 0,zI 0,zI 0] []),zp (.store 6 (.t 4) (.t 29))] .ret) .skip (zq [zm 30 6,zm 31 1,zm 32 1,zm 33 5,zb 34 .add 32 33,zo 35 (.build [zU 0,.str [],zI 0,zI 0,zI 0,zI 0] [(0,1,zu 1),(2,1,.t 30),(4,1,.t 31),(5,1,.t 34)]),zp (.store 6 (.t 4) (.t 35))] .ret))) .skip))) (zr [zm 36 0,zm 37 1,zo 38 (.idxS (.t 36) (.t 37)),zx 39 158 [.t 38]] 39 (zq [zm 40 1,zm 8 40] (.seq (.block 0 (.loop (zr [zm 41 8,zm 42 0,zo 43 (.len true (.t 42)),zb 44 .lss 41 43,zm 45 44,zg 46 (.mv (.t 0)) 45 true,zg 47 (.mv (.t 8)) 45 true,zg 48 (.idxS (.t 46) (.t 47)) 45 true,zg 49 (.call 158 [.t 48]) 45 true,zg 50 (.mv (.t 49)) 45 true,zg 51 (.mv (.t 0)) 50 false,zg 52 (.mv (.t 8)) 50 false,zg 53 (.idxS (.t 51) (.t 52)) 50 false,zg 54 (.call 159 [.t 53]) 50 false,zg 55 (.pick (.t 50) (.c (.bool true)) (.t 54)) 45 true,zo 56 (.pick (.t 45) (.t 55) (.c (.bool false)))] 56 .skip (.exit 0) (.block 1 (.reg [zm 57 8,zk 58 .add 57 1,zm 8 58]))))) (zq [zm 59 0,zm 60 1,zm 61 8,zo 62 (.slStr (.t 59) (some (.t 60)) (some (.t 61))),zm 63 1,zm 64 8,zo 65 (.build [zU 0,.str [],zI 0,zI 0,zI 0,zI 0] [(0,1,zu 2),(1,1,.t 62),(4,1,.t 63),(5,1,.t 64)]),zo 9 (.new [zU 0,.str [],zI 0,zI 0,zI 0,zI 0]),zp (.store 6 (.t 9) (.t 65))] (zr [zf 66 1 9,zl 67 66,zo 68 (.buildSl 6 [.str []] [(0,1,.c (.str [108,101,116])),(1,1,.c (.str [115,101,116])),(2,1,.c (.str [105,102])),(3,1,.c (.str [101,108,115,101])),(4,1,.c (.str [119,104,105,108,101])),(5,1,.c (.str [114,101,116,117,114,110]))]),zx 69 160 [.t 67,.t 68]] 69 (.reg [zf 70 0 9,zp (.store 1 (.t 70) (zu 3))]) .skip (zq [zt 71 6 9,zp (.store 6 (.t 4) (.t 71))] .ret))))) .skip (zq [zo 72 (.buildSl 20 [.str []] [(0,1,.c (.str [38,38])),(1,1,.c (.str [124,124])),(2,1,.c (.str [61,61])),(3,1,.c (.str [33,61])),(4,1,.c (.str [60,61])),(5,1,.c (.str [62,61])),(6,1,.c (.str [60])),(7,1,.c (.str [62])),(8,1,.c (.str [43])),(9,1,.c (.str [45])),(10,1,.c (.str [42])),(11,1,.c (.str [47])),(12,1,.c (.str [33])),(13,1,.c (.str [40])),(14,1,.c (.str [41])),(15,1,.c (.str [123])),(16,1,.c (.str [125])),(17,1,.c (.str [44])),(18,1,.c (.str [59])),(19,1,.c (.str [61]))]),zm 10 72] (.seq (zq [zo 11 (.mv (zi 0))] (.block 2 (.loop (zr [zm 73 11,zm 74 10,zh 75 74,zb 76 .lss 73 75] 76 .skip (.exit 2) (.seq (.block 3 (zq [zm 79 1,zm 80 10,zm 81 11,zd 82 80 81,zl 83 82,zo 84 (.len true (.t 83)),zb 85 .add 79 84,zm 86 0,zo 87 (.len true (.t 86)),zb 88 .leq 85 87,zm 89 88,zg 90 (.mv (.t 0)) 89 true,zg 91 (.mv (.t 1)) 89 true,zg 92 (.mv (.t 1)) 89 true,zg 93 (.mv (.t 10)) 89 true,zg 94 (.mv (.t 11)) 89 true,zg 95 (.idxA 1 (.t 93) (.t 94)) 89 true,zg 96 (.load false 1 (.t 95)) 89 true,zg 97 (.len true (.t 96)) 89 true,zg 98 (.bin .add (.t 92) (.t 97)) 89 true,zg 99 (.slStr (.t 90) (some (.t 91)) (some (.t 98))) 89 true,zg 100 (.mv (.t 10)) 89 true,zg 101 (.mv (.t 11)) 89 true,zg 102 (.idxA 1 (.t 100) (.t 101)) 89 true,zg 103 (.load false 1 (.t 102)) 89 true,zg 104 (.bin .eql (.t 99) (.t 103)) 89 true,zo 105 (.pick (.t 89) (.t 104) (.c (.bool false)))] (.cond (.t 105) (zq [zm 106 10,zm 107 11,zd 108 106 107,zl 109 108,zm 110 1,zm 111 1,zm 112 10,zm 113 11,zd 114 112 113,zl 115 114,zo 116 (.len true (.t 115)),zb 117 .add 111 116,zo 118 (.build [zU 0,.str [],zI 0,zI 0,zI 0,zI 0] [(0,1,zu 4),(1,1,.t 109),(4,1,.t 110),(5,1,.t 117)]),zp (.store 6 (.t 4) (.t 118))] .ret) .skip))) (.reg [zm 77 11,zk 78 .add 77 1,zm 11 78])))))) (zq [zo 119 (.build [zU 0,.str [],zI 0,zI 0,zI 0,zI 0] []),zp (.store 6 (.t 4) (.t 119))] .ret))))),[.cell true 6 4]⟩
theorem za114:cN Tryz.prog 114=some c114:=by kernel_rfl
def c156:AFn:=⟨57,zq [zo 4 (.mv (zi 0))] (zq [zm 7 1,zm 5 7] (.seq (.block 0 (.loop (zr [zm 8 5,zm 9 0,zo 10 (.len true (.t 9)),zb 11 .lss 8 10,zm 12 11,zg 13 (.mv (.t 0)) 12 true,zg 14 (.mv (.t 5)) 12 true,zg 15 (.idxS (.t 13) (.t 14)) 12 true,zg 16 (.call 159 [.t 15]) 12 true,zo 17 (.pick (.t 12) (.t 16) (.c (.bool false)))] 17 .skip (.exit 0) (.block 1 (.reg [zm 18 5,zk 19 .add 18 1,zm 5 19]))))) (zr [zm 20 5,zm 21 1,zb 22 .eql 20 21] 22 (zq [zo 4 (.mv (zi 0))] .ret) .skip (zq [zm 23 5,zk 24 .add 23 1,zm 6 24] (.seq (.block 2 (.loop (zr [zm 25 5,zm 26 0,zo 27 (.len true (.t 26)),zb 28 .lss 25 27,zm 29 28,zg 30 (.mv (.t 0)) 29 true,zg 31 (.mv (.t 5)) 29 true,zg 32 (.idxS (.t 30) (.t 31)) 29 true,zg 33 (.bin .eql (.t 32) (zu 46)) 29 true,zo 34 (.pick (.t 29) (.t 33) (.c (.bool false))),zm 35 34,zg 36 (.mv (.t 6)) 35 true,zg 37 (.mv (.t 0)) 35 true,zg 38 (.len true (.t 37)) 35 true,zg 39 (.bin .lss (.t 36) (.t 38)) 35 true,zo 40 (.pick (.t 35) (.t 39) (.c (.bool false))),zm 41 40,zg 42 (.mv (.t 0)) 41 true,zg 43 (.mv (.t 6)) 41 true,zg 44 (.idxS (.t 42) (.t 43)) 41 true,zg 45 (.call 159 [.t 44]) 41 true,zo 46 (.pick (.t 41) (.t 45) (.c (.bool false)))] 46 .skip (.exit 2) (.block 3 (.reg [zm 47 6,zk 48 .add 47 1,zm 6 48]))))) (zr [zm 49 6,zm 50 5,zk 51 .add 50 1,zb 52 .gtr 49 51] 52 (.reg [zm 53 6,zm 5 53]) .skip (zq [zm 54 5,zm 55 1,zb 56 .sub 54 55,zm 4 56] .ret))))))),[.t 4]⟩
theorem za156:cN Tryz.prog 156=some c156:=by kernel_rfl
def c159:AFn:=⟨9,zq [zo 2 (.mv (.c (.bool false)))] (zq [zm 3 0,zo 4 (.bin .geq (.t 3) (zu 48)),zm 5 4,zg 6 (.mv (.t 0)) 5 true,zg 7 (.bin .leq (.t 6) (zu 57)) 5 true,zo 8 (.pick (.t 5) (.t 7) (.c (.bool false))),zm 2 8] .ret),[.t 2]⟩
theorem za159:cN Tryz.prog 159=some c159:=by kernel_rfl
def c157:AFn:=⟨92,zq [zo 2 (.mv (zi 0)),zo 3 (.mv (.c (.bool false)))] (zr [zm 13 0,zx 14 156 [.t 13,zi 0],zm 15 0,zo 16 (.len true (.t 15)),zb 17 .neq 14 16,zm 18 17,zg 19 (.mv (.t 0)) 18 false,zg 20 (.len true (.t 19)) 18 false,zg 21 (.bin .eql (.t 20) (zi 0)) 18 false,zo 22 (.pick (.t 18) (.c (.bool true)) (.t 21))] 22 (zq [zo 2 (.mv (zi 0)),zo 3 (.mv (.c (.bool false)))] .ret) .skip (zq [zo 4 (.mv (zi 0))] (zq [zo 5 (.mv (zi 0))] (.seq (.block 0 (.loop (zr [zm 23 5,zm 24 0,zo 25 (.len true (.t 24)),zb 26 .lss 23 25,zm 27 26,zg 28 (.mv (.t 0)) 27 true,zg 29 (.mv (.t 5)) 27 true,zg 30 (.idxS (.t 28) (.t 29)) 27 true,zg 31 (.bin .neq (.t 30) (zu 46)) 27 true,zo 32 (.pick (.t 27) (.t 31) (.c (.bool false)))] 32 .skip (.exit 0) (.block 1 (zq [zm 33 4,zk 34 .mul 33 10,zm 35 0,zm 36 5,zo 37 (.idxS (.t 35) (.t 36)),zo 38 (.bin .sub (.t 37) (zu 48)),zv 39 .i64 38,zb 40 .add 34 39,zm 4 40] (zr [zm 41 4,zk 42 .geq 41 2147483648] 42 (zq [zo 2 (.mv (zi 0)),zo 3 (.mv (.c (.bool false)))] .ret) .skip (.reg [zm 43 5,zk 44 .add 43 1,zm 5 44]))))))) (zq [zo 6 (.mv zn)] (.seq (zq [zm 45 5,zk 46 .add 45 1,zm 7 46] (.block 2 (.loop (zr [zm 47 7,zm 48 0,zo 49 (.len true (.t 48)),zb 50 .lss 47 49] 50 .skip (.exit 2) (.seq (.block 3 (.reg [zm 53 6,zm 54 0,zm 55 7,zo 56 (.idxS (.t 54) (.t 55)),zo 57 (.bin .sub (.t 56) (zu 48)),zv 58 .i64 57,zo 59 (.buildSl 1 [zI 0] [(0,1,.t 58)]),zo 60 (.append 1 8 (.t 53) (.t 59)),zm 6 60])) (.reg [zm 51 7,zk 52 .add 51 1,zm 7 52])))))) (zq [zm 61 4,zm 8 61] (.seq (zq [zo 9 (.mv (zi 0))] (.block 4 (.loop (zr [zm 62 9,zk 63 .lss 62 32] 63 .skip (.exit 4) (.seq (.block 5 (zq [zo 10 (.mv (zi 0))] (.seq (zq [zm 66 6,zh 67 66,zk 68 .sub 67 1,zm 11 68] (.block 6 (.loop (zr [zm 69 11,zk 70 .geq 69 0] 70 .skip (.exit 6) (.seq (.block 7 (zq [zm 73 6,zm 74 11,zd 75 73 74,zl 76 75,zk 77 .mul 76 2,zm 78 10,zb 79 .add 77 78,zm 12 79] (zq [zm 80 6,zm 81 11,zm 82 12,zk 83 .rem 82 10,zd 84 80 81,zs 84 83] (.reg [zm 85 12,zk 86 .quo 85 10,zm 10 86])))) (.reg [zm 71 11,zk 72 .sub 71 1,zm 11 72])))))) (.reg [zm 87 8,zk 88 .mul 87 2,zm 89 10,zb 90 .add 88 89,zm 8 90])))) (.reg [zm 64 9,zk 65 .add 64 1,zm 9 65])))))) (zq [zm 91 8,zm 2 91,zo 3 (.mv (.c (.bool true)))] .ret))))))))),[.t 2,.t 3]⟩
theorem za157:cN Tryz.prog 157=some c157:=by kernel_rfl
def c158:AFn:=⟨21,zq [zo 2 (.mv (.c (.bool false)))] (zq [zm 3 0,zo 4 (.bin .geq (.t 3) (zu 97)),zm 5 4,zg 6 (.mv (.t 0)) 5 true,zg 7 (.bin .leq (.t 6) (zu 122)) 5 true,zo 8 (.pick (.t 5) (.t 7) (.c (.bool false))),zm 9 8,zg 10 (.mv (.t 0)) 9 false,zg 11 (.bin .geq (.t 10) (zu 65)) 9 false,zg 12 (.mv (.t 11)) 9 false,zg 13 (.mv (.t 0)) 12 true,zg 14 (.bin .leq (.t 13) (zu 90)) 12 true,zg 15 (.pick (.t 12) (.t 14) (.c (.bool false))) 9 false,zo 16 (.pick (.t 9) (.c (.bool true)) (.t 15)),zm 17 16,zg 18 (.mv (.t 0)) 17 false,zg 19 (.bin .eql (.t 18) (zu 95)) 17 false,zo 20 (.pick (.t 17) (.c (.bool true)) (.t 19)),zm 2 20] .ret),[.t 2]⟩
theorem za158:cN Tryz.prog 158=some c158:=by kernel_rfl
def c160:AFn:=⟨18,zq [zo 4 (.mv (.c (.bool false)))] (.seq (zq [zo 5 (.mv (zi 0))] (.block 0 (.loop (zr [zm 6 5,zm 7 1,zh 8 7,zb 9 .lss 6 8] 9 .skip (.exit 0) (.seq (.block 1 (zq [zm 12 1,zm 13 5,zd 14 12 13,zl 15 14,zm 16 0,zb 17 .eql 15 16] (.cond (.t 17) (zq [zo 4 (.mv (.c (.bool true)))] .ret) .skip))) (.reg [zm 10 5,zk 11 .add 10 1,zm 5 11])))))) (zq [zo 4 (.mv (.c (.bool false)))] .ret)),[.t 4]⟩
theorem za160:cN Tryz.prog 160=some c160:=by kernel_rfl
end
end Go.Proofs.Wo
namespace Go.Proofs.Wo
open Go.Abs Go.Abs.S Go.Proofs
def mdT:Nat→Option PMd:=fun f=>bif Nat.beq f 30 then some ⟨[],some (60,1,false)⟩ else bif Nat.beq f 32 then some ⟨[],some (63,1,false)⟩ else none
def aClone(H:AHeap):List AVal→Option (AVal×AHeap)
 | [.str s]=>bif Nat.ble s.length 281474976710656 then some (.str s,H) else none
 | _=>none
def nat:ANat:=⟨fun f=>Nat.beq f 153,fun f args H=>bif Nat.beq f 153 then aClone H args else none,fun _=>none⟩
abbrev natT:ANat:=natM nat mdT
open Go.Abs Go.Abs.S
abbrev Bs:=List UInt8
def dig(b:UInt8):Bool:=decide (48≤b.toNat)&&decide (b.toNat≤57)
def beg(b:UInt8):Bool:=((decide (97≤b.toNat)&&decide (b.toNat≤122))||(decide (65≤b.toNat)&&decide (b.toNat≤90)))||decide (b.toNat=95)
def bgd(b:UInt8):Bool:=beg b||dig b
def blk(b:UInt8):Bool:=((decide (b.toNat=9)||decide (b.toNat=10))||decide (b.toNat=13))||decide (b.toNat=32)
def nln(b:UInt8):Bool:=!decide (b.toNat=10)
def runF(p:UInt8→Bool)(s:Bs)(at_:Nat):Nat:=at_+((s.drop at_).takeWhile p).length
theorem drop_some{s:Bs}{i:Nat}{c:UInt8}(h:s[i]?=some c):s.drop i=c::s.drop (i+1):=by
 have hlt:=(List.getElem?_eq_some_iff.1 h).1
 rw[List.drop_eq_getElem_cons hlt]
 congr 1
 rw[List.getElem?_eq_getElem hlt]at h
 simpa using h
theorem runF_go{p:UInt8→Bool}{s:Bs}{i:Nat}{c:UInt8}(h:s[i]?=some c)(hp:p c=true):runF p s i=runF p s (i+1):=by
 unfold runF
 rw[drop_some h,List.takeWhile_cons_of_pos hp,List.length_cons]
 omega
theorem runF_no{p:UInt8→Bool}{s:Bs}{i:Nat}{c:UInt8}(h:s[i]?=some c)(hp:p c=false):runF p s i=i:=by
 unfold runF
 rw[drop_some h,List.takeWhile_cons_of_neg (by simp[hp])]
 simp
theorem runF_end{p:UInt8→Bool}{s:Bs}{i:Nat}(h:s.length≤i):runF p s i=i:=by
 unfold runF
 rw[List.drop_eq_nil_of_le h]
 simp
theorem runF_ge(p:UInt8→Bool)(s:Bs)(i:Nat):i≤runF p s i:=Nat.le_add_right _ _
theorem runF_le{p:UInt8→Bool}{s:Bs}{i:Nat}(h:i≤s.length):runF p s i≤s.length:=by
 unfold runF
 have:=(List.takeWhile_sublist (p:=p) (l:=s.drop i)).length_le
 simp only[List.length_drop]at this
 omega
theorem runF_in{p:UInt8→Bool}{s:Bs}{i j:Nat}(h1:i≤j)(h2:j<runF p s i):∃c,s[j]?=some c∧p c=true:=by
 unfold runF at h2
 have hj:j-i<((s.drop i).takeWhile p).length:=om
 have hm:=List.getElem_mem hj
 have hp:=List.all_takeWhile (p:=p) (l:=s.drop i)
 refine⟨((s.drop i).takeWhile p)[j-i],?_,List.all_eq_true.1 hp _ hm⟩
 obtain⟨t,ht⟩:=List.takeWhile_prefix p (l:=s.drop i)
 have:(s.drop i)[j-i]?=some ((s.drop i).takeWhile p)[j-i]:=by
  conv=>lhs; rw[← ht]
  rw[List.getElem?_append_left hj,List.getElem?_eq_getElem hj]
 rw[List.getElem?_drop,show i+(j-i)=j by omega]at this
 exact this
theorem runF_out{p:UInt8→Bool}{s:Bs}{i:Nat}{c:UInt8}(h:s[runF p s i]?=some c):p c=false:=by
 unfold runF at h
 rw[← List.getElem?_drop]at h
 generalize s.drop i=l at h
 induction l with
 | nil=>simp at h
 | cons a l ih=>
  cases ha:p a with
  | true=>
   rw[List.takeWhile_cons_of_pos ha]at h
   simp only[List.length_cons,List.getElem?_cons_succ]at h
   exact ih h
  | false=>
   rw[List.takeWhile_cons_of_neg (by simp[ha])]at h
   simp only[List.length_nil,List.getElem?_cons_zero,sJ]at h
   rw[← h]; exact ha
def numF(s:Bs)(i:Nat):Nat:=
 if runF dig s i=i∨s[runF dig s i]?≠some 46 then runF dig s i
 else if runF dig s i+1<runF dig s (runF dig s i+1) then runF dig s (runF dig s i+1) else runF dig s i
theorem numF_ge(s:Bs)(i:Nat):i≤numF s i:=by
 unfold numF
 have h1:=runF_ge dig s i
 have h2:=runF_ge dig s (runF dig s i+1)
 split
 ·exact h1
 ·split <;> omega
theorem numF_le{s:Bs}{i:Nat}(h:i≤s.length):numF s i≤s.length:=by
 unfold numF
 have h1:=runF_le (p:=dig) h
 split
 ·exact h1
 ·rename_i hn
  have hs:s[runF dig s i]?=some 46:=by
   by_cases c:s[runF dig s i]?=some 46
   ·exact c
   ·exact absurd (.inr c) hn
  have hlt:=(List.getElem?_eq_some_iff.1 hs).1
  split
  ·exact runF_le om
  ·exact h1
mutual
def bl:Bs→Bs
 | []=>[]
 | c::r=>if blk c then bl r else if c.toNat=35 then rm r else c::r
def rm:Bs→Bs
 | []=>[]
 | c::r=>if c.toNat=10 then bl r else rm r
end
def skipF(s:Bs)(i:Nat):Nat:=s.length-(bl (s.drop i)).length
mutual
theorem bl_le:∀l:Bs,(bl l).length≤l.length
 | []=>by simp[bl]
 | c::r=>by
  have h1:=bl_le r
  have h2:=rm_le r
  simp only[bl]
  split
  ·simp; omega
  ·split
   ·simp; omega
   ·simp
theorem rm_le:∀l:Bs,(rm l).length≤l.length
 | []=>by simp[rm]
 | c::r=>by
  have h1:=bl_le r
  have h2:=rm_le r
  simp only[rm]
  split
  ·simp; omega
  ·simp; omega
end
theorem skipF_ge{s:Bs}{i:Nat}(h:i≤s.length):i≤skipF s i:=by
 unfold skipF
 have:=bl_le (s.drop i)
 simp only[List.length_drop]at this
 omega
theorem skipF_le(s:Bs)(i:Nat):skipF s i≤s.length:=by unfold skipF; omega
theorem skip_blank{s:Bs}{i:Nat}{c:UInt8}(h:s[i]?=some c)(hb:blk c=true):skipF s i=skipF s (i+1):=by
 unfold skipF
 rw[drop_some h,bl,if_pos hb]
theorem skip_stop{s:Bs}{i:Nat}{c:UInt8}(h:s[i]?=some c)(hb:blk c=false)(hc:c.toNat≠35):skipF s i=i:=by
 have hlt:=(List.getElem?_eq_some_iff.1 h).1
 unfold skipF
 rw[drop_some h,bl,if_neg (by simp[hb]),if_neg hc,← drop_some h,List.length_drop]
 omega
theorem skip_end{s:Bs}{i:Nat}(h:s.length=i):skipF s i=i:=by
 unfold skipF
 rw[List.drop_eq_nil_of_le om,bl]
 simp; omega
theorem skip_run(s:Bs)(i:Nat):skipF s (runF blk s i)=skipF s i:=by
 have key:∀l:Bs,bl (l.drop (l.takeWhile blk).length)=bl l:=by
  intro l
  induction l with
  | nil=>simp
  | cons a l ih=>
   cases ha:blk a with
   | true=>rw[List.takeWhile_cons_of_pos ha,List.length_cons,List.drop_succ_cons,ih,bl,if_pos ha]
   | false=>rw[List.takeWhile_cons_of_neg (by simp[ha])]; simp
 unfold skipF runF
 rw[← List.drop_drop,key]
theorem rm_run:∀l:Bs,rm l=bl (l.drop (l.takeWhile nln).length)
 | []=>by simp[rm,bl]
 | c::r=>by
  by_cases h:c.toNat=10
  ·have hn:nln c=false:=by simp[nln,h]
   have hb:blk c=true:=by simp[blk,h]
   rw[rm,if_pos h,List.takeWhile_cons_of_neg (by simp[hn]),List.length_nil,List.drop_zero,bl,if_pos hb]
  ·have hn:nln c=true:=by simp[nln,h]
   rw[rm,if_neg h,List.takeWhile_cons_of_pos hn,List.length_cons,List.drop_succ_cons,rm_run r]
theorem skip_remark{s:Bs}{i:Nat}{c:UInt8}(h:s[i]?=some c)(hc:c.toNat=35):skipF s i=skipF s (runF nln s i):=by
 have hb:blk c=false:=by simp[blk,hc]
 have hn:nln c=true:=by simp[nln,hc]
 rw[runF_go h hn]
 unfold skipF runF
 rw[drop_some h,bl,if_neg (by simp[hb]),if_pos hc,rm_run,List.drop_drop]
def lineF(s:Bs)(i:Nat):Nat:=1+(s.take i).count 10
theorem line_succ{s:Bs}{i:Nat}{c:UInt8}(h:s[i]?=some c):lineF s (i+1)=lineF s i+if c.toNat=10 then 1 else 0:=by
 unfold lineF
 rw[List.take_add_one,h,Option.toList_some,List.count_append,List.count_singleton]
 have e:(c==(10:UInt8))=decide (c.toNat=10):=by
  rw[Bool.eq_iff_iff,beq_iff_eq,decide_eq_true_eq]
  constructor
  ·intro h; rw[h]; rfl
  ·intro h; exact UInt8.toNat_inj.1 h
 rw[e]
 by_cases hc:c.toNat=10
 ·simp[hc]; omega
 ·simp[hc]
def dv(c:UInt8):Nat:=c.toNat-48
def valF(l:Bs):Nat:=l.foldl (fun n c=>n*10+dv c) 0
theorem foldl_val(l:Bs)(n:Nat):l.foldl (fun n c=>n*10+dv c) n=n*10 ^ l.length+valF l:=by
 induction l generalizing n with
 | nil=>simp[valF]
 | cons c l ih=>
  simp only[List.foldl_cons,valF,List.length_cons]
  rw[ih,ih (0*10+dv c)]
  rw[Nat.pow_succ]
  have:(n*10+dv c)*10 ^ l.length=n*(10 ^ l.length*10)+(0*10+dv c)*10 ^ l.length:=by
   rw[Nat.add_mul,Nat.zero_mul,Nat.zero_add,Nat.mul_assoc,Nat.mul_comm 10]
  omega
theorem val_snoc(l:Bs)(c:UInt8):valF (l++[c])=valF l*10+dv c:=by simp[valF]
end Go.Proofs.Wo
