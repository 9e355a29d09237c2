/- Part of a proof (S12 S15 S13 S16 S17 S14 S18 S19 S20 S21 S22 S23 S24 S25 S26 S27 S28 USK U0 U1 U4 Zab UC1); no condition. -/
import Derived.ChangeArms
import Derived.ChangeSame
import Derived.SizedLaws
import Derived.Test.YtkkjbpmlejjhjaaGreatProg
import Derived.KernelRfl
import Derived.Test.YtkkjbpmlejjhjaaGreatP4
set_option linter.unusedSimpArgs false
set_option linter.unusedVariables false
set_option linter.defProp false
set_option linter.unnecessarySimpa false
namespace Go.Abs.S
open Go.Abs
theorem wrapU32{a:Int}(h1:0≤a)(h2:a<4294967296):IntKind.u32.wrap a=a:=by
 rw[IntKind.wrap_u32]; omega
theorem wrapU64'{a:Int}(h1:0≤a)(h2:a<18446744073709551616):IntKind.u64.wrap a=a:=by
 rw[IntKind.wrap_u64]; omega
theorem quoU32{a:Nat}(b:Nat)(h:0<b)(ha:a<4294967296):aBin .quo (.int .u32 (a:Int)) (.int .u32 (b:Int))=some (.int .u32 ((a / b:Nat):Int)):=by
 rw[bin_quo _ _ _ om]
 have:(a:Int).tdiv b=((a / b:Nat):Int):=rfl
 have h2:=Nat.div_le_self a b
 rw[this,wrapU32 (Int.natCast_nonneg _) (by generalize a / b=q at *; omega)]
theorem remU32{a:Nat}(b:Nat)(h:0<b):aBin .rem (.int .u32 (a:Int)) (.int .u32 (b:Int))=some (.int .u32 ((a % b:Nat):Int)):=by
 rw[bin_rem _ _ _ om]; rfl
theorem quoU64{a:Nat}(b:Nat)(h:0<b)(ha:a<18446744073709551616):aBin .quo (.int .u64 (a:Int)) (.int .u64 (b:Int))=some (.int .u64 ((a / b:Nat):Int)):=by
 rw[bin_quo _ _ _ om]
 have:(a:Int).tdiv b=((a / b:Nat):Int):=rfl
 have h2:=Nat.div_le_self a b
 rw[this,wrapU64' (Int.natCast_nonneg _) (by generalize a / b=q at *; omega)]
theorem remU64{a:Nat}(b:Nat)(h:0<b):aBin .rem (.int .u64 (a:Int)) (.int .u64 (b:Int))=some (.int .u64 ((a % b:Nat):Int)):=by
 rw[bin_rem _ _ _ om]; rfl
theorem shrN(k k':IntKind)(a:Nat){b:Nat}(hb:b≤k.bits):aBin .shr (.int k (a:Int)) (.int k' (b:Int))=some (.int k ((a / 2 ^ b:Nat):Int)):=by
 rw[bin_shr,Nat.min_eq_left hb]
 congr 2
 have:((2:Int) ^ b)=((2 ^ b:Nat):Int):=by simp
 rw[this,Int.fdiv_eq_ediv_of_nonneg _ (Int.natCast_nonneg _)]
 rfl
theorem bin_andU64{a b:Nat}(ha:a<2 ^ 64)(hb:b<2 ^ 64):aBin .and (.int .u64 (a:Int)) (.int .u64 (b:Int))=some (.int .u64 ((a &&& b:Nat):Int)):=by
 have e:(BitVec.ofInt IntKind.u64.bits (a:Int) &&& BitVec.ofInt IntKind.u64.bits (b:Int)).toNat=a &&& b:=by
  rw[BitVec.toNat_and,ofInt_nat,ofInt_nat]
  have h1:a % 2 ^ IntKind.u64.bits=a:=Nat.mod_eq_of_lt (by simp only[IntKind.bits]; omega)
  have h2:b % 2 ^ IntKind.u64.bits=b:=Nat.mod_eq_of_lt (by simp only[IntKind.bits]; omega)
  rw[h1,h2]
 simp only[aBin,isShift,cond_false,if_true,aIntF_eq,aInt,e]
 have h3:=Nat.and_lt_two_pow a hb
 rw[wrapU64' om om]
def byts(s:List UInt8):List AVal:=s.map fun b=>.int .u8 (b.toNat:Int)
theorem byts_get{s:List UInt8}{i:Nat}{b:UInt8}(h:s[i]?=some b):(byts s)[i]?=some (.int .u8 (b.toNat:Int)):=by simp[byts,h]
theorem bytesOf_byts:∀s:List UInt8,bytesOf (byts s)=some s
 | []=>rfl
 | b::s=>by
  have h:=bytesOf_byts s
  show (match bytesOf (byts s) with | some l=>some (UInt8.ofNat (Int.toNat (b.toNat:Int))::l) | none=>none)=_
  rw[h]
  simp
theorem row_storeN{H:AHeap}{b n:Nat}{l:List AVal}(h:Row H b l)(hn:l.length=n){xs:List AVal}(hx:xs.length=n)(ho:xs.all AVal.one=true) :
  ∃H',oStore n H (cellR b n 0) (.agg xs)=some H'∧Row H' b xs∧H'.next=H.next∧∀c,c≠b→H'.get c=H.get c:=by
 subst hn
 obtain⟨low,h1,h2⟩:=h
 refine⟨H.set b (.cells xs l.length false),?_,⟨l.length,by rw[AHeap.get_set,if_pos rfl],om⟩,rfl,fun c hc=>by rw[AHeap.get_set,if_neg hc]⟩
 simp only[oStore,cellR,cells_agg,hx,Nat.beq_refl,cond_true]
 unfold wrCells
 simp only[h1,hx,Nat.ble_eq_true_of_le h2,Nat.beq_refl,Nat.zero_add,Nat.ble_eq_true_of_le rL,ho,Bool.and_self,cond_true,List.take_zero,List.nil_append,List.drop_length,List.append_nil]
theorem row_loadN{H:AHeap}{b n:Nat}{l:List AVal}(h:Row H b l)(hn:l.length=n):oLoad true n H (cellR b n 0)=some (.agg l):=by
 subst hn
 obtain⟨low,h1,h2⟩:=h
 simp only[oLoad,cellR,rd_whole h1 h2,cond_true]
theorem fld0(b n o:Nat):aField o (cellR b n 0)=some (cellR b n o):=by
 simp only[aField,cellR,Nat.zero_add]
theorem fin_n0{T:Env}{H:AHeap}(K:AVal→AHeap→Prop):fin [] K .normal T H=K (.tuple []) H:=by
 simp only[fin,wRes,OptP_some]; rfl
end Go.Abs.S
namespace Go.Abs.S
open Go.Abs
theorem bs_cel{n:Nat}{H:AHeap}{s:AVal}{t:List UInt8}(h:Cel n H s (byts t)):aBS H s=some (.str t):=by
 rcases h with⟨h,h2⟩ | ⟨a,r,rfl,_,h3⟩
 ·have ht:t=[]:=by simpa[byts] using h2
  subst ht
  rcases isE_cases h with rfl | ⟨a,rfl⟩ <;> rfl
 ·simp only[aBS,h3,bytesOf_byts]
end Go.Abs.S
namespace Go.Abs.S
open Go.Abs Go.WideShapes Go.ChangeShapes
variable {H:Type} {enc:TypeId×Value→H}
theorem byte_wf{n:Int}(h:(Lit.int .u8 n).wf=true):((UInt8.ofNat n.toNat).toNat:Int)=n:=by
 simp[Lit.wf,IntKind.min,IntKind.max,IntKind.signed,IntKind.bits]at h
 rw[UInt8.toNat_ofNat']
 omega
end Go.Abs.S
namespace Go.Abs.S
open Go.Abs Go.WideShapes Go.ChangeShapes
variable {H:Type} {enc:TypeId×Value→H}
theorem cells_at{w:World}{b:Nat}{c off:Nat}{n:Nat}{cs:List Value}(h:w.cells? b ⟨c,off,none⟩ n=some cs):cs.length=n∧∀i,i<n→w.cell? ⟨c,off+i,none⟩=cs[i]?:=by
 unfold World.cells? at h
 split at h
 ·have key:∀(l:List Nat) (cs:List Value),l.mapM (fun i=>w.cell? ((⟨c,off,none⟩:Addr).add i))=some cs→cs.length=l.length∧∀(i j:Nat),l[i]?=some j→w.cell? ((⟨c,off,none⟩:Addr).add j)=cs[i]?:=by
   intro l
   induction l with
   | nil=>intro cs h; simp at h; subst h; simp
   | cons x l ih=>
    intro cs h
    simp only[List.mapM_cons]at h
    cases hx:w.cell? ((⟨c,off,none⟩:Addr).add x) with
    | none=>rw[hx]at h; simp at h
    | some v=>
     rw[hx]at h
     cases hr:l.mapM (fun i=>w.cell? ((⟨c,off,none⟩:Addr).add i)) with
     | none=>rw[hr]at h; simp at h
     | some vs=>
      rw[hr]at h
      simp at h
      subst h
      obtain⟨h1,h2⟩:=ih vs hr
      refine⟨by simp[h1],fun i j hj=>?_⟩
      cases i with
      | zero=>simp at hj; subst hj; simpa using hx
      | succ i=>simpa using h2 i j (by simpa using hj)
  obtain⟨h1,h2⟩:=key _ _ h
  refine⟨by simpa using h1,fun i hi=>?_⟩
  have:=h2 i i (by simp[hi])
  rwa [add_none]at this
 ·simp at h
end Go.Abs.S
namespace Go.Abs.S
open Go.Abs Go.WideShapes Go.ChangeShapes
variable {H:Type} {enc:TypeId×Value→H}
theorem weights_at{P:Program}{ts:List TypeId}{ds:List (DataW H)}(h:(DataW.weightsEach P ts ds).all (·≤reachBytes)=true){j:Nat}{t:TypeId}{d:DataW H}(ht:ts[j]?=some t)(hd:ds[j]?=some d):∀n∈d.weights P t,n≤reachBytes:=by
 intro n hn
 have:=List.all_eq_true.1 h _ (DataW.weights_mem_each ht hd n hn)
 simpa using this
end Go.Abs.S
namespace Go.Abs.S
open Go.Abs
def AppN(m n:Nat)(H:AHeap)(s:AVal)(L:List AVal)(k:Nat):Prop:=
 (s=nilS∧L=[]∧k=0)∨∃b low,s=.slice (some ⟨b,L.length,0⟩) k (.open_ m)∧L.length=m*k∧n≤b∧b<H.next∧H.get b=some (.cells L low false)∧low≤L.length∧0<k
theorem AppN.nil(m n:Nat)(H:AHeap):AppN m n H nilS [] 0:=.inl ⟨rfl,rfl,rfl⟩
theorem AppN.ext{m n k:Nat}{H H':AHeap}{s:AVal}{L:List AVal}(h:AppN m n H s L k)(e:Ext H.next H H'):AppN m n H' s L k:=by
 rcases h with h | ⟨b,low,h1,h2,h3,h4,h5,h6⟩
 ·exact .inl h
 ·exact .inr ⟨b,low,h1,h2,h3,Nat.lt_of_lt_of_le h4 e.next,(e.old b h4).trans h5,h6⟩
theorem AppN.len{m n k:Nat}{H:AHeap}{s:AVal}{L:List AVal}(h:AppN m n H s L k):aLenK false s=some (.int .i64 (k:Int)):=by
 rcases h with⟨rfl,_,rfl⟩ | ⟨b,low,rfl,_⟩ <;> rfl
theorem AppN.blk{m n k:Nat}{H:AHeap}{s:AVal}{L:List AVal}(h:AppN m n H s L k):∀a j r,s=.slice (some a) j r→a.b<H.next:=by
 intro a j r he
 rcases h with⟨rfl,_⟩ | ⟨b,low,rfl,_,_,h4,_⟩
 ·simp[nilS]at he
 ·simp only[AVal.slice.injEq,sJ]at he
  rw[← he.1]; exact h4
def oneM(H:AHeap)(m:Nat):AVal:=.slice (some ⟨H.next,m,0⟩) 1 (.known 1)
theorem buildM{m:Nat}{z xs:List AVal}(H:AHeap)(hz:z.length=m)(hx:xs.length=m):aBuildSl 1 z H [(0,m,.agg xs)]=some (oneM H m,H.push (.cells xs 0 false)):=by
 subst hz
 have hb:Nat.beq xs.length z.length=true:=by rw[hx]; exact Nat.beq_refl _
 simp only[aBuildSl,rep,List.append_nil,aFill,cells_agg,hx,Nat.beq_refl,Nat.zero_add,Nat.ble_eq_true_of_le rL,Bool.and_self,cond_true,splice,List.take_zero,List.nil_append,List.drop_length,List.append_nil,oneM]
theorem srcM{m:Nat}{xs:List AVal}(H:AHeap)(hx:xs.length=m):aSrc m (H.push (.cells xs 0 false)) (oneM H m)=some (1,xs):=by
 subst hx
 have:=rd_whole (H:=H.push (.cells xs 0 false)) (b:=H.next) (l:=xs) (low:=0) (ro:=false) (by rw[AHeap.get_push,if_pos rfl]) (Nat.zero_le _)
 simp only[aSrc,oneM,Nat.one_mul,this]
theorem AppN.push{m n k:Nat}{H:AHeap}{s:AVal}{L:List AVal}(h:AppN m n H s L k)(hn:n≤H.next){xs:List AVal}(hx:xs.length=m)(ho:xs.all AVal.one=true)(hm:0<m){bytes:Nat}(hb:2*(k+1)*bytes≤281474976710656)(hb1:0<bytes) :
  ∃s' H',aAppend m bytes (H.push (.cells xs 0 false)) s (oneM H m)=some (s',H')∧AppN m n H' s' (L++xs) (k+1)∧Ext n H H'∧∀c,c<H.next→(∀a j r,s=.slice (some a) j r→c≠a.b)→H'.get c=H.get c:=by
 have hlen:k+1≤9223372036854775807:=by
  have:2*(k+1)≤2*(k+1)*bytes:=Nat.le_mul_of_pos_right _ hb1
  omega
 have hlt:Nat.blt 0 m=true:=by simpa[Nat.blt_eq] using hm
 have c1:∀j,j=k→(Nat.blt 0 m&&(Nat.ble ((2*(j+1)+0)*bytes) 281474976710656&&(Nat.ble (j+1) 9223372036854775807&&(Nat.beq xs.length (1*m)&&xs.all AVal.one))))=true:=by
  intro j hj
  subst hj
  simp only[Nat.add_zero,Nat.ble_eq_true_of_le hb,Nat.ble_eq_true_of_le hlen,hx,Nat.one_mul,Nat.beq_refl,ho,hlt,Bool.and_self]
 rcases h with⟨rfl,rfl,rfl⟩ | ⟨b,low,rfl,h2,h3,h4,h5,h6,h7⟩
 ·refine⟨.slice (some ⟨H.next+1,m,0⟩) 1 (.open_ m),(H.push (.cells xs 0 false)).push (.cells xs 0 false),?_,.inr ⟨H.next+1,0,by simp[hx],by simp[hx],om,Nat.lt_succ_self _,?_,Nat.zero_le _,om⟩,((Ext.refl n H).push hn _).push (by rw[push_next]; omega) _,fun c hc _=>by rw[AHeap.get_push,if_neg (by rw[push_next]; omega),get_push_lt hc]⟩
  ·simp only[aAppend,srcM H hx,nilS]
   rw[show Nat.beq 1 0=false from rfl,cond_false,c1 0 rfl,cond_true,hx]
   rfl
  ·rw[AHeap.get_push]; exact if_pos rfl
 ·have hg:(H.push (.cells xs 0 false)).get b=some (.cells L low false):=by rw[AHeap.get_push,if_neg om]; exact h5
  have hgrow:growCells (H.push (.cells xs 0 false)) ⟨b,L.length,0⟩ L.length xs=some ((H.push (.cells xs 0 false)).set b (.cells (L++xs) low false)):=by
   unfold growCells
   simp only[hg,Nat.ble_eq_true_of_le h6,Nat.ble_eq_true_of_le rL,Nat.ble_eq_true_of_le (Nat.zero_le _),Nat.ble_eq_true_of_le (show L.length+1≤L.length+xs.length by omega),Nat.beq_refl,ho,Bool.and_self,cond_true,List.take_length]
  refine⟨.slice (some ⟨b,L.length+m,0⟩) (k+1) (.open_ m),(H.push (.cells xs 0 false)).set b (.cells (L++xs) low false),?_,.inr ⟨b,low,by simp[hx],by rw[lA,h2,hx,Nat.mul_add,Nat.mul_one],h3,by rw[set_next,push_next]; omega,by rw[AHeap.get_set,if_pos rfl],by simp; omega,om⟩,((Ext.refl n H).push hn _).set h3 _,fun c hc hd=>by rw[AHeap.get_set,if_neg (hd _ _ _ rfl),get_push_lt hc]⟩
  have e0:0+k*m=L.length:=by rw[h2,Nat.mul_comm]; omega
  have e1:Nat.ble (0+(k+1)*m) L.length=false:=by
   rw[ble_dec]; refine decide_eq_false ?_
   rw[Nat.add_mul,Nat.one_mul]; omega
  simp only[aAppend,srcM H hx]
  rw[show Nat.beq 1 0=false from rfl,cond_false,c1 k rfl,cond_true]
  simp only[Nat.beq_refl,cond_true,e1,cond_false,e0,hgrow,hx]
theorem idxM{b lim k m:Nat}(K:IntKind){i:Nat}(h:i<k):aIdxA m (.slice (some ⟨b,lim,0⟩) k (.open_ m)) (.int K (i:Int))=some (cellR b lim (i*m)):=by
 show (bif Nat.blt i k then some (AVal.ptr (some ⟨b,lim,0+i*m⟩)) else none)=_
 have:Nat.blt i k=true:=by simpa[Nat.blt_eq] using h
 rw[this,Nat.zero_add]; rfl
end Go.Abs.S
namespace Go.Abs.S
open Go.Abs
def Blk(v:AVal)(P:Nat→Prop):Prop:=∀a m r,v=.slice (some a) m r→P a.b
theorem Blk.mono{v:AVal}{P Q:Nat→Prop}(h:Blk v P)(k:∀b,P b→Q b):Blk v Q:=fun a m r e=>k _ (h a m r e)
theorem isE_one{s:AVal}(h:isE s=true):s.one=true:=by
 rcases isE_cases h with rfl | ⟨a,rfl⟩ <;> rfl
theorem blk_nil(P:Nat→Prop):Blk nilS P:=by intro a m r h; simp[nilS]at h
theorem blk_some{a:Ad}{m:Nat}{r:Room}{P:Nat→Prop}(h:P a.b):Blk (.slice (some a) m r) P:=by
 intro a' m' r' e
 simp only[AVal.slice.injEq,sJ]at e
 rw[← e.1]; exact h
theorem rd_row{H:AHeap}{b n:Nat}{l:List AVal}(h:Row H b l)(hn:l.length=n){i k:Nat}(hik:i+k≤n):rdCells H ⟨b,n,i⟩ k=some ((l.drop i).take k):=by
 subst hn
 obtain⟨low,h1,h2⟩:=h
 unfold rdCells
 simp only[h1,Nat.ble_eq_true_of_le h2,Nat.ble_eq_true_of_le rL,Nat.ble_eq_true_of_le hik,Bool.and_self,cond_true]
theorem row_loadK{H:AHeap}{b n:Nat}{l:List AVal}(h:Row H b l)(hn:l.length=n){i k:Nat}(hik:i+k≤n):oLoad true k H (cellR b n i)=some (.agg ((l.drop i).take k)):=by
 simp only[oLoad,cellR,rd_row h hn hik,cond_true]
theorem row_storeK{H:AHeap}{b n:Nat}{l:List AVal}(h:Row H b l)(hn:l.length=n){i k:Nat}(hik:i+k≤n){xs:List AVal}(hx:xs.length=k)(ho:xs.all AVal.one=true) :
  ∃H',oStore k H (cellR b n i) (.agg xs)=some H'∧Row H' b (l.take i++(xs++l.drop (i+k)))∧H'.next=H.next∧∀c,c≠b→H'.get c=H.get c:=by
 subst hn hx
 obtain⟨low,h1,h2⟩:=h
 refine⟨H.set b (.cells (l.take i++(xs++l.drop (i+xs.length))) l.length false),?_,⟨l.length,by rw[AHeap.get_set,if_pos rfl],by simp; omega⟩,rfl,fun c hc=>by rw[AHeap.get_set,if_neg hc]⟩
 simp only[oStore,cellR,cells_agg,Nat.beq_refl,cond_true]
 unfold wrCells
 simp only[h1,Nat.ble_eq_true_of_le h2,Nat.beq_refl,Nat.ble_eq_true_of_le hik,ho,Bool.and_self,cond_true]
theorem fldA(b n i o:Nat):aField o (cellR b n i)=some (cellR b n (i+o)):=_root_.id rfl
theorem nil_cell(b n i:Nat):aNilChk (cellR b n i)=some (cellR b n i):=_root_.id rfl
theorem eq_ptr(b n i j:Nat):aPf (.eqv false .ptr) [cellR b n i,cellR b n j]=some (.bool (Nat.beq i j)):=by
 show (match (bif Nat.beq b b&&Nat.beq n n then some (Nat.beq i j) else none) with | some c=>some (AVal.bool (bif false then !c else c)) | none=>none)=_
 simp only[Nat.beq_refl,Bool.and_self,cond_true,cond_false]
theorem eq_ptr_nil(b n i:Nat):aPf (.eqv false .ptr) [cellR b n i,.ptr none]=some (.bool false):=_root_.id rfl
theorem AppN.same{m n k:Nat}{H H':AHeap}{s:AVal}{L:List AVal}(h:AppN m n H s L k)(hn:H.next≤H'.next)(e:Blk s fun b=>H'.get b=H.get b):AppN m n H' s L k:=by
 rcases h with h | ⟨b,low,rfl,h2,h3,h4,h5,h6,h7⟩
 ·exact .inl h
 ·exact .inr ⟨b,low,rfl,h2,h3,om,(e _ _ _ rfl).trans h5,h6,h7⟩
theorem AppN.one{m n k:Nat}{H:AHeap}{s:AVal}{L:List AVal}(h:AppN m n H s L k):s.one=true:=by
 rcases h with⟨rfl,_⟩ | ⟨b,low,rfl,_⟩ <;> rfl
theorem AppN.pushB{m k:Nat}{H:AHeap}{s:AVal}{L:List AVal}(h:AppN m 0 H s L k){xs:List AVal}(hx:xs.length=m)(ho:xs.all AVal.one=true)(hm:0<m){bytes:Nat}(hb:2*(k+1)*bytes≤281474976710656)(hb1:0<bytes) :
  ∃s' H',aAppend m bytes (H.push (.cells xs 0 false)) s (oneM H m)=some (s',H')∧AppN m 0 H' s' (L++xs) (k+1)∧H.next≤H'.next∧(∀P,Blk s P→Blk s' fun b=>P b∨H.next≤b)∧∀c,c<H.next→Blk s (c≠·)→H'.get c=H.get c:=by
 rcases h with⟨rfl,rfl,rfl⟩ | ⟨b,low,rfl,h2,h3,h4,h5,h6,h7⟩
 ·obtain⟨s',H',h1,h2,h3,h4⟩:=(AppN.nil m H.next H).push rL hx ho hm hb hb1
  refine⟨s',H',h1,?_,h3.next,fun P _=>?_,fun c hc _=>h3.old c hc⟩
  ·rcases h2 with h2 | ⟨b,low,e1,e2,e3,e4,e5,e6,e7⟩
   ·exact .inl h2
   ·exact .inr ⟨b,low,e1,e2,Nat.zero_le _,e4,e5,e6,e7⟩
  ·rcases h2 with⟨_,_,h2⟩ | ⟨b,low,rfl,e2,e3,e4,e5,e6,e7⟩
   ·omega
   ·exact blk_some (.inr e3)
 ·have h0:AppN m 0 H (.slice (some ⟨b,L.length,0⟩) k (.open_ m)) L k:=.inr ⟨b,low,rfl,h2,h3,h4,h5,h6,h7⟩
  have hb':AppN m b H (.slice (some ⟨b,L.length,0⟩) k (.open_ m)) L k:=.inr ⟨b,low,rfl,h2,Nat.le_refl _,h4,h5,h6,h7⟩
  have hlen:k+1≤9223372036854775807:=by
   have:2*(k+1)≤2*(k+1)*bytes:=Nat.le_mul_of_pos_right _ hb1
   omega
  have hlt:Nat.blt 0 m=true:=by simpa[Nat.blt_eq] using hm
  have c1:(Nat.blt 0 m&&(Nat.ble ((2*(k+1)+0)*bytes) 281474976710656&&(Nat.ble (k+1) 9223372036854775807&&(Nat.beq xs.length (1*m)&&xs.all AVal.one))))=true:=by
   simp only[Nat.add_zero,Nat.ble_eq_true_of_le hb,Nat.ble_eq_true_of_le hlen,hx,Nat.one_mul,Nat.beq_refl,ho,hlt,Bool.and_self]
  have hg:(H.push (.cells xs 0 false)).get b=some (.cells L low false):=by rw[AHeap.get_push,if_neg om]; exact h5
  have hgrow:growCells (H.push (.cells xs 0 false)) ⟨b,L.length,0⟩ L.length xs=some ((H.push (.cells xs 0 false)).set b (.cells (L++xs) low false)):=by
   unfold growCells
   simp only[hg,Nat.ble_eq_true_of_le h6,Nat.ble_eq_true_of_le rL,Nat.ble_eq_true_of_le (Nat.zero_le _),Nat.ble_eq_true_of_le (show L.length+1≤L.length+xs.length by omega),Nat.beq_refl,ho,Bool.and_self,cond_true,List.take_length]
  have e0:0+k*m=L.length:=by rw[h2,Nat.mul_comm]; omega
  have e1:Nat.ble (0+(k+1)*m) L.length=false:=by
   rw[ble_dec]; refine decide_eq_false ?_
   rw[Nat.add_mul,Nat.one_mul]; omega
  refine⟨.slice (some ⟨b,L.length+m,0⟩) (k+1) (.open_ m),(H.push (.cells xs 0 false)).set b (.cells (L++xs) low false),?_,.inr ⟨b,low,by simp[hx],by rw[lA,h2,hx,Nat.mul_add,Nat.mul_one],Nat.zero_le _,by rw[set_next,push_next]; omega,by rw[AHeap.get_set,if_pos rfl],by simp; omega,om⟩,by rw[set_next,push_next]; omega,fun P hP=>(have hP2:P b:=hP _ _ _ rfl; blk_some (.inl hP2)),fun c hc hd=>by rw[AHeap.get_set,if_neg (hd _ _ _ rfl),get_push_lt hc]⟩
  simp only[aAppend,srcM H hx]
  rw[show Nat.beq 1 0=false from rfl,cond_false,c1,cond_true]
  simp only[Nat.beq_refl,cond_true,e1,cond_false,e0,hgrow,hx]
end Go.Abs.S
namespace Go.Abs.S
open Go.Abs
end Go.Abs.S
namespace Go.Abs.S
open Go.Abs
def hold(c:ACode):ACode:=c
theorem hold_eq(c:ACode):hold c=c:=_root_.id rfl
theorem aeq_open(a:Ad)(n m:Nat):aeq (.slice (some a) n (.open_ m)) (.slice (some a) n (.open_ m))=true:=by simp[aeq]
theorem aeq_nilS:aeq nilS nilS=true:=rfl
end Go.Abs.S
namespace Go.Abs.S
open Go.Abs
theorem sW:type_of% (And.intro (And.intro (And.intro (And.intro (And.intro (And.intro (And.intro (@pf_min) (@undef_bool)) (And.intro (@str_len) (@str_eql))) (And.intro (And.intro (@str_neq) (@conv_in)) (@un_not))) (And.intro (And.intro (And.intro (@eq_self.{1}) (@decide_true)) (@decide_false)) (And.intro (And.intro (@Bool.not_true) (@Bool.not_false)) (@argE_0)))) (And.intro (And.intro (And.intro (And.intro (@argE_1) (@argE_2)) (And.intro (@argE_3) (@argE_4))) (And.intro (And.intro (And.intro (@aw_skip) (And.intro (And.intro (@aw_dfr) (@wDfr_func)) (And.intro (@inDfr_ret) (@inDfr_normal)))) (@aw_reg)) (@aw_seq))) (And.intro (And.intro (And.intro (@aw_cond) (@aw_exit)) (@aw_ret)) (And.intro (And.intro (@inSeq_normal) (@inSeq_exit)) (@inSeq_ret))))) (And.intro (And.intro (And.intro (And.intro (And.intro (@inBlk_exit) (@inBlk_normal)) (And.intro (@inBlk_ret) (@OptK_some))) (And.intro (And.intro (@OptH_some) (@OptS_some)) (@kont_app))) (And.intro (And.intro (And.intro (@ar_nil) (@ar_guard)) (@ar_mv)) (And.intro (And.intro (@ar_pick) (@ar_new)) (@ar_box)))) (And.intro (And.intro (And.intro (And.intro (@ar_build) (@ar_buildSl)) (@ar_load)) (And.intro (And.intro (@ar_store) (@ar_nilChk)) (@ar_bin))) (And.intro (And.intro (And.intro (@ar_un) (@ar_conv)) (@ar_convSB)) (And.intro (And.intro (@ar_convBS) (@ar_mkFunc)) (@ar_mkIface)))))) (And.intro (And.intro (And.intro (And.intro (And.intro (And.intro (@ar_mkSlice) (@ar_sl)) (And.intro (@ar_slStr) (@ar_fieldA))) (And.intro (And.intro (@ar_field) (@ar_idxA)) (@ar_idxArr))) (And.intro (And.intro (And.intro (@ar_idx) (@ar_idxS)) (@ar_extract)) (And.intro (And.intro (@ar_append) (@ar_len)) (@ar_call)))) (And.intro (And.intro (And.intro (And.intro (@ar_callv) (@callvP_func)) (@ar_pf)) (And.intro (And.intro (@ar_hf) (@ar_slA)) (@upO_some))) (And.intro (And.intro (And.intro (@upO_none) (@sX_t)) (@sX_c)) (And.intro (And.intro (@sX_f) (@fin_t)) (@fin_t2))))) (And.intro (And.intro (And.intro (And.intro (And.intro (@fin_t3) (@up_same)) (And.intro (@up_ne) (@ne_eq.{1}))) (And.intro (And.intro (@not_false_eq_true) (@AVal.bool.injEq)) (@decide_eq_true_eq))) (And.intro (And.intro (And.intro (@decide_eq_false_iff_not) (@Int.ofNat_eq_natCast)) (@Int.cast_ofNat_Int)) (And.intro (And.intro (@bin_lss) (@bin_leq)) (@bin_gtr)))) (And.intro (And.intro (And.intro (And.intro (@bin_geq) (@bin_eql)) (@bin_neq)) (And.intro (And.intro (@bin_add) (@bin_sub)) (@bin_mul))) (And.intro (And.intro (And.intro (@Bool.not_eq_true') (@Bool.not_eq_false')) (@Bool.true_eq_false)) (And.intro (And.intro (@Bool.false_eq_true) (@if_true.{1})) (@if_false.{1}))))))):=And.intro (And.intro (And.intro (And.intro (And.intro (And.intro (And.intro (@pf_min) (@undef_bool)) (And.intro (@str_len) (@str_eql))) (And.intro (And.intro (@str_neq) (@conv_in)) (@un_not))) (And.intro (And.intro (And.intro (@eq_self.{1}) (@decide_true)) (@decide_false)) (And.intro (And.intro (@Bool.not_true) (@Bool.not_false)) (@argE_0)))) (And.intro (And.intro (And.intro (And.intro (@argE_1) (@argE_2)) (And.intro (@argE_3) (@argE_4))) (And.intro (And.intro (And.intro (@aw_skip) (And.intro (And.intro (@aw_dfr) (@wDfr_func)) (And.intro (@inDfr_ret) (@inDfr_normal)))) (@aw_reg)) (@aw_seq))) (And.intro (And.intro (And.intro (@aw_cond) (@aw_exit)) (@aw_ret)) (And.intro (And.intro (@inSeq_normal) (@inSeq_exit)) (@inSeq_ret))))) (And.intro (And.intro (And.intro (And.intro (And.intro (@inBlk_exit) (@inBlk_normal)) (And.intro (@inBlk_ret) (@OptK_some))) (And.intro (And.intro (@OptH_some) (@OptS_some)) (@kont_app))) (And.intro (And.intro (And.intro (@ar_nil) (@ar_guard)) (@ar_mv)) (And.intro (And.intro (@ar_pick) (@ar_new)) (@ar_box)))) (And.intro (And.intro (And.intro (And.intro (@ar_build) (@ar_buildSl)) (@ar_load)) (And.intro (And.intro (@ar_store) (@ar_nilChk)) (@ar_bin))) (And.intro (And.intro (And.intro (@ar_un) (@ar_conv)) (@ar_convSB)) (And.intro (And.intro (@ar_convBS) (@ar_mkFunc)) (@ar_mkIface)))))) (And.intro (And.intro (And.intro (And.intro (And.intro (And.intro (@ar_mkSlice) (@ar_sl)) (And.intro (@ar_slStr) (@ar_fieldA))) (And.intro (And.intro (@ar_field) (@ar_idxA)) (@ar_idxArr))) (And.intro (And.intro (And.intro (@ar_idx) (@ar_idxS)) (@ar_extract)) (And.intro (And.intro (@ar_append) (@ar_len)) (@ar_call)))) (And.intro (And.intro (And.intro (And.intro (@ar_callv) (@callvP_func)) (@ar_pf)) (And.intro (And.intro (@ar_hf) (@ar_slA)) (@upO_some))) (And.intro (And.intro (And.intro (@upO_none) (@sX_t)) (@sX_c)) (And.intro (And.intro (@sX_f) (@fin_t)) (@fin_t2))))) (And.intro (And.intro (And.intro (And.intro (And.intro (@fin_t3) (@up_same)) (And.intro (@up_ne) (@ne_eq.{1}))) (And.intro (And.intro (@not_false_eq_true) (@AVal.bool.injEq)) (@decide_eq_true_eq))) (And.intro (And.intro (And.intro (@decide_eq_false_iff_not) (@Int.ofNat_eq_natCast)) (@Int.cast_ofNat_Int)) (And.intro (And.intro (@bin_lss) (@bin_leq)) (@bin_gtr)))) (And.intro (And.intro (And.intro (And.intro (@bin_geq) (@bin_eql)) (@bin_neq)) (And.intro (And.intro (@bin_add) (@bin_sub)) (@bin_mul))) (And.intro (And.intro (And.intro (@Bool.not_eq_true') (@Bool.not_eq_false')) (@Bool.true_eq_false)) (And.intro (And.intro (@Bool.false_eq_true) (@if_true.{1})) (@if_false.{1}))))))
theorem sL:type_of% (And.intro (And.intro (@List.nil_append.{0}) (@List.cons_append.{0})) (@List.append_nil.{0})):=And.intro (And.intro (@List.nil_append.{0}) (@List.cons_append.{0})) (@List.append_nil.{0})
theorem sR:type_of% (And.intro (And.intro (And.intro (And.intro (And.intro (And.intro (@consK_app) (@OptKT_some)) (@OptHT_some)) (And.intro (@OptST_some) (@kontT_app))) (And.intro (And.intro (And.intro (@tr_nil) (@tr_guard)) (@tr_pick)) (And.intro (@tr_mv) (@tr_new)))) (And.intro (And.intro (And.intro (And.intro (@tr_box) (@tr_build)) (@tr_buildSl)) (And.intro (@tr_load) (@tr_store))) (And.intro (And.intro (And.intro (@tr_nilChk) (@tr_bin)) (@tr_un)) (And.intro (@tr_conv) (@tr_convSB))))) (And.intro (And.intro (And.intro (And.intro (And.intro (@tr_convBS) (@tr_mkFunc)) (@tr_mkIface)) (And.intro (@tr_mkSlice) (@tr_sl))) (And.intro (And.intro (And.intro (@tr_slStr) (@tr_fieldA)) (@tr_field)) (And.intro (@tr_idxA) (@tr_idxArr)))) (And.intro (And.intro (And.intro (And.intro (@tr_idx) (@tr_idxS)) (@tr_extract)) (And.intro (@tr_append) (@tr_len))) (And.intro (And.intro (And.intro (@tr_call) (@tr_callv)) (@tr_pf)) (And.intro (@tr_hf) (@tr_slA)))))):=And.intro (And.intro (And.intro (And.intro (And.intro (And.intro (@consK_app) (@OptKT_some)) (@OptHT_some)) (And.intro (@OptST_some) (@kontT_app))) (And.intro (And.intro (And.intro (@tr_nil) (@tr_guard)) (@tr_pick)) (And.intro (@tr_mv) (@tr_new)))) (And.intro (And.intro (And.intro (And.intro (@tr_box) (@tr_build)) (@tr_buildSl)) (And.intro (@tr_load) (@tr_store))) (And.intro (And.intro (And.intro (@tr_nilChk) (@tr_bin)) (@tr_un)) (And.intro (@tr_conv) (@tr_convSB))))) (And.intro (And.intro (And.intro (And.intro (And.intro (@tr_convBS) (@tr_mkFunc)) (@tr_mkIface)) (And.intro (@tr_mkSlice) (@tr_sl))) (And.intro (And.intro (And.intro (@tr_slStr) (@tr_fieldA)) (@tr_field)) (And.intro (@tr_idxA) (@tr_idxArr)))) (And.intro (And.intro (And.intro (And.intro (@tr_idx) (@tr_idxS)) (@tr_extract)) (And.intro (@tr_append) (@tr_len))) (And.intro (And.intro (And.intro (@tr_call) (@tr_callv)) (@tr_pf)) (And.intro (@tr_hf) (@tr_slA)))))
theorem sXs_n(T:Env):sXs T []=[]:=_root_.id rfl
theorem sXs_c(T:Env)(x:Opd)(r:List Opd):sXs T (x::r)=sX T x::sXs T r:=_root_.id rfl
theorem sXO_n(T:Env):sXO T none=none:=_root_.id rfl
theorem sXO_s(T:Env)(x:Opd):sXO T (some x)=some (sX T x):=_root_.id rfl
theorem sXP_n(T:Env):sXP T []=[]:=_root_.id rfl
theorem sXP_c(T:Env)(o n:Nat)(x:Opd)(r:List (Nat×Nat×Opd)):sXP T ((o,n,x)::r)=(o,n,sX T x)::sXP T r:=_root_.id rfl
theorem sA:type_of% (And.intro sW (And.intro sL (And.intro @aw_block (And.intro @sXs_n (And.intro @sXs_c (And.intro @sXO_n (And.intro @sXO_s (And.intro @sXP_n @sXP_c)))))))):=And.intro sW (And.intro sL (And.intro @aw_block (And.intro @sXs_n (And.intro @sXs_c (And.intro @sXO_n (And.intro @sXO_s (And.intro @sXP_n @sXP_c)))))))
end Go.Abs.S
namespace Go.Abs.S
open Go.Abs
theorem wrap_u(k:IntKind)(hk:k=.u8∨k=.u16∨k=.u32∨k=.u64){a:Nat}(h:a<2 ^ k.bits):k.wrap (a:Int)=a:=by
 rcases hk with rfl | rfl | rfl | rfl
 ·rw[IntKind.wrap_u8]; simp only[IntKind.bits]at h; omega
 ·rw[IntKind.wrap_u16]; simp only[IntKind.bits]at h; omega
 ·rw[IntKind.wrap_u32]; simp only[IntKind.bits]at h; omega
 ·rw[IntKind.wrap_u64]; simp only[IntKind.bits]at h; omega
theorem wrap_um(k:IntKind)(hk:k=.u8∨k=.u16∨k=.u32∨k=.u64)(a:Nat):k.wrap (a:Int)=((a % 2 ^ k.bits:Nat):Int):=by
 rcases hk with rfl | rfl | rfl | rfl
 ·rw[IntKind.wrap_u8]; simp only[IntKind.bits]; omega
 ·rw[IntKind.wrap_u16]; simp only[IntKind.bits]; omega
 ·rw[IntKind.wrap_u32]; simp only[IntKind.bits]; omega
 ·rw[IntKind.wrap_u64]; simp only[IntKind.bits]; omega
theorem bin_xorU(k:IntKind)(hk:k=.u8∨k=.u16∨k=.u32∨k=.u64){a b:Nat}(ha:a<2 ^ k.bits)(hb:b<2 ^ k.bits):aBin .xor (.int k (a:Int)) (.int k (b:Int))=some (.int k ((a ^^^ b:Nat):Int)):=by
 have e:(BitVec.ofInt k.bits (a:Int) ^^^ BitVec.ofInt k.bits (b:Int)).toNat=a ^^^ b:=by
  rw[BitVec.toNat_xor,ofInt_nat,ofInt_nat,Nat.mod_eq_of_lt ha,Nat.mod_eq_of_lt hb]
 simp only[aBin,isShift,cond_false,if_true,aIntF_eq,aInt,e]
 rw[wrap_u k hk (Nat.xor_lt_two_pow ha hb)]
theorem bin_shlU(k k':IntKind)(hk:k=.u8∨k=.u16∨k=.u32∨k=.u64)(a:Nat){b:Nat}(hb:b≤k.bits):aBin .shl (.int k (a:Int)) (.int k' (b:Int))=some (.int k ((a*2 ^ b % 2 ^ k.bits:Nat):Int)):=by
 rw[bin_shl,Nat.min_eq_left hb]
 have e2:(a:Int)*2 ^ b=((a*2 ^ b:Nat):Int):=by simp
 rw[e2,wrap_um k hk]
end Go.Abs.S
namespace Go.Abs.S
open Go.Abs
def cutP:List Nat→ACode→ACode
 | [],c=>hold c
 | 0::p,.seq a b=>.seq (cutP p a) b
 | 1::p,.seq a b=>.seq a (cutP p b)
 | 2::p,.block i c=>.block i (cutP p c)
 | 3::p,.loop c=>.loop (cutP p c)
 | 4::p,.cond x a b=>.cond x (cutP p a) b
 | 5::p,.cond x a b=>.cond x a (cutP p b)
 | _,c=>c
def restP:List Nat→ACode→ACode
 | [],c=>c
 | 0::p,.seq a _=>restP p a
 | 1::p,.seq _ b=>restP p b
 | 2::p,.block _ c=>restP p c
 | 3::p,.loop c=>restP p c
 | 4::p,.cond _ a _=>restP p a
 | 5::p,.cond _ _ b=>restP p b
 | _,c=>c
theorem cutP_eq(p:List Nat):∀c:ACode,cutP p c=c:=by
 induction p with
 | nil=>intro c; rfl
 | cons k p ih=>
  intro c
  unfold cutP
  split <;> first | rfl | (rename_i h; injection h with _ hp; subst hp; rw[ih])
theorem cutP_nil(c:ACode):cutP [] c=hold c:=_root_.id rfl
theorem cutP_0(p:List Nat)(a b:ACode):cutP (0::p) (.seq a b)=.seq (cutP p a) b:=_root_.id rfl
theorem cutP_1(p:List Nat)(a b:ACode):cutP (1::p) (.seq a b)=.seq a (cutP p b):=_root_.id rfl
theorem cutP_2(p:List Nat)(i:Nat)(c:ACode):cutP (2::p) (.block i c)=.block i (cutP p c):=_root_.id rfl
theorem cutP_3(p:List Nat)(c:ACode):cutP (3::p) (.loop c)=.loop (cutP p c):=_root_.id rfl
theorem cutP_4(p:List Nat)(x:Opd)(a b:ACode):cutP (4::p) (.cond x a b)=.cond x (cutP p a) b:=_root_.id rfl
theorem cutP_5(p:List Nat)(x:Opd)(a b:ACode):cutP (5::p) (.cond x a b)=.cond x a (cutP p b):=_root_.id rfl
theorem wp_cutP{C:CS}{c:ACode}{Q:Post}{T:Env}{H:AHeap}(p:List Nat)(h:wp C (cutP p c) Q T H):wp C c Q T H:=by rwa [cutP_eq]at h
theorem sC:type_of% (And.intro @cutP_nil (And.intro @cutP_0 (And.intro @cutP_1 (And.intro @cutP_2 (And.intro @cutP_3 (And.intro @cutP_4 @cutP_5)))))):=And.intro @cutP_nil (And.intro @cutP_0 (And.intro @cutP_1 (And.intro @cutP_2 (And.intro @cutP_3 (And.intro @cutP_4 @cutP_5)))))
end Go.Abs.S
namespace Go.Abs.S
open Go.Abs
theorem bnd_lh{len c lo hi:Nat}(h1:lo≤hi)(h2:hi≤c):aBnd len c (some (.int .i64 (lo:Int))) (some (.int .i64 (hi:Int))) none=some (lo,hi,none):=by
 show (match bdO (some (AVal.int .i64 (Int.ofNat hi))) c len with | some h=>(match bdO (some (AVal.int .i64 (Int.ofNat lo))) h 0 with | some l=>some (l,h,none) | none=>none) | none=>none)=_
 simp only[bdO,bd,Nat.ble_eq_true_of_le h2,Nat.ble_eq_true_of_le h1,cond_true]
end Go.Abs.S
namespace Go.Abs.S
open Go.Abs
def LinM(m:Nat)(H:AHeap)(s:AVal)(L:List AVal)(k:Nat):Prop:=
 (s=nilS∧L=[]∧k=0)∨∃b C low r,s=.slice (some ⟨b,C.length,0⟩) k r∧(r=.open_ m∨∃cap,r=.known cap∧k≤cap∧C.length=cap*m)∧H.get b=some (.cells C low false)∧low≤C.length∧C.take (k*m)=L∧L.length=k*m∧k*m≤C.length∧b<H.next
theorem LinM.blk{m k:Nat}{H:AHeap}{s:AVal}{L:List AVal}(h:LinM m H s L k):Blk s (·<H.next):=by
 rcases h with⟨rfl,_⟩ | ⟨b,C,low,r,rfl,h2,h3,h4,h5,h6,h7,h8⟩
 ·exact blk_nil _
 ·exact blk_some h8
theorem LinM.built{m k:Nat}(H:AHeap){xs:List AVal}(hx:xs.length=k*m):LinM m (H.push (.cells xs 0 false)) (.slice (some ⟨H.next,xs.length,0⟩) k (.known k)) xs k:=
 .inr ⟨H.next,xs,0,.known k,rfl,.inr ⟨k,rfl,Nat.le_refl _,hx⟩,by rw[AHeap.get_push]; exact if_pos rfl,Nat.zero_le _,by rw[← hx,List.take_length],hx,om,Nat.lt_succ_self _⟩
theorem LinM.many{m k j:Nat}{H:AHeap}{s x:AVal}{L xs:List AVal}(h:LinM m H s L k)(hs:aSrc m H x=some (j,xs))(hx:xs.length=j*m)(ho:xs.all AVal.one=true)(hm:0<m){bytes:Nat}(hb:2*(k+j)*bytes≤281474976710656)(hb1:0<bytes) :
  ∃s' H',aAppend m bytes H s x=some (s',H')∧LinM m H' s' (L++xs) (k+j)∧H.next≤H'.next∧(∀P,Blk s P→Blk s' fun b=>P b∨H.next≤b)∧∀c,c<H.next→Blk s (c≠·)→H'.get c=H.get c:=by
 by_cases hj:j=0
 ·subst hj
  have hxs:xs=[]:=List.length_eq_zero_iff.1 om
  subst hxs
  rw[List.append_nil,Nat.add_zero]
  refine⟨s,H,?_,h,Nat.le_refl _,fun P hP=>hP.mono fun b hb=>.inl hb,fun _ _ _=>rfl⟩
  simp only[aAppend,hs,show Nat.beq 0 0=true from rfl,cond_true]
  rcases h with⟨rfl,_⟩ | ⟨b,C,low,r,rfl,_⟩ <;> rfl
 have hxl:0<xs.length:=by rw[hx]; exact Nat.mul_pos om hm
 have hlen:k+j≤9223372036854775807:=by
  have:2*(k+j)≤2*(k+j)*bytes:=Nat.le_mul_of_pos_right _ hb1
  omega
 have hlt:Nat.blt 0 m=true:=by simpa[Nat.blt_eq] using hm
 have e0:Nat.beq j 0=false:=by rw[beq_dec]; exact decide_eq_false hj
 have c1:∀q,q=k→(Nat.blt 0 m&&(Nat.ble ((2*(q+j)+0)*bytes) 281474976710656&&(Nat.ble (q+j) 9223372036854775807&&(Nat.beq xs.length (j*m)&&xs.all AVal.one))))=true:=by
  intro q hq
  subst hq
  simp only[Nat.add_zero,Nat.ble_eq_true_of_le hb,Nat.ble_eq_true_of_le hlen,hx,Nat.beq_refl,ho,hlt,Bool.and_self]
 have hadd:(k+j)*m=k*m+j*m:=Nat.add_mul _ _ _
 rcases h with⟨rfl,rfl,rfl⟩ | ⟨b,C,low,r,rfl,h2,h3,h4,h5,h6,h7,h8⟩
 ·refine⟨.slice (some ⟨H.next,xs.length,0⟩) j (.open_ m),H.push (.cells xs 0 false),?_,.inr ⟨H.next,xs,0,.open_ m,by simp,.inl rfl,by rw[AHeap.get_push]; exact if_pos rfl,Nat.zero_le _,by rw[Nat.zero_add,← hx,List.take_length]; rfl,by simp[hx],by rw[Nat.zero_add]; omega,Nat.lt_succ_self _⟩,by simp[AHeap.push],fun P _=>blk_some (.inr rL),fun c hc _=>get_push_lt hc⟩
  simp only[aAppend,hs,e0,cond_false,nilS]
  rw[c1 0 rfl,cond_true]
 ·have hw:(k+j)*m≤C.length→wrCells H ⟨b,C.length,0+k*m⟩ xs=some (H.set b (.cells (C.take (k*m)++(xs++C.drop (k*m+j*m))) C.length false)):=by
   intro hle
   unfold wrCells
   simp only[h3,Nat.ble_eq_true_of_le h4,Nat.beq_refl,Nat.zero_add,hx,Nat.ble_eq_true_of_le (show k*m+j*m≤C.length by omega),ho,Bool.and_self,cond_true]
  have hl2:(k+j)*m≤C.length→(C.take (k*m)++(xs++C.drop (k*m+j*m))).length=C.length:=by
   intro hle; simp[hx]; omega
  have hL2:(k+j)*m≤C.length→(C.take (k*m)++(xs++C.drop (k*m+j*m))).take ((k+j)*m)=L++xs:=by
   intro hle
   have e:(k+j)*m=(L++xs).length:=by rw[lA,h6,hx,hadd]
   rw[h5,← List.append_assoc,e,List.take_left]
  have hLl:(L++xs).length=(k+j)*m:=by rw[lA,h6,hx,hadd]
  have hr:rdCells H ⟨b,C.length,0⟩ (k*m)=some L:=by
   have:=rd_row (H:=H) ⟨low,h3,h4⟩ rfl (i:=0) (k:=k*m) om
   rw[this,List.drop_zero,h5]
  rcases h2 with rfl | ⟨cap,rfl,hkc,hcap⟩
  ·by_cases hin:(k+j)*m≤C.length
   ·refine⟨.slice (some ⟨b,C.length,0⟩) (k+j) (.open_ m),H.set b (.cells (C.take (k*m)++(xs++C.drop (k*m+j*m))) C.length false),?_,.inr ⟨b,C.take (k*m)++(xs++C.drop (k*m+j*m)),C.length,.open_ m,by rw[hl2 hin],.inl rfl,by rw[AHeap.get_set,if_pos rfl],by rw[hl2 hin]; exact Nat.le_refl _,hL2 hin,hLl,by rw[hl2 hin]; exact hin,h8⟩,Nat.le_refl _,fun P hP=>(have q:P b:=hP _ _ _ rfl; blk_some (.inl q)),fun c hc hd=>by rw[AHeap.get_set,if_neg (hd _ _ _ rfl)]⟩
    simp only[aAppend,hs,e0,cond_false]
    rw[c1 k rfl,cond_true]
    simp only[Nat.beq_refl,cond_true,Nat.ble_eq_true_of_le (show 0+(k+j)*m≤C.length by omega),hw hin]
   ·have hgrow:growCells H ⟨b,C.length,0⟩ (0+k*m) xs=some (H.set b (.cells (C.take (0+k*m)++xs) (bif Nat.beq (0+k*m) C.length then low else 0+k*m+xs.length) false)):=by
     unfold growCells
     simp only[h3,Nat.ble_eq_true_of_le h4,Nat.beq_refl,Nat.ble_eq_true_of_le (show 0+k*m≤C.length by omega),Nat.ble_eq_true_of_le (Nat.zero_le _),Nat.ble_eq_true_of_le (show C.length+1≤0+k*m+xs.length by omega),ho,Bool.and_self,cond_true]
    have ei:Nat.ble (0+(k+j)*m) C.length=false:=by rw[ble_dec]; exact decide_eq_false om
    have eC:C.take (0+k*m)++xs=L++xs:=by rw[Nat.zero_add,h5]
    have eN:0+k*m+xs.length=(L++xs).length:=by rw[hLl,hx,hadd,Nat.zero_add]
    rw[eC]at hgrow
    refine⟨.slice (some ⟨b,0+k*m+xs.length,0⟩) (k+j) (.open_ m),H.set b (.cells (L++xs) (bif Nat.beq (0+k*m) C.length then low else 0+k*m+xs.length) false),?_,.inr ⟨b,L++xs,_,.open_ m,by rw[eN],.inl rfl,by rw[AHeap.get_set,if_pos rfl],?_,by rw[← hLl,List.take_length],hLl,om,h8⟩,Nat.le_refl _,fun P hP=>(have q:P b:=hP _ _ _ rfl; blk_some (.inl q)),fun c hc hd=>by rw[AHeap.get_set,if_neg (hd _ _ _ rfl)]⟩
    ·simp only[aAppend,hs,e0,cond_false]
     rw[c1 k rfl,cond_true]
     simp only[Nat.beq_refl,cond_true,ei,cond_false,hgrow]
    ·rw[← eN]
     cases Nat.beq (0+k*m) C.length
     ·exact Nat.le_refl _
     ·simp only[cond_true]; omega
  ·by_cases hin:k+j≤cap
   ·have hle:(k+j)*m≤C.length:=by rw[hcap]; exact Nat.mul_le_mul_right _ hin
    refine⟨.slice (some ⟨b,C.length,0⟩) (k+j) (.known cap),H.set b (.cells (C.take (k*m)++(xs++C.drop (k*m+j*m))) C.length false),?_,.inr ⟨b,C.take (k*m)++(xs++C.drop (k*m+j*m)),C.length,.known cap,by rw[hl2 hle],.inr ⟨cap,rfl,hin,by rw[hl2 hle]; exact hcap⟩,by rw[AHeap.get_set,if_pos rfl],by rw[hl2 hle]; exact Nat.le_refl _,hL2 hle,hLl,by rw[hl2 hle]; exact hle,h8⟩,Nat.le_refl _,fun P hP=>(have q:P b:=hP _ _ _ rfl; blk_some (.inl q)),fun c hc hd=>by rw[AHeap.get_set,if_neg (hd _ _ _ rfl)]⟩
    simp only[aAppend,hs,e0,cond_false]
    rw[c1 k rfl,cond_true]
    simp only[Nat.ble_eq_true_of_le hin,cond_true,hw hle]
   ·have ei:Nat.ble (k+j) cap=false:=by rw[ble_dec]; exact decide_eq_false hin
    refine⟨.slice (some ⟨H.next,(L++xs).length,0⟩) (k+j) (.open_ m),H.push (.cells (L++xs) 0 false),?_,.inr ⟨H.next,L++xs,0,.open_ m,rfl,.inl rfl,by rw[AHeap.get_push]; exact if_pos rfl,Nat.zero_le _,by rw[← hLl,List.take_length],hLl,om,Nat.lt_succ_self _⟩,by simp[AHeap.push],fun P _=>blk_some (.inr rL),fun c hc _=>get_push_lt hc⟩
    simp only[aAppend,hs,e0,cond_false]
    rw[c1 k rfl,cond_true]
    simp only[ei,cond_false,hr]
end Go.Abs.S
namespace Go.Abs.S
open Go.Abs
theorem aw_drawN{C:CS}{T:Env}{H:AHeap}{Q:Post}{l:List AOper}{chk:List (List Nat)}(h:wTr C (claims H.next l) T (reserves H l) fun ss T' H'=>wCk (reserves H l::ss.map (·.2)) (claims H.next l) chk ss T∧Q .normal T' H'):wp C (.draw l chk) Q T H:=h
theorem tr_claim{C:CS}{T:Env}{H:AHeap}{K:List (AVal×AHeap)→Env→AHeap→Prop}{d:Option Nat}{r:List AOper}(b:Nat)(z:List AVal)(s:Option (Nat×Nat)):wTr C (⟨d,.claim b z s,none⟩::r) T H K=OptKT (aClaim H b z s) C r T d H K:=_root_.id rfl
theorem claim_ok{H:AHeap}{b:Nat}{z:List AVal}(h:H.get b=some (.cells z 0 false))(hz:aeqs z z=true):aClaim H b z none=some (cellR b z.length 0):=by
 unfold aClaim
 simp only[h,hz,isMp,Bool.not_false,Bool.and_self,cond_true]; rfl
theorem ckP_claim{T:Env}{d:Option Nat}(hs:List AHeap)(p:Nat)(q:List Nat)(b:Nat)(z:List AVal)(s:Option (Nat×Nat))(g:Option (Nat×Bool))(v:AVal):ckP hs (p::q) T ⟨d,.claim b z s,g⟩ v=((∃Hp,hs[p]?=some Hp∧(sG T g=true→∃u,aClaim Hp b z s=some u∧aeq u v=true))∧ckP hs q T ⟨d,.claim b z s,g⟩ v):=by
 simp[ckP,wLd]
theorem aeq_cellR(b n i:Nat):aeq (cellR b n i) (cellR b n i)=true:=by simp[aeq,cellR]
end Go.Abs.S
namespace Go.Abs.S
open Go.Abs Go.WideShapes Go.ChangeShapes
variable {H:Type} {enc:TypeId×Value→H}
end Go.Abs.S
namespace Go.Abs.S
open Go.Abs Go.WideShapes Go.ChangeShapes
variable {H:Type} {enc:TypeId×Value→H}
end Go.Abs.S
namespace Go.Proofs.Tc
open Go.Abs Go.Abs.S
def SlK(P:Nat→Prop)(H:AHeap)(m:Nat)(v:AVal)(k:Nat)(C:List AVal):Prop:=
 (isE v=true∧k=0∧C=[])∨∃a r,v=.slice (some a) k r∧P a.b∧rdCells H a (m*k)=some C
theorem SlK.mono{P Q:Nat→Prop}{H H':AHeap}{m k:Nat}{v:AVal}{C:List AVal}(h:SlK P H m v k C)(q:∀b,P b→Q b∧H'.get b=H.get b):SlK Q H' m v k C:=by
 rcases h with h | ⟨a,r,h1,h2,h3⟩
 ·exact .inl h
 ·exact .inr ⟨a,r,h1,(q _ h2).1,by rw[rd_congr (q _ h2).2]; exact h3⟩
theorem SlK.one{P:Nat→Prop}{H:AHeap}{m k:Nat}{v:AVal}{C:List AVal}(h:SlK P H m v k C):v.one=true:=by
 rcases h with⟨h,_⟩ | ⟨a,r,rfl,_⟩
 ·exact isE_one h
 ·rfl
theorem SlK.len{P:Nat→Prop}{H:AHeap}{m k:Nat}{v:AVal}{C:List AVal}(h:SlK P H m v k C):aLenK false v=some (.int .i64 (k:Int)):=by
 rcases h with⟨h,rfl,_⟩ | ⟨a,r,rfl,_⟩
 ·rcases isE_cases h with rfl | ⟨a,rfl⟩ <;> rfl
 ·rfl
theorem SlK.nil(P:Nat→Prop)(H:AHeap)(m:Nat):SlK P H m nilS 0 []:=.inl ⟨rfl,rfl,rfl⟩
theorem SlK.app{P:Nat→Prop}{H:AHeap}{m k:Nat}{v:AVal}{C:List AVal}(h:AppN m 0 H v C k)(hb:Blk v P):SlK P H m v k C:=by
 rcases h with⟨rfl,rfl,rfl⟩ | ⟨b,low,rfl,h2,h3,h4,h5,h6,h7⟩
 ·exact .nil P H m
 ·refine .inr ⟨_,_,rfl,hb _ _ _ rfl,?_⟩
  rw[← h2]
  exact rd_whole h5 h6
theorem SlK.row{P:Nat→Prop}{H:AHeap}{m k n:Nat}{b:Nat}{r:Room}{C:List AVal}(h:Row H b C)(hn:C.length=n)(hk:m*k=n)(hp:P b):SlK P H m (.slice (some ⟨b,n,0⟩) k r) k C:=by
 refine .inr ⟨_,_,rfl,hp,?_⟩
 obtain⟨low,h1,h2⟩:=h
 rw[hk,← hn]
 exact rd_whole h1 h2
def placeK(m:Nat)(v:AVal)(i:Nat):AVal:=match v with
 | .slice (some a) _ _=>.ptr (some ⟨a.b,a.lim,a.o+i*m⟩)
 | _=>undefA
theorem SlK.idx{P:Nat→Prop}{H:AHeap}{m k:Nat}{v:AVal}{C:List AVal}(h:SlK P H m v k C){i:Nat}(hi:i<k):aIdxA m v (.int .i64 (i:Int))=some (placeK m v i):=by
 rcases h with⟨_,rfl,_⟩ | ⟨a,r,rfl,_⟩
 ·omega
 ·show (bif Nat.blt i k then some (AVal.ptr (some ⟨a.b,a.lim,a.o+i*m⟩)) else none)=_
  rw[show Nat.blt i k=true by simpa[Nat.blt_eq] using hi]; rfl
theorem rd_part{H:AHeap}{a:Ad}{n i j:Nat}{C:List AVal}(h:rdCells H a n=some C)(hij:i+j≤n):rdCells H ⟨a.b,a.lim,a.o+i⟩ j=some ((C.drop i).take j):=by
 obtain⟨l,low,ro,mk,h1,h2,h3,h4,rfl⟩:=rd_spec h
 unfold rdCells
 simp only[h1,Nat.ble_eq_true_of_le h2,Nat.ble_eq_true_of_le h3,Nat.ble_eq_true_of_le (show a.o+i+j≤a.lim by omega),Bool.and_self,cond_true]
 rw[List.drop_take,List.take_take,Nat.min_eq_left om,List.drop_drop]
theorem SlK.nilchk{P:Nat→Prop}{H:AHeap}{m k:Nat}{v:AVal}{C:List AVal}(h:SlK P H m v k C){i:Nat}(hi:i<k):aNilChk (placeK m v i)=some (placeK m v i):=by
 rcases h with⟨_,rfl,_⟩ | ⟨a,r,rfl,_⟩
 ·omega
 ·rfl
theorem SlK.load{P:Nat→Prop}{H:AHeap}{m k:Nat}{v:AVal}{C:List AVal}(h:SlK P H m v k C){i:Nat}(hi:i<k):oLoad true m H (placeK m v i)=some (.agg ((C.drop (i*m)).take m)):=by
 rcases h with⟨_,rfl,_⟩ | ⟨a,r,rfl,_,h3⟩
 ·omega
 ·have hm:i*m+m≤m*k:=by
   have:(i+1)*m≤k*m:=Nat.mul_le_mul_right m hi
   rw[Nat.mul_comm m k]; rw[Nat.add_mul,Nat.one_mul]at this; exact this
  simp only[oLoad,placeK,rd_part h3 hm,cond_true]
theorem SlK.aeq{P:Nat→Prop}{H:AHeap}{m k:Nat}{v:AVal}{C:List AVal}(h:SlK P H m v k C):aeq v v=true:=by
 rcases h with⟨h,_⟩ | ⟨a,r,rfl,_⟩
 ·rcases isE_cases h with rfl | ⟨a,rfl⟩
  ·exact aeq_nilS
  ·simp[Go.Abs.aeq]
 ·cases r <;> simp[Go.Abs.aeq]
theorem flat_len{α:Type}{f:α→List AVal}{m:Nat}(hf:∀x,(f x).length=m):∀l:List α,(l.flatMap f).length=l.length*m
 | []=>by simp
 | x::l=>by rw[List.flatMap_cons,lA,hf,flat_len hf l,List.length_cons,Nat.succ_mul,Nat.add_comm]
theorem flat_at{α:Type}{f:α→List AVal}{m:Nat}(hf:∀x,(f x).length=m):∀{l:List α} {i:Nat} {x:α},l[i]?=some x→((l.flatMap f).drop (i*m)).take m=f x
 | [],i,x,h=>by simp at h
 | y::l,0,x,h=>by
  simp only[List.getElem?_cons_zero,sJ]at h
  subst h
  rw[Nat.zero_mul,List.drop_zero,List.flatMap_cons,List.take_append_of_le_length (by rw[hf]; exact Nat.le_refl _),List.take_of_length_le (by rw[hf]; exact Nat.le_refl _)]
 | y::l,i+1,x,h=>by
  simp only[List.getElem?_cons_succ]at h
  rw[List.flatMap_cons,show (i+1)*m=(f y).length+i*m by rw[hf,Nat.succ_mul,Nat.add_comm],← List.drop_drop,List.drop_left]
  exact flat_at hf h
theorem SlK.loadE{α:Type}{f:α→List AVal}{P:Nat→Prop}{H:AHeap}{m:Nat}{v:AVal}{l:List α}(h:SlK P H m v l.length (l.flatMap f))(hf:∀x,(f x).length=m){i:Nat}{x:α}(hi:l[i]?=some x):oLoad true m H (placeK m v i)=some (.agg (f x)):=by
 rw[h.load (List.getElem?_eq_some_iff.1 hi).1,flat_at hf hi]
theorem all_take{α:Type}{p:α→Bool}{l:List α}{i:Nat}{x:α}(hi:l[i]?=some x)(h:(l.take i).all p=true):(l.take (i+1)).all p=p x:=by
 rw[List.take_add_one,hi,List.all_append,h]; simp
theorem drop_cons{α:Type}{l:List α}{i:Nat}{x:α}(h:l[i]?=some x):l.drop i=x::l.drop (i+1):=by
 obtain⟨hl,he⟩:=List.getElem?_eq_some_iff.1 h
 rw[List.drop_eq_getElem_cons hl,he]
theorem all_no{α:Type}{p:α→Bool}{l:List α}{i:Nat}{x:α}(hi:l[i]?=some x)(h:p x=false):l.all p=false:=by
 have:=List.take_append_drop i l
 rw[← this,List.all_append,drop_cons hi,List.all_cons,h,Bool.false_and,Bool.and_false]
open Go.Abs Go.Abs.S
def J64(z:Int):Prop:=-9223372036854775808≤z∧z≤9223372036854775807
def fOf(n:Int):Int:=if 2147483647<n then 9223372036854775807 else if n < -2147483648 then -9223372036854775808 else n*4294967296
def fFloor(x:Int):Int:=x / 4294967296
def fAdd(a b:Int):Int:=if 0<b∧9223372036854775807-b<a then 9223372036854775807 else if b<0∧a < -9223372036854775808-b then -9223372036854775808 else a+b
def fSub(a b:Int):Int:=if b<0∧9223372036854775807+b<a then 9223372036854775807 else if 0<b∧a < -9223372036854775808+b then -9223372036854775808 else a-b
def fNeg(a:Int):Int:=if a=-9223372036854775808 then 9223372036854775807 else -a
def told(same:Bool)(hi lo:Nat)(rest:Bool):Int:=
 if same then (if hi≠0∨9223372036854775807<lo then 9223372036854775807 else (lo:Int))
 else if hi≠0∨9223372036854775807<lo then -9223372036854775808 else if rest then -(lo:Int)-1 else -(lo:Int)
def sames(a b:Int):Bool:=decide (a<0)==decide (b<0)
def fMul(a b:Int):Int:=told (sames a b) (a.natAbs*b.natAbs / 18446744073709551616 / 4294967296) (a.natAbs*b.natAbs / 4294967296 % 18446744073709551616) (decide (a.natAbs*b.natAbs % 4294967296≠0))
def corr(q r un yn1 yn0:Nat):Nat:=
 if 4294967296≤q∨4294967296*r+un<q*yn0 then
  if 4294967296≤r+yn1 then q-1
  else if 4294967296≤q-1∨4294967296*(r+yn1)+un<(q-1)*yn0 then q-2 else q-1
 else q
def W(x:Nat):Nat:=x % 18446744073709551616
def Wsub(x y:Nat):Nat:=(x+18446744073709551616-y) % 18446744073709551616
def shOf(y:Nat):Nat:=63-Nat.log2 y
def d64(hi lo y:Nat):Nat×Nat:=
 if hi=0 then (lo / y,lo % y) else
 let s:=shOf y
 let y1:=y*2 ^ s
 let yn1:=y1 / 4294967296
 let yn0:=y1 % 4294967296
 let un32:=hi*2 ^ s+lo / 2 ^ (64-s)
 let un10:=lo*2 ^ s % 18446744073709551616
 let un1:=un10 / 4294967296
 let un0:=un10 % 4294967296
 let q1:=corr (un32 / yn1) (un32 % yn1) un1 yn1 yn0
 let un21:=Wsub (W (W (un32*4294967296)+un1)) (W (q1*y1))
 let q0:=corr (un21 / yn1) (un21 % yn1) un0 yn1 yn0
 (W (W (q1*4294967296)+q0),Wsub (W (W (un21*4294967296)+un0)) (W (q0*y1)) / 2 ^ s)
def fDiv(a b:Int):Int:=if b=0 then (if 0<a then 9223372036854775807 else if a<0 then -9223372036854775808 else 0) else
 let d:=d64 (a.natAbs / 4294967296 % b.natAbs) (a.natAbs*4294967296 % 18446744073709551616) b.natAbs
 told (sames a b) (a.natAbs / 4294967296 / b.natAbs) d.1 (decide (d.2≠0))
def sqGo(n:Nat):Nat→Nat→Nat
 | 0,r=>r
 | k+1,r=>sqGo n k (if (r+2 ^ k)*(r+2 ^ k)≤n then r+2 ^ k else r)
def fSqrt(a:Int):Int:=if a<1 then 0 else (sqGo (a.toNat*4294967296) 48 0:Nat)
def fSin(a:Int):Int:=
 let r:=a.tmod 26986075409
 let r:=if r<0 then r+26986075409 else r
 let r:=if 13493037704<r then r-26986075409 else r
 let r:=if 6746518852<r then 13493037704-r else if r < -6746518852 then -13493037704-r else r
 let q:=fMul r r
 let s:=4294967296-q.tdiv 72
 let s:=4294967296-(fMul q s).tdiv 42
 let s:=4294967296-(fMul q s).tdiv 20
 let s:=4294967296-(fMul q s).tdiv 6
 min (max (fMul r s) (-4294967296)) 4294967296
def fCos(a:Int):Int:=fSin (fAdd a 6746518852)
structure V where
 x:Int
 y:Int
 z:Int
deriving DecidableEq
def V.cells(v:V):List AVal:=[.int .i64 v.x,.int .i64 v.y,.int .i64 v.z]
def V.j(v:V):Prop:=J64 v.x∧J64 v.y∧J64 v.z
def V0:V:=⟨0,0,0⟩
def vmap(f:Int→Int→Int)(a b:V):V:=⟨f a.x b.x,f a.y b.y,f a.z b.z⟩
def vAdd:=vmap fAdd
def vSub:=vmap fSub
def vMul:=vmap fMul
def vNeg(a:V):V:=⟨fNeg a.x,fNeg a.y,fNeg a.z⟩
def vScale(a:V)(s:Int):V:=⟨fMul a.x s,fMul a.y s,fMul a.z s⟩
def vOver(a:V)(s:Int):V:=⟨fDiv a.x s,fDiv a.y s,fDiv a.z s⟩
def vDot(a b:V):Int:=fAdd (fAdd (fMul a.x b.x) (fMul a.y b.y)) (fMul a.z b.z)
def vCross(a b:V):V:=⟨fSub (fMul a.y b.z) (fMul a.z b.y),fSub (fMul a.z b.x) (fMul a.x b.z),fSub (fMul a.x b.y) (fMul a.y b.x)⟩
def vLen(a:V):Int:=fSqrt (vDot a a)
def vUnit(a:V):V:=if vLen a=0 then V0 else vOver a (vLen a)
def vBend(d n:V):V:=let x:=vDot d n; vSub d (vScale n (fAdd x x))
theorem fOf_j (n : Int) : J64 (fOf n) := by unfold fOf J64; split; · omega
                                            split <;> omega
theorem fAdd_j{a b:Int}(ha:J64 a)(hb:J64 b):J64 (fAdd a b):=by
 unfold fAdd; unfold J64 at *; split; · omega
 split <;> omega
theorem fSub_j{a b:Int}(ha:J64 a)(hb:J64 b):J64 (fSub a b):=by
 unfold fSub; unfold J64 at *; split; · omega
 split <;> omega
theorem fNeg_j{a:Int}(ha:J64 a):J64 (fNeg a):=by unfold fNeg; unfold J64 at *; split <;> omega
theorem told_j(s:Bool)(hi lo:Nat)(r:Bool):J64 (told s hi lo r):=by
 unfold told J64
 repeat' split
 all_goals omega
theorem fMul_j(a b:Int):J64 (fMul a b):=told_j ..
theorem fDiv_j(a b:Int):J64 (fDiv a b):=by
 unfold fDiv
 split
 ·unfold J64; split; · omega
  split <;> omega
 ·exact told_j ..
theorem sqGo_le(n:Nat):∀(k r:Nat),sqGo n k r<r+2 ^ k
 | 0,r=>by simp[sqGo]
 | k+1,r=>by
  rw[sqGo]
  have:2 ^ (k+1)=2 ^ k+2 ^ k:=by rw[Nat.pow_succ]; omega
  have hp:0<2 ^ k:=Nat.pow_pos dD
  by_cases hc:(r+2 ^ k)*(r+2 ^ k)≤n
  ·rw[if_pos hc]; have:=sqGo_le n k (r+2 ^ k); omega
  ·rw[if_neg hc]; have:=sqGo_le n k r; omega
theorem fSqrt_j(a:Int):J64 (fSqrt a)∧0≤fSqrt a:=by
 unfold fSqrt J64
 split
 ·omega
 ·have:=sqGo_le (a.toNat*4294967296) 48 0
  omega
theorem fSin_j(a:Int):J64 (fSin a):=by
 unfold fSin J64
 simp only
 omega
theorem fCos_j(a:Int):J64 (fCos a):=fSin_j _
theorem V0_j:V0.j:=⟨⟨by decide,by decide⟩,⟨by decide,by decide⟩,by decide,by decide⟩
theorem vAdd_j{a b:V}(ha:a.j)(hb:b.j):(vAdd a b).j:=⟨fAdd_j ha.1 hb.1,fAdd_j ha.2.1 hb.2.1,fAdd_j ha.2.2 hb.2.2⟩
theorem vSub_j{a b:V}(ha:a.j)(hb:b.j):(vSub a b).j:=⟨fSub_j ha.1 hb.1,fSub_j ha.2.1 hb.2.1,fSub_j ha.2.2 hb.2.2⟩
theorem vMul_j(a b:V):(vMul a b).j:=⟨fMul_j ..,fMul_j ..,fMul_j ..⟩
theorem vNeg_j{a:V}(ha:a.j):(vNeg a).j:=⟨fNeg_j ha.1,fNeg_j ha.2.1,fNeg_j ha.2.2⟩
theorem vScale_j(a:V)(s:Int):(vScale a s).j:=⟨fMul_j ..,fMul_j ..,fMul_j ..⟩
theorem vOver_j(a:V)(s:Int):(vOver a s).j:=⟨fDiv_j ..,fDiv_j ..,fDiv_j ..⟩
theorem vDot_j(a b:V):J64 (vDot a b):=fAdd_j (fAdd_j (fMul_j ..) (fMul_j ..)) (fMul_j ..)
theorem vCross_j(a b:V):(vCross a b).j:=⟨fSub_j (fMul_j ..) (fMul_j ..),fSub_j (fMul_j ..) (fMul_j ..),fSub_j (fMul_j ..) (fMul_j ..)⟩
theorem vUnit_j(a:V):(vUnit a).j:=by
 unfold vUnit; split
 ·exact V0_j
 ·exact vOver_j ..
theorem vBend_j{d n:V}(hd:d.j):(vBend d n).j:=vSub_j hd (vScale_j ..)
open Go.Abs Go.Abs.S
structure Ray where
 o:V
 d:V
deriving DecidableEq
def Ray.cells(r:Ray):List AVal:=r.o.cells++r.d.cells
def Ray.j(r:Ray):Prop:=r.o.j∧r.d.j
structure Hit where
 t:Int
 i:Int
 u:Int
 v:Int
deriving DecidableEq
def Hit.cells(h:Hit):List AVal:=[.int .i64 h.t,.int .i64 h.i,.int .i64 h.u,.int .i64 h.v]
def Hit.j(h:Hit):Prop:=J64 h.t∧J64 h.i∧J64 h.u∧J64 h.v
def H0:Hit:=⟨0,0,0,0⟩
def noHit:Hit:=⟨0,-1,0,0⟩
structure Bll where
 c:V
 r:Int
deriving DecidableEq
def Bll.cells(b:Bll):List AVal:=b.c.cells++[.int .i64 b.r]
structure Bx where
 lo:V
 hi:V
deriving DecidableEq
def Bx.cells(b:Bx):List AVal:=b.lo.cells++b.hi.cells
def Bx.j(b:Bx):Prop:=b.lo.j∧b.hi.j
structure Tri where
 a:Int
 b:Int
 c:Int
deriving DecidableEq
def Tri.cells(t:Tri):List AVal:=[.int .i64 t.a,.int .i64 t.b,.int .i64 t.c]
structure Msh where
 pts:List V
 tris:List Tri
 balls:List Bll
def farV(v:V):Prop:=(-4503599627370496≤v.x∧v.x≤4503599627370496)∧(-4503599627370496≤v.y∧v.y≤4503599627370496)∧(-4503599627370496≤v.z∧v.z≤4503599627370496)
instance (v:V):Decidable (farV v):=inferInstanceAs (Decidable (_∧_∧_))
def hasT(n:Nat)(t:Tri):Prop:=(0≤t.a∧t.a<n)∧(0≤t.b∧t.b<n)∧(0≤t.c∧t.c<n)
instance (n:Nat) (t:Tri):Decidable (hasT n t):=inferInstanceAs (Decidable (_∧_∧_))
def ballOk(b:Bll):Prop:=farV b.c∧1≤b.r∧b.r≤4503599627370496
instance (b:Bll):Decidable (ballOk b):=inferInstanceAs (Decidable (_∧_∧_))
def mshOk(m:Msh):Bool:=decide (m.pts.length≤4096)&&(decide (m.tris.length≤4096)&&decide (m.balls.length≤4096-m.tris.length))&&(m.pts.all (farV ·)&&(m.tris.all (hasT m.pts.length ·)&&m.balls.all (ballOk ·)))
def Msh.n(m:Msh):Nat:=m.tris.length+m.balls.length
def side(o d lo hi:Int)(p:Int×Int):Option (Int×Int):=
 if d=0 then (if lo≤o∧o≤hi then some p else none) else
 let x:=fDiv (fSub lo o) d
 let y:=fDiv (fSub hi o) d
 let p:=if d<0 then (max p.1 y,min p.2 x) else (max p.1 x,min p.2 y)
 if p.1≤p.2 then some p else none
def boxF(r:Ray)(b:Bx):Option Int:=
 match side r.o.x r.d.x b.lo.x b.hi.x (0,9223372036854775807) with
 | none=>none
 | some p=>match side r.o.y r.d.y b.lo.y b.hi.y p with
  | none=>none
  | some p=>match side r.o.z r.d.z b.lo.z b.hi.z p with
   | none=>none
   | some p=>some p.1
def triF(r:Ray)(a b c:V):Option Hit:=
 let e:=vSub b a
 let f:=vSub c a
 let p:=vCross r.d f
 let n:=vDot e p
 if n=0 then none else
 let s:=vSub r.o a
 let u:=fDiv (vDot s p) n
 if u<0∨4294967296<u then none else
 let q:=vCross s e
 let v:=fDiv (vDot r.d q) n
 if v<0∨4294967296<fAdd u v then none else
 let t:=fDiv (vDot f q) n
 if t<0 then none else some ⟨t,0,u,v⟩
def ballF(r:Ray)(b:Bll):Option (Int×Int):=
 let g:=vSub r.o b.c
 let a:=vDot r.d r.d
 if a=0 then none else
 let h:=vDot g r.d
 let c:=fSub (vDot g g) (fMul b.r b.r)
 let w:=fSub (fMul h h) (fMul a c)
 if w<0 then none else
 let root:=fSqrt w
 some (fDiv (fSub (fNeg h) root) a,fDiv (fAdd (fNeg h) root) a)
def boxB(b:Bll):Bx:=⟨⟨fSub b.c.x b.r,fSub b.c.y b.r,fSub b.c.z b.r⟩,⟨fAdd b.c.x b.r,fAdd b.c.y b.r,fAdd b.c.z b.r⟩⟩
def boxT(a b c:V):Bx:=⟨⟨min (min a.x b.x) c.x,min (min a.y b.y) c.y,min (min a.z b.z) c.z⟩,⟨max (max a.x b.x) c.x,max (max a.y b.y) c.y,max (max a.z b.z) c.z⟩⟩
def Msh.pt(m:Msh)(i:Int):V:=(m.pts[i.toNat]?).getD V0
def Msh.tri(m:Msh)(i:Nat):V×V×V:=match m.tris[i]? with
 | some t=>(m.pt t.a,m.pt t.b,m.pt t.c)
 | none=>(V0,V0,V0)
def Msh.ball(m:Msh)(i:Nat):Bll:=(m.balls[i]?).getD ⟨V0,0⟩
def boxOf(m:Msh)(i:Nat):Bx:=if i<m.tris.length then (let t:=m.tri i; boxT t.1 t.2.1 t.2.2) else boxB (m.ball (i-m.tris.length))
def shapeF(m:Msh)(i:Nat)(r:Ray)(least:Int):Option Hit:=
 match boxF r (boxOf m i) with
 | none=>none
 | some near=>
  if i<m.tris.length then
   let t:=m.tri i
   match triF r t.1 t.2.1 t.2.2 with
   | none=>none
   | some h=>if max h.t near<least then none else some ⟨max h.t near,i,h.u,h.v⟩
  else match ballF r (m.ball (i-m.tris.length)) with
   | none=>none
   | some p=>
    if 0≤p.1∧least≤max p.1 near then some ⟨max p.1 near,i,0,0⟩
    else if 0≤p.2∧least≤max p.2 near then some ⟨max p.2 near,i,0,0⟩ else none
def normalF(m:Msh)(h:Hit)(r:Ray):V:=
 let n:=if h.i<m.tris.length then (let t:=m.tri h.i.toNat; vUnit (vCross (vSub t.2.1 t.1) (vSub t.2.2 t.1)))
  else vUnit (vSub (vAdd r.o (vScale r.d h.t)) (m.ball (h.i.toNat-m.tris.length)).c)
 if 0<vDot n r.d then vNeg n else n
def lookP(r:Ray)(h:Hit):V:=vAdd r.o (vScale r.d h.t)
def clampI(x:Int):Int:=min (max x 0) 4294967296
def vClamp(v:V):V:=⟨clampI v.x,clampI v.y,clampI v.z⟩
def byteI(x:Int):Int:=fFloor (fAdd (fMul (clampI x) (fOf 255)) 2147483648)
def pixelF(sum:V)(samples:Int):Int×Int×Int:=
 let m:=vOver sum (fOf (max samples 1))
 (byteI m.x % 256,byteI m.y % 256,byteI m.z % 256)
def bounceF(k:Int)(d n:V)(a b:Int):V:=
 if k=2 then vBend d n else
 let x:=fMul 26986075409 a
 let r:=fSqrt b
 let z:=fSqrt (fSub 4294967296 b)
 let size:=if n.x<0 then fNeg n.x else n.x
 let axis:V:=if size≤2147483648 then ⟨4294967296,0,0⟩ else ⟨0,4294967296,0⟩
 let t:=vUnit (vCross axis n)
 let v:=vCross n t
 let flat:=vAdd (vScale t (fMul r (fCos x))) (vScale v (fMul r (fSin x)))
 vUnit (vAdd flat (vScale n z))
structure Cam where
 w:Int
 h:Int
 eye:V
 at_:V
 up:V
 wide:Int
def cameraF(s:Cam)(x y dx dy:Int):Ray:=
 let w:=fOf (max s.w 1)
 let h:=fOf (max s.h 1)
 let f:=vUnit (vSub s.at_ s.eye)
 let r:=vUnit (vCross f s.up)
 let u:=vCross r f
 let a:=fDiv (fAdd (fOf x) dx) w
 let b:=fDiv (fAdd (fOf y) dy) h
 let px:=fMul (fSub (fAdd a a) 4294967296) s.wide
 let high:=fDiv (fMul s.wide h) w
 let py:=fMul (fSub 4294967296 (fAdd b b)) high
 ⟨s.eye,vUnit (vAdd f (vAdd (vScale r px) (vScale u py)))⟩
def mixN(x:Nat):Nat:=
 let x:=(x ^^^ x / 2 ^ 30)*13787848793156543929 % 18446744073709551616
 let x:=(x ^^^ x / 2 ^ 27)*10723151780598845931 % 18446744073709551616
 x ^^^ x / 2 ^ 31
def u64(n:Int):Nat:=(n % 18446744073709551616).toNat
def mixedN(seed:Nat)(l:List Int):Nat:=l.foldl (fun x n=>mixN ((x+u64 n+11400714819323198485) % 18446744073709551616)) (mixN ((seed+11400714819323198485) % 18446744073709551616))
def drawF(seed:Nat)(pixel sample dim:Int):Int:=(mixedN seed [pixel,sample,dim] / 4294967296:Nat)
structure Nod where
 box:Bx
 from_:Nat
 to_:Nat
 first:Int
 second:Int
def Nod.cells(n:Nod):List AVal:=n.box.cells++[.int .i64 n.from_,.int .i64 n.to_,.int .i64 n.first,.int .i64 n.second]
structure Tre where
 msh:Msh
 nods:List Nod
 order:List Nat
def uni(a b:Bx):Bx:=⟨⟨min a.lo.x b.lo.x,min a.lo.y b.lo.y,min a.lo.z b.lo.z⟩,⟨max a.hi.x b.hi.x,max a.hi.y b.hi.y,max a.hi.z b.hi.z⟩⟩
def better(h best:Hit):Bool:=decide (best.i<0)||(decide (h.t<best.t)||(decide (h.t=best.t)&&decide (h.i<best.i)))
def leafF(m:Msh)(r:Ray)(least:Int):List Nat→Hit×Nat→Hit×Nat
 | [],p=>p
 | i::l,(best,cost)=>leafF m r least l (match shapeF m i r least with
  | some h=>bif better h best then h else best
  | none=>best,cost+1)
def walkF(t:Tre)(r:Ray)(least:Int):Nat→List Nat→Hit×Nat→Hit×Nat
 | 0,_,p=>p
 | _+1,[],p=>p
 | k+1,i::st,(best,cost)=>match t.nods[i]? with
  | none=>(best,cost)
  | some n=>match boxF r n.box with
   | none=>walkF t r least k st (best,cost+1)
   | some near=>if 0≤best.i∧best.t<near then walkF t r least k st (best,cost+1)
    else if 0≤n.first then walkF t r least k (n.first.toNat::n.second.toNat::st) (best,cost+1)
    else walkF t r least k st (leafF t.msh r least ((t.order.drop n.from_).take (n.to_-n.from_)) (best,cost+1))
def treeF(t:Tre)(r:Ray)(least:Int):Hit×Nat:=if t.nods.isEmpty then (noHit,0) else walkF t r least 1000 [0] (noHit,0)
open Go.Abs Go.Abs.S
abbrev Bs:=List UInt8
structure Mt where
 k:Nat
 c:V
 sh:Bs
 tx:Bs
structure Rd where
 c:V
 r:Int
 m:Int
structure Us where
 n:Bs
 p:V
 m:Int
structure Sc where
 w:Int
 h:Int
 sm:Int
 bo:Int
 seed:Nat
 eye:V
 at_:V
 up:V
 wide:Int
 sky:V
 ms:List Mt
 bs:List Rd
 us:List Us
def inI(n lo hi:Int):Bool:=decide (lo≤n)&&decide (n≤hi)
def inV(v:V)(lo hi:Int):Bool:=inI v.x lo hi&&(inI v.y lo hi&&inI v.z lo hi)
def farB(v:V):Bool:=inV v (-42949672960000) 42949672960000
def nameC(b:UInt8):Bool:=((decide (97≤b.toNat)&&decide (b.toNat≤122))||(decide (65≤b.toNat)&&decide (b.toNat≤90)))||((decide (48≤b.toNat)&&decide (b.toNat≤57))||(decide (b.toNat=95)||(decide (b.toNat=45)||decide (b.toNat=46))))
def nameB(s:Bs):Bool:=decide (1≤s.length)&&(decide (s.length≤40)&&s.all nameC)
def noV(v:V):Bool:=decide (v.x=0)&&(decide (v.y=0)&&decide (v.z=0))
def matB(m:Mt):Bool:=
 if m.k=1∨m.k=2 then decide (m.sh=[])&&(decide (m.tx=[])&&inV m.c 0 4294967296)
 else if m.k=3 then decide (m.sh=[])&&(decide (m.tx=[])&&inV m.c 0 274877906944)
 else if m.k=4 then noV m.c&&(nameB m.sh&&(decide (m.tx=[])||nameB m.tx))
 else false
def rndB(b:Rd):Bool:=farB b.c&&(decide (0<b.r)&&decide (b.r≤42949672960000))
def useB(u:Us):Bool:=nameB u.n&&farB u.p
def hasB(n:Nat)(m:Int):Bool:=decide (0≤m)&&decide (m<n)
def allM(s:Sc):Bool:=s.bs.all (fun b=>hasB s.ms.length b.m)&&s.us.all (fun u=>hasB s.ms.length u.m)
def wideB(n:Int):Bool:=decide (0<n)&&decide (n≤429496729600)
def headB(s:Sc):Bool:=inI s.w 1 1024&&(inI s.h 1 1024&&(inI s.sm 1 64&&(inI s.bo 0 8&&(farB s.eye&&(farB s.at_&&(farB s.up&&(wideB s.wide&&(inV s.sky 0 274877906944&&(decide (s.ms.length≤64)&&(decide (s.bs.length≤256)&&decide (s.us.length≤16)))))))))))
def checkB(s:Sc):Bool:=headB s&&(s.ms.all matB&&(s.bs.all rndB&&(s.us.all useB&&allM s)))
def scL(s:Sc)(vm vb vu:AVal):List AVal:=[.int .i64 s.w,.int .i64 s.h,.int .i64 s.sm,.int .i64 s.bo,.int .u64 (s.seed:Int),.int .i64 s.eye.x,.int .i64 s.eye.y,.int .i64 s.eye.z,.int .i64 s.at_.x,.int .i64 s.at_.y,.int .i64 s.at_.z,.int .i64 s.up.x,.int .i64 s.up.y,.int .i64 s.up.z,.int .i64 s.wide,.int .i64 s.sky.x,.int .i64 s.sky.y,.int .i64 s.sky.z,vm,vb,vu]
def Sc.cam(s:Sc):Cam:=⟨s.w,s.h,s.eye,s.at_,s.up,s.wide⟩
def mtL(m:Mt):List AVal:=[.int .u8 (m.k:Int),.int .i64 m.c.x,.int .i64 m.c.y,.int .i64 m.c.z,.str m.sh,.str m.tx]
def rdL(b:Rd):List AVal:=[.int .i64 b.c.x,.int .i64 b.c.y,.int .i64 b.c.z,.int .i64 b.r,.int .i64 b.m]
def usL(u:Us):List AVal:=[.str u.n,.int .i64 u.p.x,.int .i64 u.p.y,.int .i64 u.p.z,.int .i64 u.m]
end Go.Proofs.Tc
namespace Go.Abs.S
open Go.Abs
abbrev zi(n:Nat):Opd:=.c (.int .i64 (.ofNat n))
abbrev zu(n:Nat):Opd:=.c (.int .u8 (.ofNat n))
abbrev zn:Opd:=.c (.slice none 0 (.known 0))
abbrev zI(n:Nat):AVal:=.int .i64 (.ofNat n)
abbrev zU(n:Nat):AVal:=.int .u8 (.ofNat n)
abbrev zN:AVal:=.slice none 0 (.known 0)
abbrev zo(d:Nat)(p:AOp):AOper:=⟨some d,p,none⟩
abbrev zp(p:AOp):AOper:=⟨none,p,none⟩
abbrev zg(d:Nat)(p:AOp)(t:Nat)(b:Bool):AOper:=⟨some d,p,some (t,b)⟩
abbrev zm(d x:Nat):AOper:=⟨some d,.mv (.t x),none⟩
abbrev zc(d x:Nat):AOper:=⟨some d,.nilChk (.t x),none⟩
abbrev zf(d n x:Nat):AOper:=⟨some d,.fieldA n (.t x),none⟩
abbrev zl(d x:Nat):AOper:=⟨some d,.load false 1 (.t x),none⟩
abbrev zt(d n x:Nat):AOper:=⟨some d,.load true n (.t x),none⟩
abbrev ze(d n x:Nat):AOper:=⟨some d,.extract n (.t x),none⟩
abbrev zb(d:Nat)(o:BinOp)(x y:Nat):AOper:=⟨some d,.bin o (.t x) (.t y),none⟩
abbrev zk(d:Nat)(o:BinOp)(x n:Nat):AOper:=⟨some d,.bin o (.t x) (.c (.int .i64 (.ofNat n))),none⟩
abbrev zx(d f:Nat)(l:List Opd):AOper:=⟨some d,.call f l,none⟩
abbrev zh(d x:Nat):AOper:=⟨some d,.len false (.t x),none⟩
abbrev zd(d x y:Nat):AOper:=⟨some d,.idxA 1 (.t x) (.t y),none⟩
abbrev zy(d x y:Nat):AOper:=⟨some d,.append 1 1 (.t x) (.t y),none⟩
abbrev zv(d:Nat)(k:IntKind)(x:Nat):AOper:=⟨some d,.conv k (.t x),none⟩
abbrev zs(x y:Nat):AOper:=⟨none,.store 1 (.t x) (.t y),none⟩
abbrev zq(l:List AOper)(c:ACode):ACode:=.seq (.reg l) c
abbrev zr(l:List AOper)(x:Nat)(a b c:ACode):ACode:=.seq (.seq (.reg l) (.cond (.t x) a b)) c
theorem zI_eq(n:Nat):zI n=.int .i64 (n:Int):=_root_.id rfl
theorem zU_eq(n:Nat):zU n=.int .u8 (n:Int):=_root_.id rfl
theorem zN_eq:zN=.slice none 0 (.known 0):=_root_.id rfl
theorem sB:type_of% (And.intro @zI_eq (And.intro @zU_eq zN_eq)):=And.intro @zI_eq (And.intro @zU_eq zN_eq)
end Go.Abs.S
namespace Go.Proofs.Tc
open Go.Abs Go.Abs.S
noncomputable section
def c87:AFn:=⟨26,zq [zo 4 (.mv (zi 0))] (.seq (.block 0 (zq [zm 6 1,zk 7 .lss 6 0,zm 8 7,zg 9 (.mv (.t 0)) 8 true,zg 10 (.mv (.t 1)) 8 true,zg 11 (.bin .add (zi 9223372036854775807) (.t 10)) 8 true,zg 12 (.bin .gtr (.t 9) (.t 11)) 8 true,zo 13 (.pick (.t 8) (.t 12) (.c (.bool false))),zm 5 13] (.cond (.t 5) (zq [zo 4 (.mv (zi 9223372036854775807))] .ret) (zq [zm 15 1,zk 16 .gtr 15 0,zm 17 16,zg 18 (.mv (.t 0)) 17 true,zg 19 (.mv (.t 1)) 17 true,zg 20 (.bin .add (.c (.int .i64 (.negSucc 9223372036854775807))) (.t 19)) 17 true,zg 21 (.bin .lss (.t 18) (.t 20)) 17 true,zo 22 (.pick (.t 17) (.t 21) (.c (.bool false))),zm 14 22] (.cond (.t 14) (zq [zo 4 (.mv (.c (.int .i64 (.negSucc 9223372036854775807))))] .ret) .skip))))) (zq [zm 23 0,zm 24 1,zb 25 .sub 23 24,zm 4 25] .ret)),[.t 4]⟩
theorem za87:cN Tryz.prog 87=some c87:=by kernel_rfl
def c69:AFn:=⟨26,zq [zo 4 (.mv (zi 0))] (.seq (.block 0 (zq [zm 6 1,zk 7 .gtr 6 0,zm 8 7,zg 9 (.mv (.t 0)) 8 true,zg 10 (.mv (.t 1)) 8 true,zg 11 (.bin .sub (zi 9223372036854775807) (.t 10)) 8 true,zg 12 (.bin .gtr (.t 9) (.t 11)) 8 true,zo 13 (.pick (.t 8) (.t 12) (.c (.bool false))),zm 5 13] (.cond (.t 5) (zq [zo 4 (.mv (zi 9223372036854775807))] .ret) (zq [zm 15 1,zk 16 .lss 15 0,zm 17 16,zg 18 (.mv (.t 0)) 17 true,zg 19 (.mv (.t 1)) 17 true,zg 20 (.bin .sub (.c (.int .i64 (.negSucc 9223372036854775807))) (.t 19)) 17 true,zg 21 (.bin .lss (.t 18) (.t 20)) 17 true,zo 22 (.pick (.t 17) (.t 21) (.c (.bool false))),zm 14 22] (.cond (.t 14) (zq [zo 4 (.mv (.c (.int .i64 (.negSucc 9223372036854775807))))] .ret) .skip))))) (zq [zm 23 0,zm 24 1,zb 25 .add 23 24,zm 4 25] .ret)),[.t 4]⟩
theorem za69:cN Tryz.prog 69=some c69:=by kernel_rfl
def c133:AFn:=⟨20,zq [zo 4 (.mv (zi 0))] (zq [zm 7 0,zx 8 148 [.t 7],zm 5 8] (zq [zm 9 1,zx 10 148 [.t 9],zm 6 10] (zr [zm 11 5] 11 (zr [zm 12 6] 12 (zq [zo 4 (.mv (zi 0))] .ret) .skip (zq [zo 4 (.mv (.c (.int .i64 (.negSucc 0))))] .ret)) .skip (zr [zm 13 6] 13 (zq [zo 4 (.mv (zi 1))] .ret) .skip (zr [zm 14 0,zm 15 1,zb 16 .lss 14 15] 16 (zq [zo 4 (.mv (.c (.int .i64 (.negSucc 0))))] .ret) .skip (zr [zm 17 0,zm 18 1,zb 19 .gtr 17 18] 19 (zq [zo 4 (.mv (zi 1))] .ret) .skip (zq [zo 4 (.mv (zi 0))] .ret))))))),[.t 4]⟩
theorem za133:cN Tryz.prog 133=some c133:=by kernel_rfl
def c148:AFn:=⟨6,zq [zo 2 (.mv (.c (.bool false)))] (zq [zm 3 0,zm 4 0,zb 5 .neq 3 4,zm 2 5] .ret),[.t 2]⟩
theorem za148:cN Tryz.prog 148=some c148:=by kernel_rfl
def c134:AFn:=⟨20,zq [zo 4 (.mv (zi 0))] (zq [zm 7 0,zx 8 149 [.t 7],zm 5 8] (zq [zm 9 1,zx 10 149 [.t 9],zm 6 10] (zr [zm 11 5] 11 (zr [zm 12 6] 12 (zq [zo 4 (.mv (zi 0))] .ret) .skip (zq [zo 4 (.mv (.c (.int .i64 (.negSucc 0))))] .ret)) .skip (zr [zm 13 6] 13 (zq [zo 4 (.mv (zi 1))] .ret) .skip (zr [zm 14 0,zm 15 1,zb 16 .lss 14 15] 16 (zq [zo 4 (.mv (.c (.int .i64 (.negSucc 0))))] .ret) .skip (zr [zm 17 0,zm 18 1,zb 19 .gtr 17 18] 19 (zq [zo 4 (.mv (zi 1))] .ret) .skip (zq [zo 4 (.mv (zi 0))] .ret))))))),[.t 4]⟩
theorem za134:cN Tryz.prog 134=some c134:=by kernel_rfl
def c149:AFn:=⟨6,zq [zo 2 (.mv (.c (.bool false)))] (zq [zm 3 0,zm 4 0,zb 5 .neq 3 4,zm 2 5] .ret),[.t 2]⟩
theorem za149:cN Tryz.prog 149=some c149:=by kernel_rfl
def c132:AFn:=⟨18,zq [zo 2 (.mv (zi 0))] (zq [zo 3 (.mv (zi 0))] (.seq (zq [zm 6 0,zh 7 6,zo 8 (.mv (zi 0))] (.block 0 (.loop (zq [zb 9 .lss 8 7] (.seq (.cond (.t 9) .skip (.exit 0)) (.seq (.block 1 (zq [zd 10 6 8,zl 11 10,zm 5 11] (zq [zm 12 5,zm 13 3,zb 14 .neq 12 13] (.cond (.t 14) (zq [zm 15 5,zm 2 15] .ret) .skip)))) (.reg [zk 16 .add 8 1,zm 8 16]))))))) (zq [zm 17 3,zm 2 17] .ret))),[.t 2]⟩
theorem za132:cN Tryz.prog 132=some c132:=by kernel_rfl
def c147:AFn:=⟨8,zq [zo 2 (.mv (zi 0))] (.seq (.cond (.c (.bool false)) (zq [zm 3 0,zv 4 .u32 3,zx 5 158 [.t 4],zm 2 5] .ret) .skip) (zq [zm 6 0,zx 7 145 [.t 6],zm 2 7] .ret)),[.t 2]⟩
theorem za147:cN Tryz.prog 147=some c147:=by kernel_rfl
def c145:AFn:=⟨25,zq [zo 2 (.mv (zi 0))] (zr [zm 3 0,zo 4 (.bin .geq (.t 3) (.c (.int .u64 (.ofNat 4294967296))))] 4 (zq [zm 5 0,zo 6 (.bin .shr (.t 5) (.c (.int .u64 (.ofNat 32)))),zm 0 6] (.reg [zo 2 (.mv (zi 32))])) .skip (zr [zm 7 0,zo 8 (.bin .geq (.t 7) (.c (.int .u64 (.ofNat 65536))))] 8 (zq [zm 9 0,zo 10 (.bin .shr (.t 9) (.c (.int .u64 (.ofNat 16)))),zm 0 10] (.reg [zm 11 2,zk 12 .add 11 16,zm 2 12])) .skip (zr [zm 13 0,zo 14 (.bin .geq (.t 13) (.c (.int .u64 (.ofNat 256))))] 14 (zq [zm 15 0,zo 16 (.bin .shr (.t 15) (.c (.int .u64 (.ofNat 8)))),zm 0 16] (.reg [zm 17 2,zk 18 .add 17 8,zm 2 18])) .skip (zq [zm 19 2,zm 20 0,zv 21 .u8 20,zo 22 (.idxS (.c (.str [0,1,2,2,3,3,3,3,4,4,4,4,4,4,4,4,5,5,5,5,5,5,5,5,5,5,5,5,5,5,5,5,6,6,6,6,6,6,6,6,6,6,6,6,6,6,6,6,6,6,6,6,6,6,6,6,6,6,6,6,6,6,6,6,7,7,7,7,7,7,7,7,7,7,7,7,7,7,7,7,7,7,7,7,7,7,7,7,7,7,7,7,7,7,7,7,7,7,7,7,7,7,7,7,7,7,7,7,7,7,7,7,7,7,7,7,7,7,7,7,7,7,7,7,7,7,7,7,8,8,8,8,8,8,8,8,8,8,8,8,8,8,8,8,8,8,8,8,8,8,8,8,8,8,8,8,8,8,8,8,8,8,8,8,8,8,8,8,8,8,8,8,8,8,8,8,8,8,8,8,8,8,8,8,8,8,8,8,8,8,8,8,8,8,8,8,8,8,8,8,8,8,8,8,8,8,8,8,8,8,8,8,8,8,8,8,8,8,8,8,8,8,8,8,8,8,8,8,8,8,8,8,8,8,8,8,8,8,8,8,8,8,8,8,8,8,8,8,8,8,8,8,8,8,8,8])) (.t 21)),zv 23 .i64 22,zb 24 .add 19 23,zm 2 24] .ret)))),[.t 2]⟩
theorem za145:cN Tryz.prog 145=some c145:=by kernel_rfl
def c88:AFn:=⟨17,zq [zo 8 (.mv (zi 0))] (zq [zm 9 0,zm 10 1,zm 11 2,zm 12 3,zo 13 (.buildSl 3 [zI 0] [(0,1,.t 10),(1,1,.t 11),(2,1,.t 12)]),zx 14 114 [.t 9,.t 13],zo 15 (.bin .shr (.t 14) (.c (.int .u64 (.ofNat 32)))),zv 16 .i64 15,zm 8 16] .ret),[.t 8]⟩
theorem za88:cN Tryz.prog 88=some c88:=by kernel_rfl
def c114:AFn:=⟨25,zq [zo 4 (.mv (.c (.int .u64 (.ofNat 0))))] (zq [zm 8 0,zo 9 (.bin .add (.t 8) (.c (.int .u64 (.ofNat 11400714819323198485)))),zx 10 135 [.t 9],zm 5 10] (.seq (zq [zm 11 1,zh 12 11,zo 13 (.mv (zi 0))] (.block 0 (.loop (zq [zb 14 .lss 13 12] (.seq (.cond (.t 14) .skip (.exit 0)) (.seq (.block 1 (zq [zd 15 11 13,zl 16 15,zm 7 16] (.reg [zm 17 5,zm 18 7,zv 19 .u64 18,zb 20 .add 17 19,zo 21 (.bin .add (.t 20) (.c (.int .u64 (.ofNat 11400714819323198485)))),zx 22 135 [.t 21],zm 5 22]))) (.reg [zk 23 .add 13 1,zm 13 23]))))))) (zq [zm 24 5,zm 4 24] .ret))),[.t 4]⟩
theorem za114:cN Tryz.prog 114=some c114:=by kernel_rfl
def c135:AFn:=⟨17,zq [zo 2 (.mv (.c (.int .u64 (.ofNat 0))))] (zq [zm 3 0,zm 4 0,zo 5 (.bin .shr (.t 4) (.c (.int .u64 (.ofNat 30)))),zb 6 .xor 3 5,zo 7 (.bin .mul (.t 6) (.c (.int .u64 (.ofNat 13787848793156543929)))),zm 0 7] (zq [zm 8 0,zm 9 0,zo 10 (.bin .shr (.t 9) (.c (.int .u64 (.ofNat 27)))),zb 11 .xor 8 10,zo 12 (.bin .mul (.t 11) (.c (.int .u64 (.ofNat 10723151780598845931)))),zm 0 12] (zq [zm 13 0,zm 14 0,zo 15 (.bin .shr (.t 14) (.c (.int .u64 (.ofNat 31)))),zb 16 .xor 13 15,zm 2 16] .ret))),[.t 2]⟩
theorem za135:cN Tryz.prog 135=some c135:=by kernel_rfl
def c65:AFn:=⟨11,zq [zo 2 (.mv (zi 0))] (.seq (.block 0 (zq [zm 4 0,zk 5 .gtr 4 2147483647,zm 3 5] (.cond (.t 3) (zq [zo 2 (.mv (zi 9223372036854775807))] .ret) (zq [zm 7 0,zo 8 (.bin .lss (.t 7) (.c (.int .i64 (.negSucc 2147483647)))),zm 6 8] (.cond (.t 6) (zq [zo 2 (.mv (.c (.int .i64 (.negSucc 9223372036854775807))))] .ret) .skip))))) (zq [zm 9 0,zo 10 (.bin .shl (.t 9) (.c (.int .u64 (.ofNat 32)))),zm 2 10] .ret)),[.t 2]⟩
theorem za65:cN Tryz.prog 65=some c65:=by kernel_rfl
def c54:AFn:=⟨8,zq [zo 2 (.box (.t 0)),zo 3 (.box (.t 1)),zo 4 (.new [zI 0,zI 0,zI 0])] (zq [zt 5 3 2,zt 6 3 3,zx 7 59 [.t 5,.t 6,.f 87],zp (.store 3 (.t 4) (.t 7))] .ret),[.cell true 3 4]⟩
theorem za54:cN Tryz.prog 54=some c54:=by kernel_rfl
def c59:AFn:=⟨26,zq [zo 3 (.box (.t 0)),zo 4 (.box (.t 1)),zo 6 (.new [zI 0,zI 0,zI 0])] (.seq (.draw [zm 7 2,zf 8 0 3,zl 9 8,zf 10 0 4,zl 11 10,zo 12 (.callv (.t 7) [.t 9,.t 11]),zm 13 2,zf 14 1 3,zl 15 14,zf 16 1 4,zl 17 16,zo 18 (.callv (.t 13) [.t 15,.t 17]),zm 19 2,zf 20 2 3,zl 21 20,zf 22 2 4,zl 23 22,zo 24 (.callv (.t 19) [.t 21,.t 23]),zo 25 (.build [zI 0,zI 0,zI 0] [(0,1,.t 12),(1,1,.t 18),(2,1,.t 24)]),zp (.store 3 (.t 6) (.t 25))] [[],[],[],[],[],[],[],[],[5],[],[5],[],[],[],[5,11],[],[5,11],[],[],[]]) .ret),[.cell true 3 6]⟩
theorem za59:cN Tryz.prog 59=some c59:=by kernel_rfl
def c52:AFn:=⟨13,zq [zo 1 (.box (.t 0)),zo 2 (.new [zI 0,zI 0,zI 0])] (zq [zt 4 3 1,zx 5 92 [.t 4],zo 3 (.new [zI 0]),zs 3 5] (zr [zl 6 3,zk 7 .eql 6 0] 7 (zq [zo 8 (.build [zI 0,zI 0,zI 0] []),zp (.store 3 (.t 2) (.t 8))] .ret) .skip (zq [zt 9 3 1,zt 10 3 1,zo 11 (.mkFunc (.func 93) [] [.t 3]),zx 12 59 [.t 9,.t 10,.t 11],zp (.store 3 (.t 2) (.t 12))] .ret))),[.cell true 3 2]⟩
theorem za52:cN Tryz.prog 52=some c52:=by kernel_rfl
def c92:AFn:=⟨7,zq [zo 1 (.box (.t 0)),zo 2 (.mv (zi 0))] (zq [zt 3 3 1,zt 4 3 1,zx 5 56 [.t 3,.t 4],zx 6 104 [.t 5],zm 2 6] .ret),[.t 2]⟩
theorem za92:cN Tryz.prog 92=some c92:=by kernel_rfl
def c56:AFn:=⟨17,zq [zo 2 (.box (.t 0)),zo 3 (.box (.t 1)),zo 4 (.mv (zi 0))] (zq [zt 6 3 2,zt 7 3 3,zx 8 28 [.t 6,.t 7],zo 5 (.new [zI 0,zI 0,zI 0]),zp (.store 3 (.t 5) (.t 8))] (.seq (.draw [zf 9 0 5,zl 10 9,zf 11 1 5,zl 12 11,zx 13 69 [.t 10,.t 12],zf 14 2 5,zl 15 14,zx 16 69 [.t 13,.t 15],zm 4 16] [[],[],[],[],[],[],[4],[],[]]) .ret)),[.t 4]⟩
theorem za56:cN Tryz.prog 56=some c56:=by kernel_rfl
def c28:AFn:=⟨8,zq [zo 2 (.box (.t 0)),zo 3 (.box (.t 1)),zo 4 (.new [zI 0,zI 0,zI 0])] (zq [zt 5 3 2,zt 6 3 3,zx 7 59 [.t 5,.t 6,.f 60],zp (.store 3 (.t 4) (.t 7))] .ret),[.cell true 3 4]⟩
theorem za28:cN Tryz.prog 28=some c28:=by kernel_rfl
def c60:AFn:=⟨31,zq [zo 4 (.mv (zi 0))] (zq [zm 8 0,zm 9 1,zx 10 99 [.t 8,.t 9],zm 5 10] (zq [zm 12 0,zx 13 101 [.t 12],zm 14 1,zx 15 101 [.t 14],zx 16 100 [.t 13,.t 15],zm 11 16,ze 17 0 11,ze 18 1 11,zm 6 17,zm 7 18] (zq [zm 19 5,zm 20 6,zo 21 (.bin .shr (.t 20) (.c (.int .u64 (.ofNat 32)))),zm 22 6,zo 23 (.bin .shl (.t 22) (.c (.int .u64 (.ofNat 32)))),zm 24 7,zo 25 (.bin .shr (.t 24) (.c (.int .u64 (.ofNat 32)))),zb 26 .or 23 25,zm 27 7,zo 28 (.bin .shl (.t 27) (.c (.int .u64 (.ofNat 32)))),zo 29 (.bin .neq (.t 28) (.c (.int .u64 (.ofNat 0)))),zo 30 (.callv (.t 19) [.t 21,.t 26,.t 29]),zm 4 30] .ret))),[.t 4]⟩
theorem za60:cN Tryz.prog 60=some c60:=by kernel_rfl
def c99:AFn:=⟨10,zq [zo 4 (.mv (.c .nilFunc))] (zr [zm 5 0,zk 6 .lss 5 0,zm 7 1,zk 8 .lss 7 0,zo 9 (.pf (.eqv false .bool) [.t 6,.t 8])] 9 (zq [zo 4 (.mv (.f 124))] .ret) .skip (zq [zo 4 (.mv (.f 125))] .ret)),[.t 4]⟩
theorem za99:cN Tryz.prog 99=some c99:=by kernel_rfl
def c124:AFn:=⟨15,zq [zo 6 (.mv (zi 0))] (zr [zm 7 0,zo 8 (.bin .neq (.t 7) (.c (.int .u64 (.ofNat 0)))),zm 9 8,zg 10 (.mv (.t 1)) 9 false,zg 11 (.bin .gtr (.t 10) (.c (.int .u64 (.ofNat 9223372036854775807)))) 9 false,zo 12 (.pick (.t 9) (.c (.bool true)) (.t 11))] 12 (zq [zo 6 (.mv (zi 9223372036854775807))] .ret) .skip (zq [zm 13 1,zv 14 .i64 13,zm 6 14] .ret)),[.t 6]⟩
theorem za124:cN Tryz.prog 124=some c124:=by kernel_rfl
def c125:AFn:=⟨21,zq [zo 6 (.mv (zi 0))] (zr [zm 8 0,zo 9 (.bin .neq (.t 8) (.c (.int .u64 (.ofNat 0)))),zm 10 9,zg 11 (.mv (.t 1)) 10 false,zg 12 (.bin .gtr (.t 11) (.c (.int .u64 (.ofNat 9223372036854775807)))) 10 false,zo 13 (.pick (.t 10) (.c (.bool true)) (.t 12))] 13 (zq [zo 6 (.mv (.c (.int .i64 (.negSucc 9223372036854775807))))] .ret) .skip (zq [zm 14 1,zv 15 .i64 14,zo 16 (.un .neg (.t 15)),zm 7 16] (zr [zm 17 2] 17 (.reg [zm 18 7,zk 19 .sub 18 1,zm 7 19]) .skip (zq [zm 20 7,zm 6 20] .ret)))),[.t 6]⟩
theorem za125:cN Tryz.prog 125=some c125:=by kernel_rfl
def c101:AFn:=⟨10,zq [zo 2 (.mv (.c (.int .u64 (.ofNat 0))))] (zr [zm 3 0,zk 4 .lss 3 0] 4 (zq [zm 5 0,zv 6 .u64 5,zo 7 (.un .neg (.t 6)),zm 2 7] .ret) .skip (zq [zm 8 0,zv 9 .u64 8,zm 2 9] .ret)),[.t 2]⟩
theorem za101:cN Tryz.prog 101=some c101:=by kernel_rfl
def c100:AFn:=⟨51,zq [zo 4 (.mv (.c (.int .u64 (.ofNat 0)))),zo 5 (.mv (.c (.int .u64 (.ofNat 0))))] (zq [zm 14 0,zo 15 (.bin .and (.t 14) (.c (.int .u64 (.ofNat 4294967295)))),zm 6 15] (zq [zm 16 0,zo 17 (.bin .shr (.t 16) (.c (.int .u64 (.ofNat 32)))),zm 7 17] (zq [zm 18 1,zo 19 (.bin .and (.t 18) (.c (.int .u64 (.ofNat 4294967295)))),zm 8 19] (zq [zm 20 1,zo 21 (.bin .shr (.t 20) (.c (.int .u64 (.ofNat 32)))),zm 9 21] (zq [zm 22 6,zm 23 8,zb 24 .mul 22 23,zm 10 24] (zq [zm 25 7,zm 26 8,zb 27 .mul 25 26,zm 28 10,zo 29 (.bin .shr (.t 28) (.c (.int .u64 (.ofNat 32)))),zb 30 .add 27 29,zm 11 30] (zq [zm 31 11,zo 32 (.bin .and (.t 31) (.c (.int .u64 (.ofNat 4294967295)))),zm 12 32] (zq [zm 33 11,zo 34 (.bin .shr (.t 33) (.c (.int .u64 (.ofNat 32)))),zm 13 34] (zq [zm 35 12,zm 36 6,zm 37 9,zb 38 .mul 36 37,zb 39 .add 35 38,zm 12 39] (zq [zm 40 7,zm 41 9,zb 42 .mul 40 41,zm 43 13,zb 44 .add 42 43,zm 45 12,zo 46 (.bin .shr (.t 45) (.c (.int .u64 (.ofNat 32)))),zb 47 .add 44 46,zm 4 47] (zq [zm 48 0,zm 49 1,zb 50 .mul 48 49,zm 5 50] .ret))))))))))),[.t 4,.t 5]⟩
theorem za100:cN Tryz.prog 100=some c100:=by kernel_rfl
def c104:AFn:=⟨47,zq [zo 2 (.mv (zi 0))] (zr [zm 10 0,zk 11 .lss 10 1] 11 (zq [zo 2 (.mv (zi 0))] .ret) .skip (zq [zm 12 0,zv 13 .u64 12,zo 14 (.bin .shr (.t 13) (.c (.int .u64 (.ofNat 32)))),zm 15 0,zv 16 .u64 15,zo 17 (.bin .shl (.t 16) (.c (.int .u64 (.ofNat 32)))),zm 3 14,zm 4 17] (zq [zo 5 (.mv (.c (.int .u64 (.ofNat 0))))] (.seq (zq [zo 6 (.mv (.c (.int .u64 (.ofNat 140737488355328))))] (.block 0 (.loop (zr [zm 18 6,zo 19 (.bin .gtr (.t 18) (.c (.int .u64 (.ofNat 0))))] 19 .skip (.exit 0) (.seq (.block 1 (zq [zm 22 5,zm 23 6,zb 24 .or 22 23,zm 7 24] (zq [zm 26 7,zm 27 7,zx 28 100 [.t 26,.t 27],zm 25 28,ze 29 0 25,ze 30 1 25,zm 8 29,zm 9 30] (zq [zm 31 8,zm 32 3,zb 33 .lss 31 32,zm 34 33,zg 35 (.mv (.t 8)) 34 false,zg 36 (.mv (.t 3)) 34 false,zg 37 (.bin .eql (.t 35) (.t 36)) 34 false,zg 38 (.mv (.t 37)) 34 false,zg 39 (.mv (.t 9)) 38 true,zg 40 (.mv (.t 4)) 38 true,zg 41 (.bin .leq (.t 39) (.t 40)) 38 true,zg 42 (.pick (.t 38) (.t 41) (.c (.bool false))) 34 false,zo 43 (.pick (.t 34) (.c (.bool true)) (.t 42))] (.cond (.t 43) (.reg [zm 44 7,zm 5 44]) .skip))))) (.reg [zm 20 6,zo 21 (.bin .shr (.t 20) (.c (.int .u64 (.ofNat 1)))),zm 6 21])))))) (zq [zm 45 5,zv 46 .i64 45,zm 2 46] .ret))))),[.t 2]⟩
theorem za104:cN Tryz.prog 104=some c104:=by kernel_rfl
def c93:AFn:=⟨9,zq [zo 5 (.mv (zi 0))] (zq [zm 6 0,zl 7 2,zx 8 63 [.t 6,.t 7],zm 5 8] .ret),[.t 5]⟩
theorem za93:cN Tryz.prog 93=some c93:=by kernel_rfl
def c63:AFn:=⟨46,zq [zo 4 (.mv (zi 0))] (zr [zm 11 1,zk 12 .eql 11 0] 12 (.seq (.block 0 (zq [zm 14 0,zk 15 .gtr 14 0,zm 13 15] (.cond (.t 13) (zq [zo 4 (.mv (zi 9223372036854775807))] .ret) (zq [zm 17 0,zk 18 .lss 17 0,zm 16 18] (.cond (.t 16) (zq [zo 4 (.mv (.c (.int .i64 (.negSucc 9223372036854775807))))] .ret) .skip))))) (zq [zo 4 (.mv (zi 0))] .ret)) .skip (zq [zm 19 0,zm 20 1,zx 21 99 [.t 19,.t 20],zm 5 21] (zq [zm 22 0,zx 23 101 [.t 22],zm 24 1,zx 25 101 [.t 24],zm 6 23,zm 7 25] (zq [zm 26 6,zo 27 (.bin .shr (.t 26) (.c (.int .u64 (.ofNat 32)))),zm 8 27] (zq [zm 29 8,zm 30 7,zb 31 .rem 29 30,zm 32 6,zo 33 (.bin .shl (.t 32) (.c (.int .u64 (.ofNat 32)))),zm 34 7,zx 35 102 [.t 31,.t 33,.t 34],zm 28 35,ze 36 0 28,ze 37 1 28,zm 9 36,zm 10 37] (zq [zm 38 5,zm 39 8,zm 40 7,zb 41 .quo 39 40,zm 42 9,zm 43 10,zo 44 (.bin .neq (.t 43) (.c (.int .u64 (.ofNat 0)))),zo 45 (.callv (.t 38) [.t 41,.t 42,.t 44]),zm 4 45] .ret)))))),[.t 4]⟩
theorem za63:cN Tryz.prog 63=some c63:=by kernel_rfl
def c102:AFn:=⟨135,zq [zo 6 (.mv (.c (.int .u64 (.ofNat 0)))),zo 7 (.mv (.c (.int .u64 (.ofNat 0))))] (zr [zm 19 2,zo 20 (.bin .eql (.t 19) (.c (.int .u64 (.ofNat 0))))] 20 (.reg [zo 21 .bad,zp .bad]) .skip (zr [zm 22 2,zm 23 0,zb 24 .leq 22 23] 24 (.reg [zo 25 .bad,zp .bad]) .skip (zr [zm 26 0,zo 27 (.bin .eql (.t 26) (.c (.int .u64 (.ofNat 0))))] 27 (zq [zm 28 1,zm 29 2,zb 30 .quo 28 29,zm 31 1,zm 32 2,zb 33 .rem 31 32,zm 6 30,zm 7 33] .ret) .skip (zq [zm 34 2,zx 35 126 [.t 34],zv 36 .u64 35,zm 8 36] (zq [zm 37 2,zm 38 8,zb 39 .shl 37 38,zm 2 39] (zq [zm 40 2,zo 41 (.bin .shr (.t 40) (.c (.int .u64 (.ofNat 32)))),zm 9 41] (zq [zm 42 2,zo 43 (.bin .and (.t 42) (.c (.int .u64 (.ofNat 4294967295)))),zm 10 43] (zq [zm 44 0,zm 45 8,zb 46 .shl 44 45,zm 47 1,zm 48 8,zo 49 (.bin .sub (.c (.int .u64 (.ofNat 64))) (.t 48)),zb 50 .shr 47 49,zb 51 .or 46 50,zm 11 51] (zq [zm 52 1,zm 53 8,zb 54 .shl 52 53,zm 12 54] (zq [zm 55 12,zo 56 (.bin .shr (.t 55) (.c (.int .u64 (.ofNat 32)))),zm 13 56] (zq [zm 57 12,zo 58 (.bin .and (.t 57) (.c (.int .u64 (.ofNat 4294967295)))),zm 14 58] (zq [zm 59 11,zm 60 9,zb 61 .quo 59 60,zm 15 61] (zq [zm 62 11,zm 63 15,zm 64 9,zb 65 .mul 63 64,zb 66 .sub 62 65,zm 16 66] (.seq (.block 0 (.loop (zr [zm 67 15,zo 68 (.bin .geq (.t 67) (.c (.int .u64 (.ofNat 4294967296)))),zm 69 68,zg 70 (.mv (.t 15)) 69 false,zg 71 (.mv (.t 10)) 69 false,zg 72 (.bin .mul (.t 70) (.t 71)) 69 false,zg 73 (.mv (.t 16)) 69 false,zg 74 (.bin .mul (.c (.int .u64 (.ofNat 4294967296))) (.t 73)) 69 false,zg 75 (.mv (.t 13)) 69 false,zg 76 (.bin .add (.t 74) (.t 75)) 69 false,zg 77 (.bin .gtr (.t 72) (.t 76)) 69 false,zo 78 (.pick (.t 69) (.c (.bool true)) (.t 77))] 78 .skip (.exit 0) (.block 1 (zq [zm 79 15,zo 80 (.bin .sub (.t 79) (.c (.int .u64 (.ofNat 1)))),zm 15 80] (zq [zm 81 16,zm 82 9,zb 83 .add 81 82,zm 16 83] (zq [zm 84 16,zo 85 (.bin .geq (.t 84) (.c (.int .u64 (.ofNat 4294967296))))] (.cond (.t 85) (.exit 0) .skip)))))))) (zq [zm 86 11,zo 87 (.bin .mul (.t 86) (.c (.int .u64 (.ofNat 4294967296)))),zm 88 13,zb 89 .add 87 88,zm 90 15,zm 91 2,zb 92 .mul 90 91,zb 93 .sub 89 92,zm 17 93] (zq [zm 94 17,zm 95 9,zb 96 .quo 94 95,zm 18 96] (zq [zm 97 17,zm 98 18,zm 99 9,zb 100 .mul 98 99,zb 101 .sub 97 100,zm 16 101] (.seq (.block 2 (.loop (zr [zm 102 18,zo 103 (.bin .geq (.t 102) (.c (.int .u64 (.ofNat 4294967296)))),zm 104 103,zg 105 (.mv (.t 18)) 104 false,zg 106 (.mv (.t 10)) 104 false,zg 107 (.bin .mul (.t 105) (.t 106)) 104 false,zg 108 (.mv (.t 16)) 104 false,zg 109 (.bin .mul (.c (.int .u64 (.ofNat 4294967296))) (.t 108)) 104 false,zg 110 (.mv (.t 14)) 104 false,zg 111 (.bin .add (.t 109) (.t 110)) 104 false,zg 112 (.bin .gtr (.t 107) (.t 111)) 104 false,zo 113 (.pick (.t 104) (.c (.bool true)) (.t 112))] 113 .skip (.exit 2) (.block 3 (zq [zm 114 18,zo 115 (.bin .sub (.t 114) (.c (.int .u64 (.ofNat 1)))),zm 18 115] (zq [zm 116 16,zm 117 9,zb 118 .add 116 117,zm 16 118] (zq [zm 119 16,zo 120 (.bin .geq (.t 119) (.c (.int .u64 (.ofNat 4294967296))))] (.cond (.t 120) (.exit 2) .skip)))))))) (zq [zm 121 15,zo 122 (.bin .mul (.t 121) (.c (.int .u64 (.ofNat 4294967296)))),zm 123 18,zb 124 .add 122 123,zm 125 17,zo 126 (.bin .mul (.t 125) (.c (.int .u64 (.ofNat 4294967296)))),zm 127 14,zb 128 .add 126 127,zm 129 18,zm 130 2,zb 131 .mul 129 130,zb 132 .sub 128 131,zm 133 8,zb 134 .shr 132 133,zm 6 124,zm 7 134] .ret))))))))))))))))))),[.t 6,.t 7]⟩
theorem za102:cN Tryz.prog 102=some c102:=by kernel_rfl
def c126:AFn:=⟨6,zq [zo 2 (.mv (zi 0))] (zq [zm 3 0,zx 4 145 [.t 3],zo 5 (.bin .sub (zi 64) (.t 4)),zm 2 5] .ret),[.t 2]⟩
theorem za126:cN Tryz.prog 126=some c126:=by kernel_rfl
def c53:AFn:=⟨39,zq [zo 2 (.box (.t 0)),zo 3 (.box (.t 1)),zo 4 (.new [zI 0,zI 0,zI 0])] (.seq (.draw [zf 5 1 2,zl 6 5,zf 7 2 3,zl 8 7,zx 9 60 [.t 6,.t 8],zf 10 2 2,zl 11 10,zf 12 1 3,zl 13 12,zx 14 60 [.t 11,.t 13],zx 15 87 [.t 9,.t 14],zf 16 2 2,zl 17 16,zf 18 0 3,zl 19 18,zx 20 60 [.t 17,.t 19],zf 21 0 2,zl 22 21,zf 23 2 3,zl 24 23,zx 25 60 [.t 22,.t 24],zx 26 87 [.t 20,.t 25],zf 27 0 2,zl 28 27,zf 29 1 3,zl 30 29,zx 31 60 [.t 28,.t 30],zf 32 1 2,zl 33 32,zf 34 0 3,zl 35 34,zx 36 60 [.t 33,.t 35],zx 37 87 [.t 31,.t 36],zo 38 (.build [zI 0,zI 0,zI 0] [(0,1,.t 15),(1,1,.t 26),(2,1,.t 37)]),zp (.store 3 (.t 4) (.t 38))] [[],[],[],[],[],[],[4],[],[4],[],[],[],[4,9,10],[],[4,9,10],[],[],[4,9,10,15],[],[4,9,10,15],[],[],[],[4,9,10,15,20,21],[],[4,9,10,15,20,21],[],[],[4,9,10,15,20,21,26],[],[4,9,10,15,20,21,26],[],[],[],[]]) .ret),[.cell true 3 4]⟩
theorem za53:cN Tryz.prog 53=some c53:=by kernel_rfl
def c55:AFn:=⟨9,zq [zo 2 (.box (.t 0)),zo 3 (.box (.t 1)),zo 4 (.new [zI 0,zI 0,zI 0])] (zq [zt 5 3 2,zt 6 3 2,zo 7 (.mkFunc (.func 94) [] [.t 3]),zx 8 59 [.t 5,.t 6,.t 7],zp (.store 3 (.t 4) (.t 8))] .ret),[.cell true 3 4]⟩
theorem za55:cN Tryz.prog 55=some c55:=by kernel_rfl
def c94:AFn:=⟨9,zq [zo 5 (.mv (zi 0))] (zq [zm 6 0,zl 7 2,zx 8 60 [.t 6,.t 7],zm 5 8] .ret),[.t 5]⟩
theorem za94:cN Tryz.prog 94=some c94:=by kernel_rfl
def c49:AFn:=⟨8,zq [zo 2 (.box (.t 0)),zo 3 (.box (.t 1)),zo 4 (.new [zI 0,zI 0,zI 0])] (zq [zt 5 3 2,zt 6 3 3,zx 7 59 [.t 5,.t 6,.f 69],zp (.store 3 (.t 4) (.t 7))] .ret),[.cell true 3 4]⟩
theorem za49:cN Tryz.prog 49=some c49:=by kernel_rfl
def c96:AFn:=⟨7,zq [zo 2 (.mv (zi 0))] (zr [zm 3 0,zo 4 (.bin .eql (.t 3) (.c (.int .i64 (.negSucc 9223372036854775807))))] 4 (zq [zo 2 (.mv (zi 9223372036854775807))] .ret) .skip (zq [zm 5 0,zo 6 (.un .neg (.t 5)),zm 2 6] .ret)),[.t 2]⟩
theorem za96:cN Tryz.prog 96=some c96:=by kernel_rfl
def c57:AFn:=⟨6,zq [zo 1 (.box (.t 0)),zo 2 (.new [zI 0,zI 0,zI 0])] (zq [zt 3 3 1,zt 4 3 1,zx 5 59 [.t 3,.t 4,.f 95],zp (.store 3 (.t 2) (.t 5))] .ret),[.cell true 3 2]⟩
theorem za57:cN Tryz.prog 57=some c57:=by kernel_rfl
def c95:AFn:=⟨7,zq [zo 4 (.mv (zi 0))] (zq [zm 5 0,zx 6 96 [.t 5],zm 4 6] .ret),[.t 4]⟩
theorem za95:cN Tryz.prog 95=some c95:=by kernel_rfl
def c68:AFn:=⟨5,zq [zo 2 (.mv (zi 0))] (zq [zm 3 0,zo 4 (.bin .shr (.t 3) (.c (.int .u64 (.ofNat 32)))),zm 2 4] .ret),[.t 2]⟩
theorem za68:cN Tryz.prog 68=some c68:=by kernel_rfl
def c106:AFn:=⟨52,zq [zo 2 (.mv (zi 0))] (zq [zm 6 0,zk 7 .rem 6 26986075409,zm 3 7] (zr [zm 8 3,zk 9 .lss 8 0] 9 (.reg [zm 10 3,zk 11 .add 10 26986075409,zm 3 11]) .skip (zr [zm 12 3,zk 13 .gtr 12 13493037704] 13 (.reg [zm 14 3,zk 15 .sub 14 26986075409,zm 3 15]) .skip (.seq (.block 0 (zq [zm 17 3,zk 18 .gtr 17 6746518852,zm 16 18] (.cond (.t 16) (.reg [zm 19 3,zo 20 (.bin .sub (zi 13493037704) (.t 19)),zm 3 20]) (zq [zm 22 3,zo 23 (.bin .lss (.t 22) (.c (.int .i64 (.negSucc 6746518851)))),zm 21 23] (.cond (.t 21) (.reg [zm 24 3,zo 25 (.bin .sub (.c (.int .i64 (.negSucc 13493037703))) (.t 24)),zm 3 25]) .skip))))) (zq [zm 26 3,zm 27 3,zx 28 60 [.t 26,.t 27],zm 4 28] (zq [zm 29 4,zk 30 .quo 29 72,zo 31 (.bin .sub (zi 4294967296) (.t 30)),zm 5 31] (zq [zm 32 4,zm 33 5,zx 34 60 [.t 32,.t 33],zk 35 .quo 34 42,zo 36 (.bin .sub (zi 4294967296) (.t 35)),zm 5 36] (zq [zm 37 4,zm 38 5,zx 39 60 [.t 37,.t 38],zk 40 .quo 39 20,zo 41 (.bin .sub (zi 4294967296) (.t 40)),zm 5 41] (zq [zm 42 4,zm 43 5,zx 44 60 [.t 42,.t 43],zk 45 .quo 44 6,zo 46 (.bin .sub (zi 4294967296) (.t 45)),zm 5 46] (zq [zm 47 3,zm 48 5,zx 49 60 [.t 47,.t 48],zo 50 (.pf (.mm true) [.t 49,.c (.int .i64 (.negSucc 4294967295))]),zo 51 (.pf (.mm false) [.t 50,zi 4294967296]),zm 2 51] .ret)))))))))),[.t 2]⟩
theorem za106:cN Tryz.prog 106=some c106:=by kernel_rfl
def c105:AFn:=⟨6,zq [zo 2 (.mv (zi 0))] (zq [zm 3 0,zx 4 69 [.t 3,zi 6746518852],zx 5 106 [.t 4],zm 2 5] .ret),[.t 2]⟩
theorem za105:cN Tryz.prog 105=some c105:=by kernel_rfl
def c103:AFn:=⟨16,zq [zo 2 (.box (.t 0)),zo 3 (.box (.t 1)),zo 4 (.new [zI 0,zI 0,zI 0])] (zq [zt 6 3 2,zt 7 3 3,zx 8 56 [.t 6,.t 7],zm 5 8] (.seq (.draw [zt 9 3 2,zt 10 3 3,zm 11 5,zm 12 5,zx 13 69 [.t 11,.t 12],zx 14 55 [.t 10,.t 13],zx 15 54 [.t 9,.t 14],zp (.store 3 (.t 4) (.t 15))] [[5,6],[5],[],[],[],[],[],[]]) .ret)),[.cell true 3 4]⟩
theorem za103:cN Tryz.prog 103=some c103:=by kernel_rfl
end
end Go.Proofs.Tc
