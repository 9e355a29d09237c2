/- Part of a proof (S25 S26 S27 Zab YC1 YN0 W0 W1 YW2 YW3 YW4 YW5 YW6 YW7 YW8 YW9 YWA YWB YWD); no condition. -/
import Derived.Test.YteabnpheoiakdaaGreatDoorProg
import Derived.KernelRfl
import Derived.Test.YteabnpheoiakdaaGreatDoorP5
set_option linter.unusedSimpArgs false
set_option linter.unusedVariables false
set_option linter.defProp false
set_option linter.unnecessarySimpa false
namespace Go.Abs.S
open Go.Abs
def aT(m:Nat)(H:aa)(s:ae)(L:List ae)(k:Nat):Prop:=(s=aX/\L=[]/\k=0)∨∃b C low r,s=.slice (some ⟨b,C.length,0⟩) k r/\(r=.open_ m∨∃cap,r=.known cap/\k<=cap/\C.length=cap*m)/\H.get b=some (.cells C low false)/\low<=C.length/\C.take (k*m)=L/\L.length=k*m/\k*m<=C.length/\b<H.next
def aT.len{m k:Nat}{H:aa}{s:ae}{L:List ae}(h:aT m H s L k):ez false s=some (.int .i64 (k:Int)):=by rcases h with⟨rfl,_,rfl⟩|⟨b,C,low,r,rfl,_⟩<;>rfl
def aT.one{m k:Nat}{H:aa}{s:ae}{L:List ae}(h:aT m H s L k):s.one=true:=by rcases h with⟨rfl,_,rfl⟩|⟨b,C,low,r,rfl,_⟩<;>rfl
def aT.same{m k:Nat}{H H':aa}{s:ae}{L:List ae}(h:aT m H s L k)(hn:H.next<=H'.next)(e:bx s λc=>H'.get c=H.get c):aT m H' s L k:=by
 rcases h with h|⟨b,C,low,r,rfl,h2,h3,h4,h5,h6,h7,h8⟩
 ·exact .inl h
 ·exact .inr ⟨b,C,low,r,rfl,h2,(e _ _ _ rfl).trans h3,h4,h5,h6,h7,om⟩
def aT.blk{m k:Nat}{H:aa}{s:ae}{L:List ae}(h:aT m H s L k):bx s (·<H.next):=by
 rcases h with⟨rfl,_⟩|⟨b,C,low,r,rfl,h2,h3,h4,h5,h6,h7,h8⟩
 ·exact cP _
 ·exact cp h8
def aT.built{m k:Nat}(H:aa){xs:List ae}(hx:xs.length=k*m):aT m (H.push (.cells xs 0 false)) (.slice (some ⟨H.next,xs.length,0⟩) k (.known k)) xs k:=.inr ⟨H.next,xs,0,.known k,rfl,.inr ⟨k,rfl,Nat.le_refl _,hx⟩,by rw[aa.get_push];exact if_pos rfl,Nat.zero_le _,by rw[<- hx,List.take_length],hx,om,Nat.lt_succ_self _⟩
def aT.many{m k j:Nat}{H:aa}{s x:ae}{L xs:List ae}(h:aT m H s L k)(hs:gz m H x=some (j,xs))(hx:xs.length=j*m)(ho:xs.all ae.one=true)(hm:0<m){bytes:Nat}(hb:2*(k+j)*bytes<=281474976710656)(hb1:0<bytes) :
  ∃s' H',a8 m bytes H s x=some (s',H')/\aT m H' s' (L++xs) (k+j)/\H.next<=H'.next/\(∀P,bx s P->bx s' λb=>P b∨H.next<=b)/\∀c,c<H.next->bx s (c≠·)->H'.get c=H.get c:=by
 by_cases hj:j=0
 ·subst hj;have hxs:xs=[]:=List.length_eq_zero_iff.1 om;subst hxs;rw[List.append_nil,Nat.add_zero];refine⟨s,H,?_,h,Nat.le_refl _,λP hP=>hP.mono λb hb=>.inl hb,λ_ _ _=>rfl⟩;simp only[a8,hs,show Nat.beq 0 0=true from rfl,cond_true];rcases h with⟨rfl,_⟩|⟨b,C,low,r,rfl,_⟩<;>rfl
 have hxl:0<xs.length:=by rw[hx];exact Nat.mul_pos om hm
 have hlen:k+j<=9223372036854775807:=by have:2*(k+j)<=2*(k+j)*bytes:=Nat.le_mul_of_pos_right _ hb1;omega
 have hlt:Nat.blt 0 m=true:=by simpa[Nat.blt_eq]using hm
 have e0:Nat.beq j 0=false:=by rw[ch];exact decide_eq_false hj
 have c1:∀q,q=k->(Nat.blt 0 m&&(Nat.ble ((2*(q+j)+0)*bytes) 281474976710656&&(Nat.ble (q+j) 9223372036854775807&&(Nat.beq xs.length (j*m)&&xs.all ae.one))))=true:=by intro q hq;subst hq;simp only[Nat.add_zero,Xz hb,Xz hlen,hx,Nat.beq_refl,ho,hlt,Bool.and_self]
 have hadd:(k+j)*m=k*m+j*m:=Nat.add_mul _ _ _;rcases h with⟨rfl,rfl,rfl⟩|⟨b,C,low,r,rfl,h2,h3,h4,h5,h6,h7,h8⟩
 ·refine⟨.slice (some ⟨H.next,xs.length,0⟩) j (.open_ m),H.push (.cells xs 0 false),?_,.inr ⟨H.next,xs,0,.open_ m,by simp,.inl rfl,by rw[aa.get_push];exact if_pos rfl,Nat.zero_le _,by rw[Nat.zero_add,<- hx,List.take_length];rfl,by simp[hx],by rw[Nat.zero_add];omega,Nat.lt_succ_self _⟩,by simp[aa.push],λP _=>cp (.inr rL),λc hc _=>aB hc⟩;simp only[a8,hs,e0,cond_false,aX];rw[c1 0 rfl,cond_true]
 ·have hw:(k+j)*m<=C.length->eP H ⟨b,C.length,0+k*m⟩ xs=some (H.set b (.cells (C.take (k*m)++(xs++C.drop (k*m+j*m))) C.length false)):=by
   intro hle;unfold eP;simp only[h3,Xz h4,Nat.beq_refl,Nat.zero_add,hx,Xz (show k*m+j*m<=C.length by omega),ho,Bool.and_self,cond_true]
  have hl2:(k+j)*m<=C.length->(C.take (k*m)++(xs++C.drop (k*m+j*m))).length=C.length:=by intro hle;simp[hx];omega
  have hL2:(k+j)*m<=C.length->(C.take (k*m)++(xs++C.drop (k*m+j*m))).take ((k+j)*m)=L++xs:=by
   intro hle;have e:(k+j)*m=(L++xs).length:=by rw[lA,h6,hx,hadd]
   rw[h5,<- List.append_assoc,e,List.take_left]
  have hLl:(L++xs).length=(k+j)*m:=by rw[lA,h6,hx,hadd]
  have hr:bH H ⟨b,C.length,0⟩ (k*m)=some L:=by have:=iF (H:=H) ⟨low,h3,h4⟩ rfl (i:=0) (k:=k*m) om;rw[this,List.drop_zero,h5]
  rcases h2 with rfl|⟨cap,rfl,hkc,hcap⟩
  ·by_cases hin:(k+j)*m<=C.length
   ·refine⟨.slice (some ⟨b,C.length,0⟩) (k+j) (.open_ m),H.set b (.cells (C.take (k*m)++(xs++C.drop (k*m+j*m))) C.length false),?_,.inr ⟨b,C.take (k*m)++(xs++C.drop (k*m+j*m)),C.length,.open_ m,by rw[hl2 hin],.inl rfl,by rw[aa.get_set,if_pos rfl],by rw[hl2 hin];exact Nat.le_refl _,hL2 hin,hLl,by rw[hl2 hin];exact hin,h8⟩,Nat.le_refl _,λP hP=>(have q:P b:=hP _ _ _ rfl;cp (.inl q)),λc hc hd=>by rw[aa.get_set,if_neg (hd _ _ _ rfl)]⟩;simp only[a8,hs,e0,cond_false];rw[c1 k rfl,cond_true];simp only[Nat.beq_refl,cond_true,Xz (show 0+(k+j)*m<=C.length by omega),hw hin]
   ·have hgrow:df H ⟨b,C.length,0⟩ (0+k*m) xs=some (H.set b (.cells (C.take (0+k*m)++xs) (bif Nat.beq (0+k*m) C.length then low else 0+k*m+xs.length) false)):=by
     unfold df;simp only[h3,Xz h4,Nat.beq_refl,Xz (show 0+k*m<=C.length by omega),Xz (Nat.zero_le _),Xz (show C.length+1<=0+k*m+xs.length by omega),ho,Bool.and_self,cond_true]
    have ei:Nat.ble (0+(k+j)*m) C.length=false:=by rw[iT];exact decide_eq_false om
    have eC:C.take (0+k*m)++xs=L++xs:=by rw[Nat.zero_add,h5]
    have eN:0+k*m+xs.length=(L++xs).length:=by rw[hLl,hx,hadd,Nat.zero_add]
    rw[eC]at hgrow;refine⟨.slice (some ⟨b,0+k*m+xs.length,0⟩) (k+j) (.open_ m),H.set b (.cells (L++xs) (bif Nat.beq (0+k*m) C.length then low else 0+k*m+xs.length) false),?_,.inr ⟨b,L++xs,_,.open_ m,by rw[eN],.inl rfl,by rw[aa.get_set,if_pos rfl],?_,by rw[<- hLl,List.take_length],hLl,om,h8⟩,Nat.le_refl _,λP hP=>(have q:P b:=hP _ _ _ rfl;cp (.inl q)),λc hc hd=>by rw[aa.get_set,if_neg (hd _ _ _ rfl)]⟩
    ·simp only[a8,hs,e0,cond_false];rw[c1 k rfl,cond_true];simp only[Nat.beq_refl,cond_true,ei,cond_false,hgrow]
    ·rw[<- eN];cases Nat.beq (0+k*m) C.length
     ·exact Nat.le_refl _
     ·simp only[cond_true];omega
  ·by_cases hin:k+j<=cap
   ·have hle:(k+j)*m<=C.length:=by rw[hcap];exact Nat.mul_le_mul_right _ hin
    refine⟨.slice (some ⟨b,C.length,0⟩) (k+j) (.known cap),H.set b (.cells (C.take (k*m)++(xs++C.drop (k*m+j*m))) C.length false),?_,.inr ⟨b,C.take (k*m)++(xs++C.drop (k*m+j*m)),C.length,.known cap,by rw[hl2 hle],.inr ⟨cap,rfl,hin,by rw[hl2 hle];exact hcap⟩,by rw[aa.get_set,if_pos rfl],by rw[hl2 hle];exact Nat.le_refl _,hL2 hle,hLl,by rw[hl2 hle];exact hle,h8⟩,Nat.le_refl _,λP hP=>(have q:P b:=hP _ _ _ rfl;cp (.inl q)),λc hc hd=>by rw[aa.get_set,if_neg (hd _ _ _ rfl)]⟩;simp only[a8,hs,e0,cond_false];rw[c1 k rfl,cond_true];simp only[Xz hin,cond_true,hw hle]
   ·have ei:Nat.ble (k+j) cap=false:=by rw[iT];exact decide_eq_false hin
    refine⟨.slice (some ⟨H.next,(L++xs).length,0⟩) (k+j) (.open_ m),H.push (.cells (L++xs) 0 false),?_,.inr ⟨H.next,L++xs,0,.open_ m,rfl,.inl rfl,by rw[aa.get_push];exact if_pos rfl,Nat.zero_le _,by rw[<- hLl,List.take_length],hLl,om,Nat.lt_succ_self _⟩,by simp[aa.push],λP _=>cp (.inr rL),λc hc _=>aB hc⟩;simp only[a8,hs,e0,cond_false];rw[c1 k rfl,cond_true];simp only[ei,cond_false,hr]
def aT.add{m k j:Nat}{H:aa}{s:ae}{L xs:List ae}(h:aT m H s L k)(hx:xs.length=j*m)(ho:xs.all ae.one=true)(hm:0<m){bytes:Nat}(hb:2*(k+j)*bytes<=281474976710656)(hb1:0<bytes) :
  ∃s' H',a8 m bytes (H.push (.cells xs 0 false)) s (.slice (some ⟨H.next,xs.length,0⟩) j (.known j))=some (s',H')/\aT m H' s' (L++xs) (k+j)/\H.next<=H'.next/\(∀P,bx s P->bx s' λb=>P b∨H.next<=b)/\∀c,c<H.next->bx s (c≠·)->H'.get c=H.get c:=by
 have hs:gz m (H.push (.cells xs 0 false)) (.slice (some ⟨H.next,xs.length,0⟩) j (.known j))=some (j,xs):=by have:=fA (H:=H.push (.cells xs 0 false)) (b:=H.next) (l:=xs) (low:=0) (ro:=false) (by rw[aa.get_push,if_pos rfl]) (Nat.zero_le _);simp only[gz,<- hx,this]
 obtain⟨s',H',a1,a2,a3,a4,a5⟩:=(h.same (H':=H.push (.cells xs 0 false)) (by simp[aa.push]) (h.blk.mono λb hb=>aB hb)).many hs hx ho hm hb hb1;simp only[aV]at a3 a5;exact⟨s',H',a1,a2,om,λP hP=>(a4 P hP).mono λb hb=>hb.imp (λq=>q) λq=>by rw[aV]at q;omega,λc hc hd=>(a5 c om hd).trans (aB hc)⟩
def aT.at{m k:Nat}{H:aa}{s:ae}{L:List ae}(h:aT m H s L k){i:Nat}(hi:i<k):∃b lim,jk m s (.int .i64 (i:Int))=some (ah b lim (i*m))/\al true m H (ah b lim (i*m))=some (.agg ((L.drop (i*m)).take m))/\bx s (b=·):=by
 have him:i*m+m<=k*m:=by have:(i+1)*m<=k*m:=Nat.mul_le_mul_right _ hi;rwa [Nat.add_mul,Nat.one_mul]at this
 have hb:Nat.blt i k=true:=by simpa[Nat.blt_eq]using hi
 rcases h with⟨_,_,h⟩|⟨b,C,low,r,rfl,h2,h3,h4,h5,h6,h7,h8⟩
 ·omega
 ·refine⟨b,C.length,?_,?_,cp rfl⟩
  ·rcases h2 with rfl|⟨cap,rfl,_⟩
   ·exact Ra .i64 hi
   ·show(bif Nat.blt i k then some (ae.ptr (some ⟨b,C.length,0+i*m⟩))else none)=_;rw[hb,Nat.zero_add];rfl
  ·rw[gQ ⟨low,h3,h4⟩ rfl om];congr 2;rw[<- h5,List.drop_take,List.take_take,Nat.min_eq_left om]
end Go.Abs.S
namespace Go.Abs.S
open Go.Abs
def er{C:CS}{T:bZ}{H:aa}{Q:pq}{l:List aD}{chk:List (List Nat)}(h:fV C (aH H.next l) T (bp H l) λss T' H'=>DC (bp H l::ss.map (·.2)) (aH H.next l) chk ss T/\Q .normal T' H'):wp C (.draw l chk) Q T H:=h
def gj{C:CS}{T:bZ}{H:aa}{K:List (ae×aa)->bZ->aa->Prop}{d:Option Nat}{r:List aD}(b:Nat)(z:List ae)(s:Option (Nat×Nat)):fV C (⟨d,.claim b z s,none⟩::r) T H K=gC (ec H b z s) C r T d H K:=_root_.id rfl
def fG{H:aa}{b:Nat}{z:List ae}(h:H.get b=some (.cells z 0 false))(hz:aeqs z z=true):ec H b z none=some (ah b z.length 0):=by unfold ec;simp only[h,hz,Cw,Bool.not_false,Bool.and_self,cond_true];rfl
def dE{T:bZ}{d:Option Nat}(hs:List aa)(p:Nat)(q:List Nat)(b:Nat)(z:List ae)(s:Option (Nat×Nat))(g:Option (Nat×Bool))(v:ae):Nk hs (p::q) T ⟨d,.claim b z s,g⟩ v=((∃Hp,hs[p]?=some Hp/\(sG T g=true->∃u,ec Hp b z s=some u/\aeq u v=true))/\Nk hs q T ⟨d,.claim b z s,g⟩ v):=by simp[Nk,T5]
def fS(b n i:Nat):aeq (ah b n i) (ah b n i)=true:=by simp[aeq,ah]
end Go.Abs.S
namespace Go.Abs.S
open Go.Abs Go.WideShapes Go.ChangeShapes
variable {H:Type} {enc:TypeId×Value->H}
end Go.Abs.S
namespace Go.Abs.S
open Go.Abs
abbrev zi(n:Nat):bW:=.c (.int .i64 (.ofNat n))
abbrev zu(n:Nat):bW:=.c (.int .u8 (.ofNat n))
abbrev zn:bW:=.c (.slice none 0 (.known 0))
abbrev zI(n:Nat):ae:=.int .i64 (.ofNat n)
abbrev zU(n:Nat):ae:=.int .u8 (.ofNat n)
abbrev zN:ae:=.slice none 0 (.known 0)
abbrev zo(d:Nat)(p:jz):aD:=⟨some d,p,none⟩
abbrev zp(p:jz):aD:=⟨none,p,none⟩
abbrev zg(d:Nat)(p:jz)(t:Nat)(b:Bool):aD:=⟨some d,p,some (t,b)⟩
abbrev zm(d x:Nat):aD:=⟨some d,.mv (.t x),none⟩
abbrev zc(d x:Nat):aD:=⟨some d,.nilChk (.t x),none⟩
abbrev zf(d n x:Nat):aD:=⟨some d,.fieldA n (.t x),none⟩
abbrev zl(d x:Nat):aD:=⟨some d,.load false 1 (.t x),none⟩
abbrev zt(d n x:Nat):aD:=⟨some d,.load true n (.t x),none⟩
abbrev ze(d n x:Nat):aD:=⟨some d,.extract n (.t x),none⟩
abbrev zb(d:Nat)(o:BinOp)(x y:Nat):aD:=⟨some d,.bin o (.t x) (.t y),none⟩
abbrev zk(d:Nat)(o:BinOp)(x n:Nat):aD:=⟨some d,.bin o (.t x) (.c (.int .i64 (.ofNat n))),none⟩
abbrev zx(d f:Nat)(l:List bW):aD:=⟨some d,.call f l,none⟩
abbrev zh(d x:Nat):aD:=⟨some d,.len false (.t x),none⟩
abbrev zd(d x y:Nat):aD:=⟨some d,.idxA 1 (.t x) (.t y),none⟩
abbrev zy(d x y:Nat):aD:=⟨some d,.append 1 1 (.t x) (.t y),none⟩
abbrev zv(d:Nat)(k:IntKind)(x:Nat):aD:=⟨some d,.conv k (.t x),none⟩
abbrev zs(x y:Nat):aD:=⟨none,.store 1 (.t x) (.t y),none⟩
abbrev zq(l:List aD)(c:cK):cK:=.seq (.reg l) c
abbrev zr(l:List aD)(x:Nat)(a b c:cK):cK:=.seq (.seq (.reg l) (.cond (.t x) a b)) c
def Pz(n:Nat):zI n=.int .i64 (n:Int):=_root_.id rfl
def Px(n:Nat):zU n=.int .u8 (n:Int):=_root_.id rfl
def Py:zN=.slice none 0 (.known 0):=_root_.id rfl
def sB:type_of% (And.intro @Pz (And.intro @Px Py)):=And.intro @Pz (And.intro @Px Py)
def sC:type_of% (And.intro @sA @sB):=And.intro @sA @sB
end Go.Abs.S
namespace Go.Proofs.Wo
open Go.Abs Go.Abs.S
noncomputable section
set_option maxRecDepth 100000
def c62:cf:=by
 refine(λx (_:cN Tryz.prog 62=some x)=>x) ?a ?b
 case b=>cbv;rfl
def We:cN Tryz.prog 62=some c62:=by kernel_rfl
def Vi:cf:=by
 refine(λx (_:cN Tryz.prog 101=some x)=>x) ?a ?b
 case b=>cbv;rfl
def T3:cN Tryz.prog 101=some Vi:=by kernel_rfl
def Ve:cf:=by
 refine(λx (_:cN Tryz.prog 107=some x)=>x) ?a ?b
 case b=>cbv;rfl
def TU:cN Tryz.prog 107=some Ve:=by kernel_rfl
def UP:cf:=by
 refine(λx (_:cN Tryz.prog 146=some x)=>x) ?a ?b
 case b=>cbv;rfl
def Tn:cN Tryz.prog 146=some UP:=by kernel_rfl
def UO:cf:=⟨5,zq [zo 2 (.mv (.c (.bool false)))] (zq [zm 3 0,zo 4 (.bin .neq (.t 3) (zu 10)),zm 2 4] .ret),[.t 2]⟩
def Tm:cN Tryz.prog 147=some UO:=by kernel_rfl
def Vh:cf:=by
 refine(λx (_:cN Tryz.prog 102=some x)=>x) ?a ?b
 case b=>cbv;rfl
def TZ:cN Tryz.prog 102=some Vh:=by kernel_rfl
def RA:cf:=by
 refine(λx (_:cN Tryz.prog 181=some x)=>x) ?a ?b
 case b=>cbv;rfl
def SK:cN Tryz.prog 181=some RA:=by kernel_rfl
def Rx:cf:=⟨8,zq [zo 4 (.mv (zi 0))] (zq [zm 5 0,zm 6 1,zo 7 (.pf .ibs [.t 5,.t 6]),zm 4 7] .ret),[.t 4]⟩
def Pv:cN Tryz.prog 184=some Rx:=by kernel_rfl
def O9:cf:=by
 refine(λx (_:cN Tryz.prog 103=some x)=>x) ?a ?b
 case b=>cbv;rfl
def TY:cN Tryz.prog 103=some O9:=by kernel_rfl
def Vg:cf:=by
 refine(λx (_:cN Tryz.prog 104=some x)=>x) ?a ?b
 case b=>cbv;rfl
def TX:cN Tryz.prog 104=some Vg:=by kernel_rfl
def RL:cf:=by
 refine(λx (_:cN Tryz.prog 105=some x)=>x) ?a ?b
 case b=>cbv;rfl
def TW:cN Tryz.prog 105=some RL:=by kernel_rfl
def UN:cf:=by
 refine(λx (_:cN Tryz.prog 151=some x)=>x) ?a ?b
 case b=>cbv;rfl
def Tl:cN Tryz.prog 151=some UN:=by kernel_rfl
def Ux:cf:=by
 refine(λx (_:cN Tryz.prog 182=some x)=>x) ?a ?b
 case b=>cbv;rfl
def SJ:cN Tryz.prog 182=some Ux:=by kernel_rfl
def UM:cf:=by
 refine(λx (_:cN Tryz.prog 152=some x)=>x) ?a ?b
 case b=>cbv;rfl
def Tk:cN Tryz.prog 152=some UM:=by kernel_rfl
def Vf:cf:=by
 refine(λx (_:cN Tryz.prog 106=some x)=>x) ?a ?b
 case b=>cbv;rfl
def TV:cN Tryz.prog 106=some Vf:=by kernel_rfl
def Vd:cf:=by
 refine(λx (_:cN Tryz.prog 108=some x)=>x) ?a ?b
 case b=>cbv;rfl
def TT:cN Tryz.prog 108=some Vd:=by kernel_rfl
def Vb:cf:=⟨5,zq [zo 2 (.mv (.c (.str [])))] (zq [zm 3 0,zx 4 153 [.t 3],zm 2 4] .ret),[.t 2]⟩
def TS:cN Tryz.prog 109=some Vb:=by kernel_rfl
def C8:cf:=by
 refine(λx (_:cN Tryz.prog 110=some x)=>x) ?a ?b
 case b=>cbv;rfl
def TQ:cN Tryz.prog 110=some C8:=by kernel_rfl
def Va:cf:=by
 refine(λx (_:cN Tryz.prog 111=some x)=>x) ?a ?b
 case b=>cbv;rfl
def TP:cN Tryz.prog 111=some Va:=by kernel_rfl
def UL:cf:=⟨8,zq [zo 4 (.mv (.c (.bool false)))] (zq [zm 5 0,zm 6 1,zx 7 183 [.t 5,.t 6],zm 4 7] .ret),[.t 4]⟩
def Tj:cN Tryz.prog 154=some UL:=by kernel_rfl
def Rz:cf:=by
 refine(λx (_:cN Tryz.prog 183=some x)=>x) ?a ?b
 case b=>cbv;rfl
def SI:cN Tryz.prog 183=some Rz:=by kernel_rfl
def UK:cf:=⟨8,zq [zo 4 (.mv (zi 0))] (zq [zm 5 0,zm 6 1,zx 7 184 [.t 5,.t 6],zm 4 7] .ret),[.t 4]⟩
def Ti:cN Tryz.prog 155=some UK:=by kernel_rfl
def Uz:cf:=by
 refine(λx (_:cN Tryz.prog 177=some x)=>x) ?a ?b
 case b=>cbv;rfl
def SO:cN Tryz.prog 177=some Uz:=by kernel_rfl
def Uy:cf:=by
 refine(λx (_:cN Tryz.prog 178=some x)=>x) ?a ?b
 case b=>cbv;rfl
def SN:cN Tryz.prog 178=some Uy:=by kernel_rfl
def Ut:cf:=by
 refine(λx (_:cN Tryz.prog 196=some x)=>x) ?a ?b
 case b=>cbv;rfl
def SB:cN Tryz.prog 196=some Ut:=by kernel_rfl
def Uu:cf:=⟨6,zq [zo 2 (.mv (zi 0))] (zq [zm 3 0,zk 4 .mul 3 78913,zo 5 (.bin .shr (.t 4) (.c (.int .u64 (.ofNat 18)))),zm 2 5] .ret),[.t 2]⟩
def SC:cN Tryz.prog 195=some Uu:=by kernel_rfl
def Rt:cf:=⟨4,zq [zo 2 (.mv (zi 0))] (zr [zm 3 0] 3 (zq [zo 2 (.mv (zi 1))] .ret) .skip (zq [zo 2 (.mv (zi 0))] .ret)),[.t 2]⟩
def SA:cN Tryz.prog 197=some Rt:=by kernel_rfl
def FH:cf:=⟨167,zq [zm 17 0,zh 18 17,zm 4 18] (.seq (.block 0 (.loop (zr [zm 19 4,zk 20 .geq 19 8] 20 .skip (.exit 0) (.block 1 (zq [zm 21 1,zo 22 (.bin .rem (.t 21) (.c (.int .u64 (.ofNat 100000000)))),zv 23 .u32 22,zm 5 23] (zq [zm 24 1,zo 25 (.bin .quo (.t 24) (.c (.int .u64 (.ofNat 100000000)))),zm 1 25] (zq [zm 26 5,zo 27 (.bin .quo (.t 26) (.c (.int .u32 (.ofNat 10000)))),zm 28 5,zo 29 (.bin .rem (.t 28) (.c (.int .u32 (.ofNat 10000)))),zm 6 27,zm 7 29] (zq [zm 30 7,zo 31 (.bin .quo (.t 30) (.c (.int .u32 (.ofNat 100)))),zo 32 (.bin .mul (.t 31) (.c (.int .u32 (.ofNat 2)))),zm 33 7,zo 34 (.bin .rem (.t 33) (.c (.int .u32 (.ofNat 100)))),zo 35 (.bin .mul (.t 34) (.c (.int .u32 (.ofNat 2)))),zm 8 32,zm 9 35] (zq [zm 36 6,zo 37 (.bin .quo (.t 36) (.c (.int .u32 (.ofNat 100)))),zo 38 (.bin .mul (.t 37) (.c (.int .u32 (.ofNat 2)))),zm 39 6,zo 40 (.bin .rem (.t 39) (.c (.int .u32 (.ofNat 100)))),zo 41 (.bin .mul (.t 40) (.c (.int .u32 (.ofNat 2)))),zm 10 38,zm 11 41] (zq [zm 42 0,zm 43 4,zk 44 .sub 43 1,zm 45 0,zm 46 4,zk 47 .sub 46 2,zm 48 9,zo 49 (.bin .add (.t 48) (.c (.int .u32 (.ofNat 1)))),zo 50 (.idxS (.c (.str [48,48,48,49,48,50,48,51,48,52,48,53,48,54,48,55,48,56,48,57,49,48,49,49,49,50,49,51,49,52,49,53,49,54,49,55,49,56,49,57,50,48,50,49,50,50,50,51,50,52,50,53,50,54,50,55,50,56,50,57,51,48,51,49,51,50,51,51,51,52,51,53,51,54,51,55,51,56,51,57,52,48,52,49,52,50,52,51,52,52,52,53,52,54,52,55,52,56,52,57,53,48,53,49,53,50,53,51,53,52,53,53,53,54,53,55,53,56,53,57,54,48,54,49,54,50,54,51,54,52,54,53,54,54,54,55,54,56,54,57,55,48,55,49,55,50,55,51,55,52,55,53,55,54,55,55,55,56,55,57,56,48,56,49,56,50,56,51,56,52,56,53,56,54,56,55,56,56,56,57,57,48,57,49,57,50,57,51,57,52,57,53,57,54,57,55,57,56,57,57])) (.t 49)),zm 51 9,zo 52 (.idxS (.c (.str [48,48,48,49,48,50,48,51,48,52,48,53,48,54,48,55,48,56,48,57,49,48,49,49,49,50,49,51,49,52,49,53,49,54,49,55,49,56,49,57,50,48,50,49,50,50,50,51,50,52,50,53,50,54,50,55,50,56,50,57,51,48,51,49,51,50,51,51,51,52,51,53,51,54,51,55,51,56,51,57,52,48,52,49,52,50,52,51,52,52,52,53,52,54,52,55,52,56,52,57,53,48,53,49,53,50,53,51,53,52,53,53,53,54,53,55,53,56,53,57,54,48,54,49,54,50,54,51,54,52,54,53,54,54,54,55,54,56,54,57,55,48,55,49,55,50,55,51,55,52,55,53,55,54,55,55,55,56,55,57,56,48,56,49,56,50,56,51,56,52,56,53,56,54,56,55,56,56,56,57,57,48,57,49,57,50,57,51,57,52,57,53,57,54,57,55,57,56,57,57])) (.t 51)),zd 53 42 44,zs 53 50,zd 54 45 47,zs 54 52] (zq [zm 55 0,zm 56 4,zk 57 .sub 56 3,zm 58 0,zm 59 4,zk 60 .sub 59 4,zm 61 8,zo 62 (.bin .add (.t 61) (.c (.int .u32 (.ofNat 1)))),zo 63 (.idxS (.c (.str [48,48,48,49,48,50,48,51,48,52,48,53,48,54,48,55,48,56,48,57,49,48,49,49,49,50,49,51,49,52,49,53,49,54,49,55,49,56,49,57,50,48,50,49,50,50,50,51,50,52,50,53,50,54,50,55,50,56,50,57,51,48,51,49,51,50,51,51,51,52,51,53,51,54,51,55,51,56,51,57,52,48,52,49,52,50,52,51,52,52,52,53,52,54,52,55,52,56,52,57,53,48,53,49,53,50,53,51,53,52,53,53,53,54,53,55,53,56,53,57,54,48,54,49,54,50,54,51,54,52,54,53,54,54,54,55,54,56,54,57,55,48,55,49,55,50,55,51,55,52,55,53,55,54,55,55,55,56,55,57,56,48,56,49,56,50,56,51,56,52,56,53,56,54,56,55,56,56,56,57,57,48,57,49,57,50,57,51,57,52,57,53,57,54,57,55,57,56,57,57])) (.t 62)),zm 64 8,zo 65 (.idxS (.c (.str [48,48,48,49,48,50,48,51,48,52,48,53,48,54,48,55,48,56,48,57,49,48,49,49,49,50,49,51,49,52,49,53,49,54,49,55,49,56,49,57,50,48,50,49,50,50,50,51,50,52,50,53,50,54,50,55,50,56,50,57,51,48,51,49,51,50,51,51,51,52,51,53,51,54,51,55,51,56,51,57,52,48,52,49,52,50,52,51,52,52,52,53,52,54,52,55,52,56,52,57,53,48,53,49,53,50,53,51,53,52,53,53,53,54,53,55,53,56,53,57,54,48,54,49,54,50,54,51,54,52,54,53,54,54,54,55,54,56,54,57,55,48,55,49,55,50,55,51,55,52,55,53,55,54,55,55,55,56,55,57,56,48,56,49,56,50,56,51,56,52,56,53,56,54,56,55,56,56,56,57,57,48,57,49,57,50,57,51,57,52,57,53,57,54,57,55,57,56,57,57])) (.t 64)),zd 66 55 57,zs 66 63,zd 67 58 60,zs 67 65] (zq [zm 68 0,zm 69 4,zk 70 .sub 69 5,zm 71 0,zm 72 4,zk 73 .sub 72 6,zm 74 11,zo 75 (.bin .add (.t 74) (.c (.int .u32 (.ofNat 1)))),zo 76 (.idxS (.c (.str [48,48,48,49,48,50,48,51,48,52,48,53,48,54,48,55,48,56,48,57,49,48,49,49,49,50,49,51,49,52,49,53,49,54,49,55,49,56,49,57,50,48,50,49,50,50,50,51,50,52,50,53,50,54,50,55,50,56,50,57,51,48,51,49,51,50,51,51,51,52,51,53,51,54,51,55,51,56,51,57,52,48,52,49,52,50,52,51,52,52,52,53,52,54,52,55,52,56,52,57,53,48,53,49,53,50,53,51,53,52,53,53,53,54,53,55,53,56,53,57,54,48,54,49,54,50,54,51,54,52,54,53,54,54,54,55,54,56,54,57,55,48,55,49,55,50,55,51,55,52,55,53,55,54,55,55,55,56,55,57,56,48,56,49,56,50,56,51,56,52,56,53,56,54,56,55,56,56,56,57,57,48,57,49,57,50,57,51,57,52,57,53,57,54,57,55,57,56,57,57])) (.t 75)),zm 77 11,zo 78 (.idxS (.c (.str [48,48,48,49,48,50,48,51,48,52,48,53,48,54,48,55,48,56,48,57,49,48,49,49,49,50,49,51,49,52,49,53,49,54,49,55,49,56,49,57,50,48,50,49,50,50,50,51,50,52,50,53,50,54,50,55,50,56,50,57,51,48,51,49,51,50,51,51,51,52,51,53,51,54,51,55,51,56,51,57,52,48,52,49,52,50,52,51,52,52,52,53,52,54,52,55,52,56,52,57,53,48,53,49,53,50,53,51,53,52,53,53,53,54,53,55,53,56,53,57,54,48,54,49,54,50,54,51,54,52,54,53,54,54,54,55,54,56,54,57,55,48,55,49,55,50,55,51,55,52,55,53,55,54,55,55,55,56,55,57,56,48,56,49,56,50,56,51,56,52,56,53,56,54,56,55,56,56,56,57,57,48,57,49,57,50,57,51,57,52,57,53,57,54,57,55,57,56,57,57])) (.t 77)),zd 79 68 70,zs 79 76,zd 80 71 73,zs 80 78] (zq [zm 81 0,zm 82 4,zk 83 .sub 82 7,zm 84 0,zm 85 4,zk 86 .sub 85 8,zm 87 10,zo 88 (.bin .add (.t 87) (.c (.int .u32 (.ofNat 1)))),zo 89 (.idxS (.c (.str [48,48,48,49,48,50,48,51,48,52,48,53,48,54,48,55,48,56,48,57,49,48,49,49,49,50,49,51,49,52,49,53,49,54,49,55,49,56,49,57,50,48,50,49,50,50,50,51,50,52,50,53,50,54,50,55,50,56,50,57,51,48,51,49,51,50,51,51,51,52,51,53,51,54,51,55,51,56,51,57,52,48,52,49,52,50,52,51,52,52,52,53,52,54,52,55,52,56,52,57,53,48,53,49,53,50,53,51,53,52,53,53,53,54,53,55,53,56,53,57,54,48,54,49,54,50,54,51,54,52,54,53,54,54,54,55,54,56,54,57,55,48,55,49,55,50,55,51,55,52,55,53,55,54,55,55,55,56,55,57,56,48,56,49,56,50,56,51,56,52,56,53,56,54,56,55,56,56,56,57,57,48,57,49,57,50,57,51,57,52,57,53,57,54,57,55,57,56,57,57])) (.t 88)),zm 90 10,zo 91 (.idxS (.c (.str [48,48,48,49,48,50,48,51,48,52,48,53,48,54,48,55,48,56,48,57,49,48,49,49,49,50,49,51,49,52,49,53,49,54,49,55,49,56,49,57,50,48,50,49,50,50,50,51,50,52,50,53,50,54,50,55,50,56,50,57,51,48,51,49,51,50,51,51,51,52,51,53,51,54,51,55,51,56,51,57,52,48,52,49,52,50,52,51,52,52,52,53,52,54,52,55,52,56,52,57,53,48,53,49,53,50,53,51,53,52,53,53,53,54,53,55,53,56,53,57,54,48,54,49,54,50,54,51,54,52,54,53,54,54,54,55,54,56,54,57,55,48,55,49,55,50,55,51,55,52,55,53,55,54,55,55,55,56,55,57,56,48,56,49,56,50,56,51,56,52,56,53,56,54,56,55,56,56,56,57,57,48,57,49,57,50,57,51,57,52,57,53,57,54,57,55,57,56,57,57])) (.t 90)),zd 92 81 83,zs 92 89,zd 93 84 86,zs 93 91] (.reg [zm 94 4,zk 95 .sub 94 8,zm 4 95])))))))))))))) (zq [zm 96 1,zv 97 .u32 96,zm 12 97] (zr [zm 98 4,zk 99 .geq 98 4] 99 (zq [zm 100 12,zo 101 (.bin .rem (.t 100) (.c (.int .u32 (.ofNat 10000)))),zm 13 101] (zq [zm 102 12,zo 103 (.bin .quo (.t 102) (.c (.int .u32 (.ofNat 10000)))),zm 12 103] (zq [zm 104 13,zo 105 (.bin .quo (.t 104) (.c (.int .u32 (.ofNat 100)))),zo 106 (.bin .mul (.t 105) (.c (.int .u32 (.ofNat 2)))),zm 107 13,zo 108 (.bin .rem (.t 107) (.c (.int .u32 (.ofNat 100)))),zo 109 (.bin .mul (.t 108) (.c (.int .u32 (.ofNat 2)))),zm 14 106,zm 15 109] (zq [zm 110 0,zm 111 4,zk 112 .sub 111 1,zm 113 0,zm 114 4,zk 115 .sub 114 2,zm 116 15,zo 117 (.bin .add (.t 116) (.c (.int .u32 (.ofNat 1)))),zo 118 (.idxS (.c (.str [48,48,48,49,48,50,48,51,48,52,48,53,48,54,48,55,48,56,48,57,49,48,49,49,49,50,49,51,49,52,49,53,49,54,49,55,49,56,49,57,50,48,50,49,50,50,50,51,50,52,50,53,50,54,50,55,50,56,50,57,51,48,51,49,51,50,51,51,51,52,51,53,51,54,51,55,51,56,51,57,52,48,52,49,52,50,52,51,52,52,52,53,52,54,52,55,52,56,52,57,53,48,53,49,53,50,53,51,53,52,53,53,53,54,53,55,53,56,53,57,54,48,54,49,54,50,54,51,54,52,54,53,54,54,54,55,54,56,54,57,55,48,55,49,55,50,55,51,55,52,55,53,55,54,55,55,55,56,55,57,56,48,56,49,56,50,56,51,56,52,56,53,56,54,56,55,56,56,56,57,57,48,57,49,57,50,57,51,57,52,57,53,57,54,57,55,57,56,57,57])) (.t 117)),zm 119 15,zo 120 (.idxS (.c (.str [48,48,48,49,48,50,48,51,48,52,48,53,48,54,48,55,48,56,48,57,49,48,49,49,49,50,49,51,49,52,49,53,49,54,49,55,49,56,49,57,50,48,50,49,50,50,50,51,50,52,50,53,50,54,50,55,50,56,50,57,51,48,51,49,51,50,51,51,51,52,51,53,51,54,51,55,51,56,51,57,52,48,52,49,52,50,52,51,52,52,52,53,52,54,52,55,52,56,52,57,53,48,53,49,53,50,53,51,53,52,53,53,53,54,53,55,53,56,53,57,54,48,54,49,54,50,54,51,54,52,54,53,54,54,54,55,54,56,54,57,55,48,55,49,55,50,55,51,55,52,55,53,55,54,55,55,55,56,55,57,56,48,56,49,56,50,56,51,56,52,56,53,56,54,56,55,56,56,56,57,57,48,57,49,57,50,57,51,57,52,57,53,57,54,57,55,57,56,57,57])) (.t 119)),zd 121 110 112,zs 121 118,zd 122 113 115,zs 122 120] (zq [zm 123 0,zm 124 4,zk 125 .sub 124 3,zm 126 0,zm 127 4,zk 128 .sub 127 4,zm 129 14,zo 130 (.bin .add (.t 129) (.c (.int .u32 (.ofNat 1)))),zo 131 (.idxS (.c (.str [48,48,48,49,48,50,48,51,48,52,48,53,48,54,48,55,48,56,48,57,49,48,49,49,49,50,49,51,49,52,49,53,49,54,49,55,49,56,49,57,50,48,50,49,50,50,50,51,50,52,50,53,50,54,50,55,50,56,50,57,51,48,51,49,51,50,51,51,51,52,51,53,51,54,51,55,51,56,51,57,52,48,52,49,52,50,52,51,52,52,52,53,52,54,52,55,52,56,52,57,53,48,53,49,53,50,53,51,53,52,53,53,53,54,53,55,53,56,53,57,54,48,54,49,54,50,54,51,54,52,54,53,54,54,54,55,54,56,54,57,55,48,55,49,55,50,55,51,55,52,55,53,55,54,55,55,55,56,55,57,56,48,56,49,56,50,56,51,56,52,56,53,56,54,56,55,56,56,56,57,57,48,57,49,57,50,57,51,57,52,57,53,57,54,57,55,57,56,57,57])) (.t 130)),zm 132 14,zo 133 (.idxS (.c (.str [48,48,48,49,48,50,48,51,48,52,48,53,48,54,48,55,48,56,48,57,49,48,49,49,49,50,49,51,49,52,49,53,49,54,49,55,49,56,49,57,50,48,50,49,50,50,50,51,50,52,50,53,50,54,50,55,50,56,50,57,51,48,51,49,51,50,51,51,51,52,51,53,51,54,51,55,51,56,51,57,52,48,52,49,52,50,52,51,52,52,52,53,52,54,52,55,52,56,52,57,53,48,53,49,53,50,53,51,53,52,53,53,53,54,53,55,53,56,53,57,54,48,54,49,54,50,54,51,54,52,54,53,54,54,54,55,54,56,54,57,55,48,55,49,55,50,55,51,55,52,55,53,55,54,55,55,55,56,55,57,56,48,56,49,56,50,56,51,56,52,56,53,56,54,56,55,56,56,56,57,57,48,57,49,57,50,57,51,57,52,57,53,57,54,57,55,57,56,57,57])) (.t 132)),zd 134 123 125,zs 134 131,zd 135 126 128,zs 135 133] (.reg [zm 136 4,zk 137 .sub 136 4,zm 4 137])))))) .skip (zr [zm 138 4,zk 139 .geq 138 2] 139 (zq [zm 140 12,zo 141 (.bin .rem (.t 140) (.c (.int .u32 (.ofNat 100)))),zo 142 (.bin .mul (.t 141) (.c (.int .u32 (.ofNat 2)))),zm 16 142] (zq [zm 143 12,zo 144 (.bin .quo (.t 143) (.c (.int .u32 (.ofNat 100)))),zm 12 144] (zq [zm 145 0,zm 146 4,zk 147 .sub 146 1,zm 148 0,zm 149 4,zk 150 .sub 149 2,zm 151 16,zo 152 (.bin .add (.t 151) (.c (.int .u32 (.ofNat 1)))),zo 153 (.idxS (.c (.str [48,48,48,49,48,50,48,51,48,52,48,53,48,54,48,55,48,56,48,57,49,48,49,49,49,50,49,51,49,52,49,53,49,54,49,55,49,56,49,57,50,48,50,49,50,50,50,51,50,52,50,53,50,54,50,55,50,56,50,57,51,48,51,49,51,50,51,51,51,52,51,53,51,54,51,55,51,56,51,57,52,48,52,49,52,50,52,51,52,52,52,53,52,54,52,55,52,56,52,57,53,48,53,49,53,50,53,51,53,52,53,53,53,54,53,55,53,56,53,57,54,48,54,49,54,50,54,51,54,52,54,53,54,54,54,55,54,56,54,57,55,48,55,49,55,50,55,51,55,52,55,53,55,54,55,55,55,56,55,57,56,48,56,49,56,50,56,51,56,52,56,53,56,54,56,55,56,56,56,57,57,48,57,49,57,50,57,51,57,52,57,53,57,54,57,55,57,56,57,57])) (.t 152)),zm 154 16,zo 155 (.idxS (.c (.str [48,48,48,49,48,50,48,51,48,52,48,53,48,54,48,55,48,56,48,57,49,48,49,49,49,50,49,51,49,52,49,53,49,54,49,55,49,56,49,57,50,48,50,49,50,50,50,51,50,52,50,53,50,54,50,55,50,56,50,57,51,48,51,49,51,50,51,51,51,52,51,53,51,54,51,55,51,56,51,57,52,48,52,49,52,50,52,51,52,52,52,53,52,54,52,55,52,56,52,57,53,48,53,49,53,50,53,51,53,52,53,53,53,54,53,55,53,56,53,57,54,48,54,49,54,50,54,51,54,52,54,53,54,54,54,55,54,56,54,57,55,48,55,49,55,50,55,51,55,52,55,53,55,54,55,55,55,56,55,57,56,48,56,49,56,50,56,51,56,52,56,53,56,54,56,55,56,56,56,57,57,48,57,49,57,50,57,51,57,52,57,53,57,54,57,55,57,56,57,57])) (.t 154)),zd 156 145 147,zs 156 153,zd 157 148 150,zs 157 155] (.reg [zm 158 4,zk 159 .sub 158 2,zm 4 159])))) .skip (zq [zm 160 4,zk 161 .gtr 160 0] (.cond (.t 161) (.reg [zm 162 0,zm 163 12,zo 164 (.bin .add (.c (.int .u32 (.ofNat 48))) (.t 163)),zv 165 .u8 164,zo 166 (.idxA 1 (.t 162) (zi 0)),zs 166 165]) .skip)))))),[]⟩
def SL:cN Tryz.prog 179=some FH:=by kernel_rfl
def RH:cf:=by
 refine(λx (_:cN Tryz.prog 145=some x)=>x) ?a ?b
 case b=>cbv;rfl
def To:cN Tryz.prog 145=some RH:=by kernel_rfl
def c71:cf:=by
 refine(λx (_:cN Tryz.prog 71=some x)=>x) ?a ?b
 case b=>cbv;rfl
def V5:cN Tryz.prog 71=some c71:=by kernel_rfl
def U9:cf:=by
 refine(λx (_:cN Tryz.prog 112=some x)=>x) ?a ?b
 case b=>cbv;rfl
def TO:cN Tryz.prog 112=some U9:=by kernel_rfl
def U8:cf:=by
 refine(λx (_:cN Tryz.prog 113=some x)=>x) ?a ?b
 case b=>cbv;rfl
def TN:cN Tryz.prog 113=some U8:=by kernel_rfl
def U7:cf:=⟨120,zq [zo 4 (.new [zU 0,.str [],zI 0,zI 0,zI 0,zI 0])] (.seq (zq [zm 12 0,zm 13 1,zx 14 156 [.t 12,.t 13],zm 5 14] (zq [zm 15 5,zk 16 .gtr 15 0] (.cond (.t 16) (zq [zm 18 0,zm 19 1,zm 20 1,zm 21 5,zb 22 .add 20 21,zo 23 (.slStr (.t 18) (some (.t 19)) (some (.t 22))),zx 24 157 [.t 23],zm 17 24,ze 25 0 17,ze 26 1 17,zm 6 25,zm 7 26] (zr [zm 27 7,zo 28 (.un .not (.t 27))] 28 (zq [zo 29 (.build [zU 0,.str [],zI 0,zI 0,zI 0,zI 0] []),zp (.store 6 (.t 4) (.t 29))] .ret) .skip (zq [zm 30 6,zm 31 1,zm 32 1,zm 33 5,zb 34 .add 32 33,zo 35 (.build [zU 0,.str [],zI 0,zI 0,zI 0,zI 0] [(0,1,zu 1),(2,1,.t 30),(4,1,.t 31),(5,1,.t 34)]),zp (.store 6 (.t 4) (.t 35))] .ret))) .skip))) (zr [zm 36 0,zm 37 1,zo 38 (.idxS (.t 36) (.t 37)),zx 39 158 [.t 38]] 39 (zq [zm 40 1,zm 8 40] (.seq (.block 0 (.loop (zr [zm 41 8,zm 42 0,zo 43 (.len true (.t 42)),zb 44 .lss 41 43,zm 45 44,zg 46 (.mv (.t 0)) 45 true,zg 47 (.mv (.t 8)) 45 true,zg 48 (.idxS (.t 46) (.t 47)) 45 true,zg 49 (.call 158 [.t 48]) 45 true,zg 50 (.mv (.t 49)) 45 true,zg 51 (.mv (.t 0)) 50 false,zg 52 (.mv (.t 8)) 50 false,zg 53 (.idxS (.t 51) (.t 52)) 50 false,zg 54 (.call 159 [.t 53]) 50 false,zg 55 (.pick (.t 50) (.c (.bool true)) (.t 54)) 45 true,zo 56 (.pick (.t 45) (.t 55) (.c (.bool false)))] 56 .skip (.exit 0) (.block 1 (.reg [zm 57 8,zk 58 .add 57 1,zm 8 58]))))) (zq [zm 59 0,zm 60 1,zm 61 8,zo 62 (.slStr (.t 59) (some (.t 60)) (some (.t 61))),zm 63 1,zm 64 8,zo 65 (.build [zU 0,.str [],zI 0,zI 0,zI 0,zI 0] [(0,1,zu 2),(1,1,.t 62),(4,1,.t 63),(5,1,.t 64)]),zo 9 (.new [zU 0,.str [],zI 0,zI 0,zI 0,zI 0]),zp (.store 6 (.t 9) (.t 65))] (zr [zf 66 1 9,zl 67 66,zo 68 (.buildSl 6 [.str []] [(0,1,.c (.str [108,101,116])),(1,1,.c (.str [115,101,116])),(2,1,.c (.str [105,102])),(3,1,.c (.str [101,108,115,101])),(4,1,.c (.str [119,104,105,108,101])),(5,1,.c (.str [114,101,116,117,114,110]))]),zx 69 160 [.t 67,.t 68]] 69 (.reg [zf 70 0 9,zp (.store 1 (.t 70) (zu 3))]) .skip (zq [zt 71 6 9,zp (.store 6 (.t 4) (.t 71))] .ret))))) .skip (zq [zo 72 (.buildSl 20 [.str []] [(0,1,.c (.str [38,38])),(1,1,.c (.str [124,124])),(2,1,.c (.str [61,61])),(3,1,.c (.str [33,61])),(4,1,.c (.str [60,61])),(5,1,.c (.str [62,61])),(6,1,.c (.str [60])),(7,1,.c (.str [62])),(8,1,.c (.str [43])),(9,1,.c (.str [45])),(10,1,.c (.str [42])),(11,1,.c (.str [47])),(12,1,.c (.str [33])),(13,1,.c (.str [40])),(14,1,.c (.str [41])),(15,1,.c (.str [123])),(16,1,.c (.str [125])),(17,1,.c (.str [44])),(18,1,.c (.str [59])),(19,1,.c (.str [61]))]),zm 10 72] (.seq (zq [zo 11 (.mv (zi 0))] (.block 2 (.loop (zr [zm 73 11,zm 74 10,zh 75 74,zb 76 .lss 73 75] 76 .skip (.exit 2) (.seq (.block 3 (zq [zm 79 1,zm 80 10,zm 81 11,zd 82 80 81,zl 83 82,zo 84 (.len true (.t 83)),zb 85 .add 79 84,zm 86 0,zo 87 (.len true (.t 86)),zb 88 .leq 85 87,zm 89 88,zg 90 (.mv (.t 0)) 89 true,zg 91 (.mv (.t 1)) 89 true,zg 92 (.mv (.t 1)) 89 true,zg 93 (.mv (.t 10)) 89 true,zg 94 (.mv (.t 11)) 89 true,zg 95 (.idxA 1 (.t 93) (.t 94)) 89 true,zg 96 (.load false 1 (.t 95)) 89 true,zg 97 (.len true (.t 96)) 89 true,zg 98 (.bin .add (.t 92) (.t 97)) 89 true,zg 99 (.slStr (.t 90) (some (.t 91)) (some (.t 98))) 89 true,zg 100 (.mv (.t 10)) 89 true,zg 101 (.mv (.t 11)) 89 true,zg 102 (.idxA 1 (.t 100) (.t 101)) 89 true,zg 103 (.load false 1 (.t 102)) 89 true,zg 104 (.bin .eql (.t 99) (.t 103)) 89 true,zo 105 (.pick (.t 89) (.t 104) (.c (.bool false)))] (.cond (.t 105) (zq [zm 106 10,zm 107 11,zd 108 106 107,zl 109 108,zm 110 1,zm 111 1,zm 112 10,zm 113 11,zd 114 112 113,zl 115 114,zo 116 (.len true (.t 115)),zb 117 .add 111 116,zo 118 (.build [zU 0,.str [],zI 0,zI 0,zI 0,zI 0] [(0,1,zu 4),(1,1,.t 109),(4,1,.t 110),(5,1,.t 117)]),zp (.store 6 (.t 4) (.t 118))] .ret) .skip))) (.reg [zm 77 11,zk 78 .add 77 1,zm 11 78])))))) (zq [zo 119 (.build [zU 0,.str [],zI 0,zI 0,zI 0,zI 0] []),zp (.store 6 (.t 4) (.t 119))] .ret))))),[.cell true 6 4]⟩
def TM:cN Tryz.prog 114=some U7:=by kernel_rfl
def UJ:cf:=by
 refine(λx (_:cN Tryz.prog 156=some x)=>x) ?a ?b
 case b=>cbv;rfl
def Tg:cN Tryz.prog 156=some UJ:=by kernel_rfl
def OY:cf:=by
 refine(λx (_:cN Tryz.prog 159=some x)=>x) ?a ?b
 case b=>cbv;rfl
def Td:cN Tryz.prog 159=some OY:=by kernel_rfl
def UI:cf:=by
 refine(λx (_:cN Tryz.prog 157=some x)=>x) ?a ?b
 case b=>cbv;rfl
def Tf:cN Tryz.prog 157=some UI:=by kernel_rfl
def UH:cf:=by
 refine(λx (_:cN Tryz.prog 158=some x)=>x) ?a ?b
 case b=>cbv;rfl
def Te:cN Tryz.prog 158=some UH:=by kernel_rfl
def UG:cf:=by
 refine(λx (_:cN Tryz.prog 160=some x)=>x) ?a ?b
 case b=>cbv;rfl
def Tc:cN Tryz.prog 160=some UG:=by kernel_rfl
end
end Go.Proofs.Wo
namespace Go.Proofs.Wo
open Go.Abs Go.Abs.S Go.Proofs
def xg(H:aa):List ae->Option (ae×aa)
 | [.str s]=>bif Nat.ble s.length 281474976710656 then some (.str s,H)else none
 |_=>none
def nat:oF:=⟨λf=>Nat.beq f 153,λf args H=>bif Nat.beq f 153 then xg H args else none⟩
abbrev aF:oF:=nat
open Go.Abs Go.Abs.S
abbrev Bs:=List UInt8
def dP(b:UInt8):Bool:=decide (48<=b.toNat)&&decide (b.toNat<=57)
def beg(b:UInt8):Bool:=((decide (97<=b.toNat)&&decide (b.toNat<=122))||(decide (65<=b.toNat)&&decide (b.toNat<=90)))||decide (b.toNat=95)
def jp(b:UInt8):Bool:=beg b||dP b
def blk(b:UInt8):Bool:=((decide (b.toNat=9)||decide (b.toNat=10))||decide (b.toNat=13))||decide (b.toNat=32)
def qu(b:UInt8):Bool:=!decide (b.toNat=10)
def bO(p:UInt8->Bool)(s:Bs)(at_:Nat):Nat:=at_+((s.drop at_).takeWhile p).length
def eF{s:Bs}{i:Nat}{c:UInt8}(h:s[i]?=some c):s.drop i=c::s.drop (i+1):=by have hlt:=(Xy.1 h).1;rw[List.drop_eq_getElem_cons hlt];congr 1;rw[Xx hlt]at h;simpa using h
def gE{p:UInt8->Bool}{s:Bs}{i:Nat}{c:UInt8}(h:s[i]?=some c)(hp:p c=true):bO p s i=bO p s (i+1):=by unfold bO;rw[eF h,List.takeWhile_cons_of_pos hp,XB];omega
def lZ{p:UInt8->Bool}{s:Bs}{i:Nat}{c:UInt8}(h:s[i]?=some c)(hp:p c=false):bO p s i=i:=by unfold bO;rw[eF h,List.takeWhile_cons_of_neg (by simp[hp])];simp
def nw{p:UInt8->Bool}{s:Bs}{i:Nat}(h:s.length<=i):bO p s i=i:=by unfold bO;rw[List.drop_eq_nil_of_le h];simp
def fM(p:UInt8->Bool)(s:Bs)(i:Nat):i<=bO p s i:=Nat.le_add_right _ _
def fL{p:UInt8->Bool}{s:Bs}{i:Nat}(h:i<=s.length):bO p s i<=s.length:=by unfold bO;have:=(List.takeWhile_sublist (p:=p) (l:=s.drop i)).length_le;simp only[XR]at this;omega
def GB{p:UInt8->Bool}{s:Bs}{i j:Nat}(h1:i<=j)(h2:j<bO p s i):∃c,s[j]?=some c/\p c=true:=by
 unfold bO at h2;have hj:j-i<((s.drop i).takeWhile p).length:=om;have hm:=List.getElem_mem hj;have hp:=List.all_takeWhile (p:=p) (l:=s.drop i);refine⟨((s.drop i).takeWhile p)[j-i],?_,List.all_eq_true.1 hp _ hm⟩;obtain⟨t,ht⟩:=List.takeWhile_prefix p (l:=s.drop i);have:(s.drop i)[j-i]?=some ((s.drop i).takeWhile p)[j-i]:=by
  conv=>lhs;rw[<- ht]
  rw[XN hj,Xx hj]
 rw[List.getElem?_drop,show i+(j-i)=j by omega]at this;exact this
def vJ{p:UInt8->Bool}{s:Bs}{i:Nat}{c:UInt8}(h:s[bO p s i]?=some c):p c=false:=by
 unfold bO at h;rw[<- List.getElem?_drop]at h;generalize s.drop i=l at h;induction l with
 |nil=>simp at h
 |cons a l ih=>
  cases ha:p a with
  |true=>rw[List.takeWhile_cons_of_pos ha]at h;simp only[XB,XI]at h;exact ih h
  |false=>rw[List.takeWhile_cons_of_neg (by simp[ha])]at h;simp only[XC,XH,sJ]at h;rw[<- h];exact ha
def dS(s:Bs)(i:Nat):Nat:=
 if bO dP s i=i∨s[bO dP s i]?≠some 46 then bO dP s i
 else if bO dP s i+1<bO dP s (bO dP s i+1)then bO dP s (bO dP s i+1)else bO dP s i
def GM(s:Bs)(i:Nat):i<=dS s i:=by
 unfold dS;have h1:=fM dP s i;have h2:=fM dP s (bO dP s i+1);split
 ·exact h1
 ·split<;>omega
def qP{s:Bs}{i:Nat}(h:i<=s.length):dS s i<=s.length:=by
 unfold dS;have h1:=fL (p:=dP) h;split
 ·exact h1
 ·rename_i hn;have hs:s[bO dP s i]?=some 46:=by
   by_cases c:s[bO dP s i]?=some 46
   ·exact c
   ·exact absurd (.inr c) hn
  have hlt:=(Xy.1 hs).1;split
  ·exact fL om
  ·exact h1
mutual
def bl:Bs->Bs
 | []=>[]
 |c::r=>if blk c then bl r else if c.toNat=35 then rm r else c::r
def rm:Bs->Bs
 | []=>[]
 |c::r=>if c.toNat=10 then bl r else rm r
end
def bI(s:Bs)(i:Nat):Nat:=s.length-(bl (s.drop i)).length
mutual
def Mp:∀l:Bs,(bl l).length<=l.length
 | []=>by simp[bl]
 |c::r=>by
  have h1:=Mp r;have h2:=PX r;simp only[bl];split
  ·simp;omega
  ·split
   ·simp;omega
   ·simp
def PX:∀l:Bs,(rm l).length<=l.length
 | []=>by simp[rm]
 |c::r=>by
  have h1:=Mp r;have h2:=PX r;simp only[rm];split
  ·simp;omega
  ·simp;omega
end
def Kk{s:Bs}{i:Nat}(h:i<=s.length):i<=bI s i:=by unfold bI;have:=Mp (s.drop i);simp only[XR]at this;omega
def nn(s:Bs)(i:Nat):bI s i<=s.length:=by unfold bI;omega
def Ek{s:Bs}{i:Nat}{c:UInt8}(h:s[i]?=some c)(hb:blk c=true):bI s i=bI s (i+1):=by unfold bI;rw[eF h,bl,if_pos hb]
def sF{s:Bs}{i:Nat}{c:UInt8}(h:s[i]?=some c)(hb:blk c=false)(hc:c.toNat≠35):bI s i=i:=by have hlt:=(Xy.1 h).1;unfold bI;rw[eF h,bl,if_neg (by simp[hb]),if_neg hc,<- eF h,XR];omega
def BK{s:Bs}{i:Nat}(h:s.length=i):bI s i=i:=by unfold bI;rw[List.drop_eq_nil_of_le om,bl];simp;omega
def Kj(s:Bs)(i:Nat):bI s (bO blk s i)=bI s i:=by
 have key:∀l:Bs,bl (l.drop (l.takeWhile blk).length)=bl l:=by
  intro l;induction l with
  |nil=>simp
  |cons a l ih=>
   cases ha:blk a with
   |true=>rw[List.takeWhile_cons_of_pos ha,XB,List.drop_succ_cons,ih,bl,if_pos ha]
   |false=>rw[List.takeWhile_cons_of_neg (by simp[ha])];simp
 unfold bI bO;rw[<- List.drop_drop,key]
def Kq:∀l:Bs,rm l=bl (l.drop (l.takeWhile qu).length)
 | []=>by simp[rm,bl]
 |c::r=>by
  by_cases h:c.toNat=10
  ·have hn:qu c=false:=by simp[qu,h]
   have hb:blk c=true:=by simp[blk,h]
   rw[rm,if_pos h,List.takeWhile_cons_of_neg (by simp[hn]),XC,List.drop_zero,bl,if_pos hb]
  ·have hn:qu c=true:=by simp[qu,h]
   rw[rm,if_neg h,List.takeWhile_cons_of_pos hn,XB,List.drop_succ_cons,Kq r]
def tO{s:Bs}{i:Nat}{c:UInt8}(h:s[i]?=some c)(hc:c.toNat=35):bI s i=bI s (bO qu s i):=by
 have hb:blk c=false:=by simp[blk,hc]
 have hn:qu c=true:=by simp[qu,hc]
 rw[gE h hn];unfold bI bO;rw[eF h,bl,if_neg (by simp[hb]),if_pos hc,Kq,List.drop_drop]
def bT(s:Bs)(i:Nat):Nat:=1+(s.take i).count 10
def I0{s:Bs}{i:Nat}{c:UInt8}(h:s[i]?=some c):bT s (i+1)=bT s i+if c.toNat=10 then 1 else 0:=by
 unfold bT;rw[List.take_add_one,h,Option.toList_some,List.count_append,List.count_singleton];have e:(c==(10:UInt8))=decide (c.toNat=10):=by
  rw[Bool.eq_iff_iff,beq_iff_eq,XK];constructor
  ·intro h;rw[h];rfl
  ·intro h;exact UInt8.toNat_inj.1 h
 rw[e];by_cases hc:c.toNat=10
 ·simp[hc];omega
 ·simp[hc]
def dv(c:UInt8):Nat:=c.toNat-48
def d7(l:Bs):Nat:=l.foldl (λn c=>n*10+dv c) 0
def Ja(l:Bs)(n:Nat):l.foldl (λn c=>n*10+dv c) n=n*10 ^ l.length+d7 l:=by
 induction l generalizing n with
 |nil=>simp[d7]
 |cons c l ih=>
  simp only[List.foldl_cons,d7,XB];rw[ih,ih (0*10+dv c)];rw[Nat.pow_succ];have:(n*10+dv c)*10 ^ l.length=n*(10 ^ l.length*10)+(0*10+dv c)*10 ^ l.length:=by rw[Nat.add_mul,Nat.zero_mul,Nat.zero_add,Nat.mul_assoc,Nat.mul_comm 10]
  omega
def Bl(l:Bs)(c:UInt8):d7 (l++[c])=d7 l*10+dv c:=by simp[d7]
open Go.Abs Go.Abs.S
def gi(l:List Nat):Nat:=l.foldl (λn d=>n*10+d) 0
def ya(l:List Nat)(n:Nat):l.foldl (λn d=>n*10+d) n=n*10 ^ l.length+gi l:=by
 induction l generalizing n with
 |nil=>simp[gi]
 |cons c l ih=>
  simp only[List.foldl_cons,gi,XB];rw[ih,ih (0*10+c),Nat.pow_succ];have:(n*10+c)*10 ^ l.length=n*(10 ^ l.length*10)+(0*10+c)*10 ^ l.length:=by rw[Nat.add_mul,Nat.zero_mul,Nat.zero_add,Nat.mul_assoc,Nat.mul_comm 10]
  omega
def si(d:Nat)(l:List Nat):gi (d::l)=d*10 ^ l.length+gi l:=by have:=ya l (0*10+d);simp only[Nat.zero_mul,Nat.zero_add]at this;rw[<- this];simp[gi]
def oI:∀{l:List Nat},(∀d∈l,d<=9)->gi l<10 ^ l.length
 | [],_=>by simp[gi]
 |d::l,h=>by have h1:=h d (by simp);have h2:=oI (l:=l) λx hx=>h x (by simp[hx]);rw[si,XB,Nat.pow_succ];have:d*10 ^ l.length<=9*10 ^ l.length:=Nat.mul_le_mul_right _ h1;omega
def j5:List Nat->Nat×List Nat
 | []=>(0,[])
 |d::r=>((d*2+(j5 r).1) / 10,(d*2+(j5 r).1) % 10::(j5 r).2)
def uK:∀l:List Nat,(j5 l).2.length=l.length
 | []=>rfl
 |d::r=>by simp only[j5,XB,uK r]
def nV:∀{l:List Nat},(∀d∈l,d<=9)->(j5 l).1<=1
 | [],_=>by simp[j5]
 |d::r,h=>by have h1:=h d (by simp);have h2:=nV (l:=r) λx hx=>h x (by simp[hx]);simp only[j5];omega
def Hz:∀(l:List Nat),∀d∈(j5 l).2,d<=9
 | [],d,h=>by simp[j5]at h
 |a::r,d,h=>by
  simp only[j5,List.mem_cons]at h;rcases h with rfl|h
  ·omega
  ·exact Hz r d h
def Hw:∀(l:List Nat),(j5 l).1*10 ^ l.length+gi (j5 l).2=2*gi l
 | []=>by simp[j5,gi]
 |d::r=>by
  have ih:=Hw r;simp only[j5,si,uK,XB,Nat.pow_succ];generalize (j5 r).1=o at *;generalize gi (j5 r).2=v at *;generalize gi r=u at *;generalize 10 ^ r.length=p at *;have h1:=Nat.div_add_mod (d*2+o) 10;have e1:(d*2+o) / 10*(p*10)=10*((d*2+o) / 10)*p:=by rw[Nat.mul_comm p,<- Nat.mul_assoc,Nat.mul_comm _ 10]
  have e2:(10*((d*2+o) / 10)+(d*2+o) % 10)*p=(d*2+o)*p:=by rw[h1]
  have e3:(d*2+o)*p=2*(d*p)+o*p:=by rw[Nat.add_mul,Nat.mul_comm d 2,Nat.mul_assoc]
  rw[Nat.add_mul]at e2;rw[e1];omega
def bits(l:List Nat)(n:Nat):Nat->Nat×List Nat
 |0=>(n,l)
 |k+1=>(2*(bits l n k).1+(j5 (bits l n k).2).1,(j5 (bits l n k).2).2)
def ou(l:List Nat)(n:Nat):∀k,(bits l n k).2.length=l.length
 |0=>rfl
 |k+1=>by simp only[bits,uK,ou l n k]
def wT{l:List Nat}(h:∀d∈l,d<=9)(n:Nat):∀k,∀d∈(bits l n k).2,d<=9
 |0=>h
 |k+1=>by simp only[bits];exact Hz _
def rI(l:List Nat)(n:Nat):∀k,(bits l n k).1*10 ^ l.length+gi (bits l n k).2=2 ^ k*(n*10 ^ l.length+gi l)
 |0=>by simp[bits]
 |k+1=>by have ih:=rI l n k;have h2:=Hw (bits l n k).2;rw[ou]at h2;simp only[bits,Nat.pow_succ];rw[Nat.add_mul,Nat.mul_assoc,Nat.mul_right_comm (2 ^ k),<- ih];omega
def Mq{l:List Nat}(h:∀d∈l,d<=9)(n k:Nat):(bits l n k).1=2 ^ k*(n*10 ^ l.length+gi l) / 10 ^ l.length:=by have h1:=rI l n k;have h2:=oI (wT h n k);rw[ou]at h2;rw[<- h1];have hp:0<10 ^ l.length:=Nat.pos_of_ne_zero (by simp);rw[Nat.mul_comm,Nat.mul_add_div hp,Nat.div_eq_of_lt h2,Nat.add_zero]
def nP(l:List Nat):Nat:=2 ^ 32*gi l / 10 ^ l.length
def y7{l:List Nat}(h:∀d∈l,d<=9)(n:Nat):(bits l n 32).1=2 ^ 32*n+nP l:=by rw[Mq h,nP,Nat.mul_add];have hp:0<10 ^ l.length:=Nat.pos_of_ne_zero (by simp);rw[<- Nat.mul_assoc,Nat.mul_comm (2 ^ 32*n),Nat.mul_add_div hp]
def OJ{l:List Nat}(h:∀d∈l,d<=9):nP l<2 ^ 32:=by have:=oI h;unfold nP;have hp:0<10 ^ l.length:=Nat.pos_of_ne_zero (by simp);exact(Nat.div_lt_iff_lt_mul hp).2 (Nat.mul_lt_mul_of_pos_left this dD)
def tL(a b:List Nat):gi (a++b)=gi a*10 ^ b.length+gi b:=by have:=ya b (gi a);rw[<- this];simp[gi]
def vf:∀k,gi (List.replicate k 0)=0
 |0=>rfl
 |k+1=>by rw[List.replicate_succ,si,vf k];simp
def LB(l:List Nat)(k:Nat):nP (l++List.replicate k 0)=nP l:=by unfold nP;rw[tL,vf,lA,List.length_replicate,Nat.add_zero,Nat.pow_add,<- Nat.mul_assoc];exact Nat.mul_div_mul_right _ _ (Nat.pos_of_ne_zero (by simp))
def I9{l:List Nat}(h:∀d∈l,d<=9)(hl:32<=l.length):nP (l.take 32)=nP l:=by
 have ht:(l.take 32).length=32:=by simp;omega
 have hd:(l.drop 32).length=l.length-32:=by simp
 have e:gi l=gi (l.take 32)*10 ^ (l.length-32)+gi (l.drop 32):=by rw[<- hd,<- tL,List.take_append_drop]
 have hlt:=oI (l:=l.drop 32) λd hd=>h d (List.mem_of_mem_drop hd);rw[hd]at hlt;have e2:(10:Nat) ^ l.length=10 ^ (l.length-32)*10 ^ 32:=by rw[<- Nat.pow_add];congr 1;omega
 unfold nP;rw[ht,e,e2];generalize gi (l.take 32)=A;generalize gi (l.drop 32)=B at *;generalize hp:(10:Nat) ^ (l.length-32)=p at *;have hpp:0<p:=by rw[<- hp];exact Nat.pos_of_ne_zero (by simp)
 rw[<- Nat.div_div_eq_div_mul,Nat.mul_add,<- Nat.mul_assoc,Nat.mul_comm (2 ^ 32*A) p,Nat.mul_add_div hpp];have hc:2 ^ 32*B / p<2 ^ 32:=(Nat.div_lt_iff_lt_mul hpp).2 (Nat.mul_lt_mul_of_pos_left hlt dD);generalize 2 ^ 32*B / p=c at hc;have e3:(10:Nat) ^ 32=2 ^ 32*5 ^ 32:=by decide
 rw[e3,<- Nat.div_div_eq_div_mul,<- Nat.div_div_eq_div_mul,Nat.mul_add_div dD,Nat.div_eq_of_lt hc,Nat.add_zero,Nat.mul_div_cancel_left _ dD]
open Go.Abs Go.Abs.S
abbrev RN(c:UInt8):ae:=.int .u8 (c.toNat:Int)
def Dx(N:oF)(g:Nat)(p:UInt8->Bool):Prop:=∀(c:UInt8) (H:aa),aq Tryz.prog N g [RN c] H λv H'=>v=.bool (p c)/\H=H'
def jY(hN:aF.is 103=false):Dx aF 103 dP:=by
 intro c H;refine ak hN TY rfl ?_;by_cases h1:(48:Int)<=(c.toNat:Int)
 ·by_cases h2:(c.toNat:Int)<=57
  ·simp only[O9,sC,seval,h1,h2];exact⟨by simp[dP];omega,by trivial⟩
  ·simp only[O9,sC,seval,h1,h2];exact⟨by simp[dP];omega,by trivial⟩
 ·simp only[O9,sC,seval,h1];exact⟨by simp[dP];omega,by trivial⟩
def ug(hN:aF.is 106=false):Dx aF 106 beg:=by
 intro c H;refine ak hN TV rfl ?_;have e:beg c=(((decide ((97:Int)<=c.toNat)&&decide ((c.toNat:Int)<=122))||(decide ((65:Int)<=c.toNat)&&decide ((c.toNat:Int)<=90)))||decide ((c.toNat:Int)=95)):=by rw[Bool.eq_iff_iff];simp[beg];omega
 rw[e];by_cases h1:(97:Int)<=(c.toNat:Int)<;>by_cases h2:(c.toNat:Int)<=122<;>by_cases h3:(65:Int)<=(c.toNat:Int)<;>by_cases h4:(c.toNat:Int)<=90<;>by_cases h5:(c.toNat:Int)=95
 all_goals first
  |(exfalso;omega)
  | (simp only [Vf, sA, sB, seval, h1, h2, h3, h4, h5]
     exact⟨by simp, by trivial⟩)
def FP(hN:aF.is 146=false):Dx aF 146 blk:=by
 intro c H;refine ak hN Tn rfl ?_;have e:blk c=(((decide ((c.toNat:Int)=9)||decide ((c.toNat:Int)=10))||decide ((c.toNat:Int)=13))||decide ((c.toNat:Int)=32)):=by rw[Bool.eq_iff_iff];simp[blk];omega
 rw[e];by_cases h1:(c.toNat:Int)=9<;>by_cases h2:(c.toNat:Int)=10<;>by_cases h3:(c.toNat:Int)=13<;>by_cases h4:(c.toNat:Int)=32
 all_goals first
  |(exfalso;omega)
  | (simp only [UP, sA, sB, seval, h1, h2, h3, h4]
     exact⟨by simp, by trivial⟩)
def EB(hN:aF.is 147=false):Dx aF 147 qu:=by
 intro c H;refine ak hN Tm rfl ?_;have e:qu c=!decide ((c.toNat:Int)=10):=by rw[Bool.eq_iff_iff];simp[qu];omega
 rw[e];by_cases h1:(c.toNat:Int)=10
 all_goals
  simp only[UO,sC,seval,h1];exact⟨by trivial,by trivial⟩
def IX(hN:aF.is 108=false)(h24:aF.is 106=false)(h22:aF.is 103=false):Dx aF 108 jp:=by
 intro c H;refine ak hN TT rfl ?_;simp only[Vd,sC,seval];refine(ug h24 c H).mono ?_;rintro v _ ⟨rfl,rfl⟩;cases hb:beg c with
 |true=>simp only[sC,seval];exact⟨by simp[jp,hb],by trivial⟩
 |false=>
  simp only[sC,seval];refine(jY h22 c H).mono ?_;rintro v _ ⟨rfl,rfl⟩;cases hd:dP c with
  |true=>simp only[sC,seval];exact⟨by simp[jp,hb,hd],by trivial⟩
  |false=>simp only[sC,seval];exact⟨by simp[jp,hb,hd],by trivial⟩
def nv(hN:aF.is 107=false){g:Nat}{p:UInt8->Bool}(hp:Dx aF g p){H:aa}{s:Bs}{i:Nat}(hi:i<=s.length)(hs:s.length<=4611686018427387904)(hg:g<1024:=by decide) :
  aq Tryz.prog aF 107 [.str s,.int .i64 (i:Int),.func (.func g) [] []] H λv H'=>v=.int .i64 (bO p s i:Int)/\H=H':=by
 refine ak hN TU rfl ?_;simp only[Ve,hg,sC,seval];refine aM (λq (T:bZ) H'=>∃j:Nat,j<=s.length/\q=s.length-j/\T 0=.str s/\T 1=.int .i64 (j:Int)/\T 2=.func (.func g) [] []/\bO p s i=bO p s j/\H=H') (s.length-i) ⟨i,hi,rfl,rfl,rfl,rfl,rfl,rfl⟩ ?_;rintro q T _ ⟨j,hj,rfl,g0,g1,g2,hA,rfl⟩;by_cases hlt:j<s.length
 ·have hlt':(j:Int)<(s.length:Int):=om;obtain⟨c,hc⟩:=aZ hlt;simp only[sC,seval,hg,g0,g1,g2,hlt',bA hc];refine(hp c H).mono ?_;rintro v _ ⟨rfl,rfl⟩;cases hb:p c with
  |true=>simp only[sC,seval,hg,g0,g1,g2,dG j om];exact⟨_,om,j+1,om,rfl,by trivial,rfl,by trivial,by rw[hA,gE hc hb],by trivial⟩
  |false=>simp only[sC,seval,hg,g0,g1,g2];exact⟨by rw[hA,lZ hc hb],by trivial⟩
 ·have hlt':¬(j:Int)<(s.length:Int):=om;simp only[sC,seval,hg,g0,g1,g2,hlt'];exact⟨by rw[hA,nw om],by trivial⟩
def IC(h20:aF.is 101=false)(h25:aF.is 107=false)(h45:aF.is 146=false)(h46:aF.is 147=false){H:aa}{s:Bs}{i:Nat}(hi:i<=s.length)(hs:s.length<=4611686018427387904) :
  aq Tryz.prog aF 101 [.str s,.int .i64 (i:Int)] H λv H'=>v=.int .i64 (bI s i:Int)/\H=H':=by
 refine ak h20 T3 rfl ?_;simp only[Vi,sC,seval];refine aM (λq (T:bZ) H'=>∃j:Nat,j<=s.length/\q=s.length-j/\T 0=.str s/\T 1=.int .i64 (j:Int)/\bI s i=bI s j/\H=H') (s.length-i) ⟨i,hi,rfl,rfl,rfl,rfl,rfl⟩ ?_;rintro q T _ ⟨j,hj,rfl,g0,g1,hA,rfl⟩;simp only[sC,seval,g0,g1];refine(nv h25 (FP h45) hj hs).mono ?_;rintro v _ ⟨rfl,rfl⟩;have h1:=fM blk s j;have h2:=fL (p:=blk) hj;rw[<- Kj s j]at hA;have hout:∀c,s[bO blk s j]?=some c->blk c=false:=λc=>vJ;generalize bO blk s j=e at *;by_cases he:e=s.length
 ·have he':(e:Int)=(s.length:Int):=om;simp only[sC,seval,g0,g1,he'];exact⟨by rw[hA,BK he.symm,he],by trivial⟩
 have he':¬(e:Int)=(s.length:Int):=om;obtain⟨c,hc⟩:=aZ (l:=s) (i:=e) om;by_cases h35:(c.toNat:Int)=35
 ·simp only[sC,seval,g0,g1,he',bA hc,h35];refine(nv h25 (EB h46) h2 hs).mono ?_;rintro v _ ⟨rfl,rfl⟩;have h3:=fL (p:=qu) h2;have hn:qu c=true:=by simp[qu];omega
  have h4:e<bO qu s e:=by rw[gE hc hn];have:=fM qu s (e+1);omega
  simp only[sC,seval,g0,g1];exact⟨_,om,bO qu s e,h3,rfl,by trivial,by trivial,by rw[hA,tO hc om],by trivial⟩
 ·simp only[sC,seval,g0,g1,he',bA hc,h35];exact⟨by rw[hA,sF hc (hout c hc) om],by trivial⟩
def qO(h23:aF.is 104=false)(h25:aF.is 107=false)(h22:aF.is 103=false){H:aa}{s:Bs}{i:Nat}(hi:i<=s.length)(hs:s.length<=4611686018427387904) :
  aq Tryz.prog aF 104 [.str s,.int .i64 (i:Int)] H λv H'=>v=.int .i64 (dS s i:Int)/\H=H':=by
 refine ak h23 TX rfl ?_;simp only[Vg,sC,seval];refine(nv h25 (jY h22) hi hs).mono ?_;rintro v _ ⟨rfl,rfl⟩;have h1:=fM dP s i;have h2:=fL (p:=dP) hi;unfold dS;generalize bO dP s i=e at *;by_cases he:(e:Int)=(i:Int)
 ·obtain rfl:e=i:=om;simp only[sC,seval];exact⟨by rw[if_pos (.inl (by trivial))],by trivial⟩
 by_cases hl:(e:Int)=(s.length:Int)
 ·obtain rfl:e=s.length:=om;have hn:s[s.length]?=none:=XP om;simp only[sC,seval,he];exact⟨by rw[if_pos (.inr (by rw[hn];simp))],by trivial⟩
 obtain⟨c,hc⟩:=aZ (l:=s) (i:=e) om;by_cases h46:(c.toNat:Int)=46
 ·have hc46:s[e]?=some 46:=by
   rw[hc];congr 1;exact UInt8.toNat_inj.1 (by simpa using(show c.toNat=46 by omega))
  have hcond:¬(e=i∨s[e]?≠some 46):=by
   rintro(h|h)
   ·omega
   ·exact h hc46
  rw[if_neg hcond];simp only[sC,seval,he,hl,bA hc,h46,dG e om];refine(nv h25 (jY h22) (i:=e+1) om hs).mono ?_;rintro v _ ⟨rfl,rfl⟩;by_cases hm:((e+1:Nat):Int)<(bO dP s (e+1):Int)
  ·simp only[sC,seval,dG e om,hm];exact⟨by rw[if_pos om],by trivial⟩
  ·simp only[sC,seval,dG e om,hm];exact⟨by rw[if_neg om],by trivial⟩
 ·have hcond:e=i∨s[e]?≠some 46:=by
   right;rw[hc];intro h;simp only[sJ]at h;subst h;exact h46 rfl
  rw[if_pos hcond];simp only[sC,seval,he,hl,bA hc,h46];exact⟨by trivial,by trivial⟩
open Go.Abs Go.Abs.S
def jX(s:Bs):List Nat:=s.map dv
def uJ{s:Bs}(h:∀c∈s,dP c=true):∀d∈jX s,d<=9:=by intro d hd;obtain⟨c,hc,rfl⟩:=List.mem_map.1 hd;have:=h c hc;simp[dP]at this;unfold dv;omega
def GI(s:Bs)(i:Nat):List Nat:=jX (s.take i)++List.replicate (32-i) 0
def GH(s:Bs){i:Nat}(h:i<=s.length)(h2:i<=32):(GI s i).length=32:=by simp[GI,jX];omega
def NZ(s:Bs){i:Nat}{c:UInt8}(hc:s[i]?=some c)(h2:i<32):(GI s i).set i (dv c)=GI s (i+1):=by
 have hlt:=(Xy.1 hc).1;have hl:(jX (s.take i)).length=i:=by simp[jX];omega
 unfold GI;rw[List.set_append_right _ _ om,hl,Nat.sub_self,show 32-i=(32-(i+1))+1 by omega,List.replicate_succ,List.set_cons_zero];rw[List.take_add_one,hc];simp[jX]
def KF(s:Bs)(h:∀c∈s,dP c=true):nP (GI s (min s.length 32))=nP (jX s):=by
 by_cases hl:s.length<=32
 ·rw[Nat.min_eq_left hl,GI,List.take_length,LB]
 ·rw[Nat.min_eq_right om];have e:GI s 32=(jX s).take 32:=by simp[GI,jX,List.map_take]
  rw[e,I9 (uJ h) (by simp[jX];omega)]
def rn(l:List Nat)(m:Nat):List Nat:=l.take m++(j5 (l.drop m)).2
def CB(l:List Nat):rn l l.length=l:=by simp[rn,j5]
def yN(l:List Nat):rn l 0=(j5 l).2:=by simp[rn]
def wy(l:List Nat)(m:Nat):(rn l m).length=l.length:=by simp[rn,uK];omega
def Cz{l:List Nat}{m d:Nat}(h:l[m]?=some d):(rn l (m+1))[m]?=some d:=by have hlt:=(Xy.1 h).1;rw[rn,XN (by simp;omega),List.getElem?_take_of_lt om,h]
def AC{l:List Nat}{m d:Nat}(h:l[m]?=some d):l.drop m=d::l.drop (m+1):=by have hlt:=(Xy.1 h).1;rw[List.drop_eq_getElem_cons hlt];congr 1;rw[Xx hlt]at h;simpa using h
def Cy{l:List Nat}{m d:Nat}(h:l[m]?=some d):(rn l (m+1)).set m ((d*2+(j5 (l.drop (m+1))).1) % 10)=rn l m:=by
 have hlt:=(Xy.1 h).1;unfold rn;rw[AC h,j5];rw[List.set_append_left _ _ (by simp;omega)];rw[List.take_add_one,h,Option.toList_some,List.set_append_right _ _ (by simp;omega),List.append_assoc];congr 1;have:m-(l.take m).length=0:=by simp;omega
 rw[this];rfl
def IM(h35:aF.is 152=false){H:aa}{s:Bs}(hd:∀c∈s,dP c=true)(hs:s.length<=4611686018427387904) :
  aq Tryz.prog aF 152 [.str s] H λv H'=>v=.int .i64 (nP (jX s):Int)/\aS H.next H H':=by
 refine ak h35 Tk rfl ?_;obtain⟨H1,m1,r1,n1,k1⟩:=aC H (lE (List.replicate 32 0)) (n:=32) rfl;have hz:lE (List.replicate 32 0)=[.int .u8 0,.int .u8 0,.int .u8 0,.int .u8 0,.int .u8 0,.int .u8 0,.int .u8 0,.int .u8 0,.int .u8 0,.int .u8 0,.int .u8 0,.int .u8 0,.int .u8 0,.int .u8 0,.int .u8 0,.int .u8 0,.int .u8 0,.int .u8 0,.int .u8 0,.int .u8 0,.int .u8 0,.int .u8 0,.int .u8 0,.int .u8 0,.int .u8 0,.int .u8 0,.int .u8 0,.int .u8 0,.int .u8 0,.int .u8 0,.int .u8 0,.int .u8 0]:=rfl;rw[hz]at m1;have hmin:(if (32:Int)<(s.length:Int)then(32:Int)else(s.length:Int))=((min s.length 32:Nat):Int):=by split<;>omega
 simp only[UM,sC,seval,m1,hmin];have p0:GI s 0=List.replicate 32 0:=by simp[GI,jX]
 rw[<- p0]at r1;generalize hb:H.next=b at *;refine aM (λq (T:bZ) H'=>∃i:Nat,i<=min s.length 32/\q=min s.length 32-i/\T 0=.str s/\T 3=ah b 32 0/\T 11=.int .i64 ((min s.length 32:Nat):Int)/\T 12=.int .i64 (i:Int)/\be H' b (lE (GI s i))/\H'.next=b+1/\∀c,c<b->H'.get c=H.get c) (min s.length 32)
  ⟨0,Nat.zero_le _,rfl,rfl,by simp only[sC,seval],by simp only[sC,seval],by simp only[sC,seval];try rfl,r1,om,λc hc=>k1 c om⟩ ?_
 clear m1 r1 k1 n1 H1;rintro q T H1 ⟨i,hi,rfl,g0,g3,g11,g12,r1,n1,k1⟩;by_cases hlt:i<min s.length 32
 ·have hlt':(i:Int)<((min s.length 32:Nat):Int):=om;obtain⟨c,hc⟩:=aZ (l:=s) (i:=i) om;have hdc:=hd c (XG hc);have hdv:(c.toNat:Int)-48=((dv c:Nat):Int):=by simp[dP]at hdc;unfold dv;omega
  have hd9:dv c<=9:=by simp[dP]at hdc;unfold dv;omega
  have hw:IntKind.u8.wrap ((dv c:Nat):Int)=((dv c:Nat):Int):=fZ om om;have ia:=uQ (b:=b) (n:=32) (i:=i) om .i64;obtain⟨H2,m2,r2,n2,k2⟩:=cD r1 (n:=32) (by rw[kp,GH s om om]) (i:=i) om (x:=.int .u8 ((dv c:Nat):Int)) rfl;simp only[sC,seval,g0,g3,g11,g12,hlt',bA hc,hdv,hw,ia,m2,dG i om];refine⟨_,om,i+1,om,rfl,by trivial,by trivial,by trivial,rfl,?_,om,λc hc=>(k2 c om).trans (k1 c hc)⟩;rw[<- NZ s hc om,zW];exact r2
 obtain rfl:i=min s.length 32:=om;simp only[sC,seval,g0,g3,g11,g12,Int.lt_irrefl];have hl:=GH s (i:=min s.length 32) om om;have hp9:∀d∈GI s (min s.length 32),d<=9:=by
  intro d hdm;rcases List.mem_append.1 hdm with h|h
  ·exact uJ (s:=s.take (min s.length 32)) (λc hc=>hd c (List.mem_of_mem_take hc)) d h
  ·have:=(List.mem_replicate.1 h).2;omega
 rw[<- KF s hd];generalize GI s (min s.length 32)=l at *;refine aM (λq (T:bZ) H'=>∃k:Nat,k<=32/\q=32-k/\T 3=ah b 32 0/\T 5=.int .i64 ((bits l 0 k).1:Int)/\T 22=.int .i64 (k:Int)/\be H' b (lE (bits l 0 k).2)/\H'.next=b+1/\∀c,c<b->H'.get c=H.get c) 32
  ⟨0,Nat.zero_le _,rfl,by simp only[sC,seval,g3],by simp only[sC,seval];try rfl,by simp only[sC,seval];try rfl,r1,n1,k1⟩ ?_
 clear g0 g3 g11 g12 r1 n1 k1 T H1;rintro q T H1 ⟨k,hk,rfl,g3,g5,g22,r1,n1,k1⟩;by_cases hlt:k<32
 ·have hlt':(k:Int)<32:=om;have hb9:=wT hp9 0 k;have hbl:=ou l 0 k;rw[hl]at hbl;have hbv:(bits l 0 k).1<2 ^ 32:=by
   have h1:=rI l 0 k;have h2:=oI hp9;rw[Nat.zero_mul,Nat.zero_add,hl]at h1;rw[hl]at h2;have h3:2 ^ k<=2 ^ 32:=Nat.pow_le_pow_right om hk;have h4:(bits l 0 k).1*10 ^ 32<2 ^ 32*10 ^ 32:=by
    calc (bits l 0 k).1*10 ^ 32<=2 ^ k*gi l:=om
     _<=2 ^ 32*gi l:=Nat.mul_le_mul_right _ h3
     _<2 ^ 32*10 ^ 32:=Nat.mul_lt_mul_of_pos_left h2 dD
   exact Nat.lt_of_mul_lt_mul_right h4
  simp only[sC,seval,g3,g5,g22,hlt'];have hbits:bits l 0 (k+1)=(2*(bits l 0 k).1+(j5 (bits l 0 k).2).1,(j5 (bits l 0 k).2).2):=rfl;generalize hm:(bits l 0 k).2=m at *;generalize hout:(bits l 0 k).1=out at *;have hov:=nV hb9;refine aM (λq (T:bZ) H'=>∃j:Nat,j<=32/\j=q/\T 3=ah b 32 0/\T 5=.int .i64 (out:Int)/\T 22=.int .i64 (k:Int)/\T 6=.int .u8 ((j5 (m.drop j)).1:Int)/\T 7=.int .i64 ((j:Int)-1)/\be H' b (lE (rn m j))/\H'.next=b+1/\∀c,c<b->H'.get c=H.get c) 32
   ⟨32,om,rfl,by simp only[sC,seval,g3],by simp only[sC,seval,g5],by simp only[sC,seval,g22],by simp only[sC,seval];rw[List.drop_eq_nil_of_le om];rfl,by simp only[sC,seval];try rfl,by rw[<- hbl,CB];exact r1,n1,k1⟩ ?_
  clear g3 g5 g22 r1 n1 k1 T H1;rintro q T H1 ⟨j,hj,rfl,g3,g5,g22,g6,g7,r1,n1,k1⟩;cases j with
  |zero=>
   have c0:¬(0:Int)<=((0:Nat):Int)-1:=om;rw[List.drop_zero]at g6;rw[yN]at r1;have hsh:out*2 ^ 1<2 ^ 63:=om;have e1:=Df (k':=.u64) (a:=out) (b:=1) om hsh;have e2:=HJ (a:=out*2 ^ 1) (b:=(j5 m).1) hsh om;rw[KJ 1 out om]at e2;have hw:IntKind.i64.wrap ((j5 m).1:Int)=((j5 m).1:Int):=bi om om;simp only[Int.cast_ofNat_Int]at e1;simp only[sC,seval,g3,g5,g22,g6,g7,c0,e1,e2,hw,dG k om];refine⟨_,om,k+1,om,rfl,by trivial,?_,rfl,?_,n1,k1⟩
   ·rw[hbits];simp only;congr 2;omega
   ·rw[hbits];exact r1
  |succ j=>
   have c0:(0:Int)<=((j+1:Nat):Int)-1:=om;have ej:((j+1:Nat):Int)-1=(j:Int):=om;rw[ej]at g7 c0;obtain⟨d,hdd⟩:=aZ (l:=m) (i:=j) om;have hd9:=hb9 d (XG hdd);have ho:=nV (l:=m.drop (j+1)) λx hx=>hb9 x (List.mem_of_mem_drop hx);have hset:=Cy hdd;have hdr:j5 (m.drop j)=((d*2+(j5 (m.drop (j+1))).1) / 10,(d*2+(j5 (m.drop (j+1))).1) % 10::(j5 (m.drop (j+1))).2):=by rw[AC hdd];rfl
   generalize (j5 (m.drop (j+1))).1=o at *;have ia:=uQ (b:=b) (n:=32) (i:=j) om .i64;have l1:=aj r1 (n:=32) (by rw[kp,wy,hbl]) (Nw (Cz hdd));have w1:IntKind.u8.wrap ((d:Int)*2)=((d*2:Nat):Int):=by rw[fZ om om];omega
   have w2:IntKind.u8.wrap (((d*2:Nat):Int)+(o:Int))=((d*2+o:Nat):Int):=by rw[fZ om om];omega
   have e3:cT .rem (.int .u8 ((d*2+o:Nat):Int)) (.int .u8 10)=some (.int .u8 (((d*2+o) % 10:Nat):Int)):=by rw[uO _ _ _ om];rfl
   have e4:cT .quo (.int .u8 ((d*2+o:Nat):Int)) (.int .u8 10)=some (.int .u8 (((d*2+o) / 10:Nat):Int)):=by rw[uP _ _ _ om];have:((d*2+o:Nat):Int).tdiv 10=(((d*2+o) / 10:Nat):Int):=rfl;rw[this,fZ om om]
   obtain⟨H2,m2,r2,n2,k2⟩:=cD r1 (n:=32) (by rw[kp,wy,hbl]) (i:=j) om (x:=.int .u8 (((d*2+o) % 10:Nat):Int)) rfl;have hwj:IntKind.i64.wrap ((j:Int)-1)=(j:Int)-1:=bi om om;simp only[sC,seval,g3,g5,g22,g6,g7,c0,ia,l1,w1,w2,e3,e4,m2,hwj];refine⟨_,Nat.lt_succ_self j,j,om,rfl,by trivial,by trivial,by trivial,by rw[hdr],by trivial,?_,om,λc hc=>(k2 c om).trans (k1 c hc)⟩;rw[<- hset,zW];exact r2
 obtain rfl:k=32:=om;have hlast:=y7 hp9 0;rw[Nat.mul_zero,Nat.zero_add]at hlast;rw[hlast]at g5;simp only[sC,seval,g3,g5,g22,Int.cast_ofNat_Int,Int.lt_irrefl];exact⟨by trivial,⟨om,λc hc=>k1 c om⟩⟩
open Go.Abs Go.Abs.S
def uD(c:UInt8):Bool:=!decide (c.toNat=46)
def bL(s:Bs):Bs:=s.takeWhile uD
def behind(s:Bs):Bs:=(s.dropWhile uD).drop 1
def kK(s:Bs):Bool:=!(s.all uD)
def uY(s:Bs):(bL s).length<=s.length:=(List.takeWhile_sublist (p:=uD) (l:=s)).length_le
def qw(s:Bs):bL s=s.take (bL s).length:=by exact(List.prefix_iff_eq_take.1 (List.takeWhile_prefix uD (l:=s)))
def Ft(s:Bs):s.drop (bL s).length=s.dropWhile uD:=by
 have h:bL s++s.dropWhile uD=s:=List.takeWhile_append_dropWhile (p:=uD) (l:=s);generalize hw:bL s=w at *
 conv=>lhs;rw[<- h]
 rw[List.drop_left]
def jG(s:Bs):behind s=s.drop ((bL s).length+1):=by rw[behind,<- Ft,List.drop_drop]
def Ly{s:Bs}(h:kK s=true):(bL s).length<s.length:=by
 rcases Nat.lt_or_ge (bL s).length s.length with hl|hl
 ·exact hl
 ·have e:bL s=s:=by rw[qw s,List.take_of_length_le hl]
  have:s.all uD=true:=by rw[<- e];exact List.all_takeWhile
  simp[kK,this]at h
def Rf(s:Bs)(n:Nat):Bc 46 s n=if kK s then((n+(bL s).length:Nat):Int)else -1:=by
 induction s generalizing n with
 |nil=>rfl
 |cons c r ih=>
  rw[Bc];by_cases h:c.toNat=46
  ·have hc:c=46:=UInt8.toNat_inj.1 h;subst hc;simp[kK,uD,bL]
  ·have hc:¬c=46:=λe=>h (by rw[e];rfl);have hn:uD c=true:=by simp[uD,h]
   have e1:kK (c::r)=kK r:=by simp[kK,hn]
   have e2:(bL (c::r)).length=(bL r).length+1:=by rw[bL,List.takeWhile_cons_of_pos hn];rfl
   have e3:Nat.beq c.toNat (UInt8.toNat 46)=false:=by
    cases hb:Nat.beq c.toNat (UInt8.toNat 46)with
    |false=>rfl
    |true=>exact absurd (XF hb) h
   rw[e1,e2,e3,cond_false,ih,show n+1+(bL r).length=n+((bL r).length+1) by omega]
def P0{s:Bs}(h:kK s=false):bL s=s/\behind s=[]:=by
 have ha:s.all uD=true:=by simpa[kK]using h
 have hall:=List.all_eq_true.1 ha;have e:bL s=s:=by rw[bL];have:=List.takeWhile_append_of_pos (p:=uD) (l₁:=s) (l₂:=[]) hall;simpa using this
 exact⟨e,by rw[jG,e];simp⟩
def Lw(h76:aF.is 184=false){H:aa}{s:Bs}:aq Tryz.prog aF 184 [.str s,.int .u8 46] H λv H'=>v=.int .i64 (Bc 46 s 0)/\H=H':=by refine ak h76 Pv rfl ?_;have e:mV .ibs [.str s,.int .u8 46]=some (.int .i64 (Bc 46 s 0)):=rfl;simp only[Rx,sC,seval,e];exact⟨by trivial,by trivial⟩
def ET(h74:aF.is 181=false)(h76:aF.is 184=false){H:aa}{s:Bs}:aq Tryz.prog aF 181 [.str s,.str [46]] H λv H'=>v=.int .i64 (Bc 46 s 0)/\H=H':=by
 refine ak h74 SK rfl ?_;have i0:lU (.str [46]) (.int .i64 0)=some (.int .u8 46):=rfl;have hl1:((List.length [(46:UInt8)]:Nat):Int)=1:=rfl;by_cases hs:[46]=s
 ·subst hs;have e:Bc 46 [46] 0=0:=rfl;rw[e];simp only[RA,sC,seval,hl1];exact⟨by trivial,by trivial⟩
 ·simp only[RA,sC,seval,hl1,hs,i0];refine(Lw h76).mono ?_;rintro v _ ⟨rfl,rfl⟩;simp only[sC,seval];exact⟨by trivial,by trivial⟩
def LZ(h34:aF.is 151=false)(h57:aF.is 182=false)(h74:aF.is 181=false)(h76:aF.is 184=false){H:aa}{s:Bs}(hs:s.length<=4611686018427387904) :
  aq Tryz.prog aF 151 [.str s,.str [46]] H λv H'=>v=.tuple [.str (bL s),.str (behind s),.bool (kK s)]/\H=H':=by
 refine ak h34 Tl rfl ?_;simp only[UN,sC,seval];have key:aq Tryz.prog aF 182 [.str s,.str [46]] H λv H'=>v=.tuple [.str (bL s),.str (behind s),.bool (kK s)]/\H=H':=by
  refine ak h57 SJ rfl ?_;simp only[Ux,sC,seval];refine(ET h74 h76).mono ?_;rintro v _ ⟨rfl,rfl⟩;have hl1:((List.length [(46:UInt8)]:Nat):Int)=1:=rfl;rw[Rf];cases hp:kK s with
  |true=>have hlt:=Ly hp;have hge:(0:Int)<=((0+(bL s).length:Nat):Int):=om;rw[Nat.zero_add]at *;have e1:=uw (s:=s) (h:=(bL s).length) (uY s);have e2:=Gr (s:=s) (l:=(bL s).length+1) om;rw[<- qw]at e1;rw[<- jG]at e2;simp only[sC,seval,hge,hl1,dG (bL s).length om,e1,e2];exact⟨by trivial,by trivial⟩
  |false=>obtain⟨e1,e2⟩:=P0 hp;simp only[sC,seval,e1,e2];exact⟨by trivial,by trivial⟩
 refine key.mono ?_;rintro v _ ⟨rfl,rfl⟩;simp only[gA,XH,XI,sC,seval];exact⟨by trivial,by trivial⟩
open Go.Abs Go.Abs.S
def nG(s:Bs):Bool:=(match s with | []=>false|c::_=>dP c)&&decide (dS s 0=s.length)
def gn(s:Bs):Option Nat:=if nG s=true/\d7 (bL s)<2147483648 then some (d7 (bL s)*2 ^ 32+nP (jX (behind s)))else none
def Iu:Option Nat->ae
 |some n=>.tuple [.int .i64 (n:Int),.bool true]
 |none=>.tuple [.int .i64 0,.bool false]
def Hu{c:UInt8}(h:dP c=true):uD c=true:=by simp[dP]at h;simp[uD];omega
def xX(s:Bs):(bL s).length=bO uD s 0:=by simp[bO,bL]
def Ch{s:Bs}(h:nG s=true):(∀c∈bL s,dP c=true)/\∀c∈behind s,dP c=true:=by
 simp only[nG,XA,XK]at h;obtain⟨h0,h1⟩:=h;have hin:∀{a j:Nat} {c:UInt8},a<=j->j<bO dP s a->s[j]?=some c->dP c=true:=by intro a j c ha hj hc;obtain⟨d,hd,hp⟩:=GB ha hj;rw[hc]at hd;cases hd;exact hp
 have hle:=fL (p:=dP) (s:=s) (i:=0) (Nat.zero_le _);by_cases hd:s[bO dP s 0]?=some 46
 ·have hlt:=(Xy.1 hd).1;have hp0:bO dP s 0≠0:=by
   intro e;cases s with
   |nil=>simp at hlt
   |cons c r=>simp only at h0;rw[gE (c:=c) rfl h0]at e;have:=fM dP (c::r) (0+1);omega
  have hw:(bL s).length=bO dP s 0:=by
   rw[xX];rcases Nat.lt_trichotomy (bO uD s 0) (bO dP s 0)with hl|hl|hl
   ·obtain⟨c,hc⟩:=aZ (l:=s) (i:=bO uD s 0) om;have:=vJ hc;rw[Hu (hin (Nat.zero_le _) hl hc)]at this;cases this
   ·exact hl
   ·obtain⟨c,hc,hp⟩:=GB (Nat.zero_le _) hl;rw[hd]at hc;cases hc;simp[uD]at hp
  unfold dS at h1;rw[if_neg (by rintro(e|e);exact hp0 e;exact e hd)]at h1;split at h1
  ·constructor
   ·intro c hc;rw[qw,hw]at hc;obtain⟨j,hj⟩:=List.mem_iff_getElem?.1 hc;have hjl:=(Xy.1 hj).1;simp only[XT]at hjl;rw[List.getElem?_take_of_lt om]at hj;exact hin (Nat.zero_le _) om hj
   ·intro c hc;rw[jG,hw]at hc;obtain⟨j,hj⟩:=List.mem_iff_getElem?.1 hc;rw[List.getElem?_drop]at hj;have hjl:=(Xy.1 hj).1;exact hin (a:=bO dP s 0+1) om om hj
  ·omega
 ·unfold dS at h1;rw[if_pos (.inr hd)]at h1;have hall:∀c∈s,dP c=true:=by
   intro c hc;obtain⟨j,hj⟩:=List.mem_iff_getElem?.1 hc;have hjl:=(Xy.1 hj).1;exact hin (Nat.zero_le _) om hj
  have hp:kK s=false:=by simp only[kK,Bool.not_eq_false'];exact List.all_eq_true.2 λc hc=>Hu (hall c hc)
  obtain⟨e1,e2⟩:=P0 hp;rw[e1,e2];exact⟨hall,by simp⟩
def tK(l:Bs)(i:Nat):d7 (l.take i)<=d7 l:=by
 have h:=Ja (l.drop i) (d7 (l.take i));have e:d7 l=List.foldl (λn c=>n*10+dv c) (d7 (l.take i)) (l.drop i):=by unfold d7;rw[<- List.foldl_append,List.take_append_drop]
 rw[e,h];have:d7 (l.take i)*1<=d7 (l.take i)*10 ^ (l.drop i).length:=Nat.mul_le_mul_left _ (Nat.pos_of_ne_zero (by simp));omega
def Cg(h12:aF.is 105=false)(h22:aF.is 103=false)(h23:aF.is 104=false)(h25:aF.is 107=false)(h34:aF.is 151=false)(h35:aF.is 152=false)(h57:aF.is 182=false)(h74:aF.is 181=false)(h76:aF.is 184=false)
  {H:aa} {s:Bs} (hs:s.length<=4611686018427387904):aq Tryz.prog aF 105 [.str s] H λv H'=>v=Iu (gn s)/\aS H.next H H':=by
 refine ak h12 TW rfl ?_;cases s with
 |nil=>have e:gn []=none:=rfl;rw[e];simp only[RL,sC,seval];exact⟨by trivial,aS.refl _ _⟩
 |cons c r=>
  have i0:lU (.str (c::r)) (.int .i64 0)=some (RN c):=bA (s:=c::r) (i:=0) rfl .i64;have hne:¬c::r=[]:=by simp
  simp only[RL,sC,seval,hne,i0];refine(jY h22 c H).mono ?_;rintro v _ ⟨rfl,rfl⟩;cases hd:dP c with
  |false=>
   have e:gn (c::r)=none:=by simp[gn,nG,hd]
   rw[e];simp only[sC,seval];exact⟨by trivial,aS.refl _ _⟩
  |true=>
  simp only[sC,seval];refine(qO h23 h25 h22 (Nat.zero_le _) hs).mono ?_;rintro v _ ⟨rfl,rfl⟩;have hle:=qP (s:=c::r) (Nat.zero_le _);by_cases hn:dS (c::r) 0=(c::r).length
  ·have hnum:nG (c::r)=true:=by simp only[nG,hd,hn,decide_true,Bool.and_self]
   have hn':((dS (c::r) 0:Nat):Int)=((c::r).length:Int):=by rw[hn]
   generalize c::r=s at *;obtain⟨hw,hb⟩:=Ch hnum;simp only[sC,seval,hn'];refine(LZ h34 h57 h74 h76 hs).mono ?_;rintro v _ ⟨rfl,rfl⟩;simp only[gA,XH,XI,sC,seval];have hwl:=uY s;have hbl:(behind s).length<=s.length:=by rw[jG];simp
   have hsay:gn s=if d7 (bL s)<2147483648 then some (d7 (bL s)*2 ^ 32+nP (jX (behind s)))else none:=by simp[gn,hnum]
   rw[hsay];generalize bL s=w at *;generalize behind s=t at *;refine aM (λq (T:bZ) H'=>∃i:Nat,i<=w.length/\q=w.length-i/\T 4=.str w/\T 5=.str t/\T 7=.int .i64 (d7 (w.take i):Int)/\d7 (w.take i)<2147483648/\T 31=.int .i64 (w.length:Int)/\T 32=.int .i64 (i:Int)/\H=H') w.length
    ⟨0,Nat.zero_le _,rfl,rfl,rfl,rfl,by simp[d7],rfl,rfl,rfl⟩ ?_
   rintro q T _ ⟨i,hi,rfl,g4,g5,g7,hv,g31,g32,rfl⟩;by_cases hlt:i<w.length
   ·have hlt':(i:Int)<(w.length:Int):=om;obtain⟨c,hc⟩:=aZ hlt;have hdc:=hw c (XG hc);have hdv:(c.toNat:Int)-48=((dv c:Nat):Int):=by simp[dP]at hdc;unfold dv;omega
    have hd9:dv c<=9:=by simp[dP]at hdc;unfold dv;omega
    have hw1:IntKind.u8.wrap ((dv c:Nat):Int)=((dv c:Nat):Int):=fZ om om;have hw2:IntKind.i64.wrap ((dv c:Nat):Int)=((dv c:Nat):Int):=bi om om;have hw3:IntKind.i64.wrap ((d7 (w.take i):Int)*10)=((d7 (w.take i)*10:Nat):Int):=by rw[bi om om];omega
    have hw4:IntKind.i64.wrap (((d7 (w.take i)*10:Nat):Int)+((dv c:Nat):Int))=((d7 (w.take (i+1)):Nat):Int):=by rw[bi om om,List.take_add_one,hc,Option.toList_some,Bl];omega
    simp only[sC,seval,g4,g5,g7,g31,g32,hlt',bA hc,hdv,hw1,hw2,hw3,hw4];by_cases hbig:d7 (w.take (i+1))<2147483648
    ·have hbig':¬(2147483648:Int)<=((d7 (w.take (i+1)):Nat):Int):=om;simp only[sC,seval,g4,g5,g7,g31,g32,hbig',dG i om];exact⟨_,om,i+1,om,rfl,by trivial,by trivial,rfl,hbig,by trivial,rfl,by trivial⟩
    ·have hbig':(2147483648:Int)<=((d7 (w.take (i+1)):Nat):Int):=om;have:=tK w (i+1);simp only[sC,seval,g4,g5,g7,g31,g32,hbig'];exact⟨by rw[if_neg om];rfl,aS.refl _ _⟩
   ·obtain rfl:i=w.length:=om;rw[List.take_length]at g7 hv;have e1:=Df (k':=.u64) (a:=d7 w) (b:=32) om om;simp only[Int.cast_ofNat_Int]at e1;simp only[sC,seval,g4,g5,g7,g31,g32,Int.lt_irrefl,e1];refine(IM h35 hb om).mono ?_;rintro v H' ⟨rfl,hx⟩;have hf:=OJ (uJ hb);have e2:=HJ (a:=d7 w*2 ^ 32) (b:=nP (jX t)) om om;rw[KJ 32 _ hf]at e2;simp only[sC,seval,e2];exact⟨by rw[if_pos hv];rfl,hx⟩
  ·have hn':¬((dS (c::r) 0:Nat):Int)=((c::r).length:Int):=om;have e:gn (c::r)=none:=by simp only[gn,nG,hn,decide_false,Bool.and_false,XJ,false_and,if_false]
   rw[e];simp only[sC,seval,hn'];exact⟨by trivial,aS.refl _ _⟩
open Go.Abs Go.Abs.S
def nA(hN:aF.is 159=false):Dx aF 159 dP:=by
 intro c H;refine ak hN Td rfl ?_;by_cases h1:(48:Int)<=(c.toNat:Int)
 ·by_cases h2:(c.toNat:Int)<=57
  ·simp only[OY,sC,seval,h1,h2];exact⟨by simp[dP];omega,by trivial⟩
  ·simp only[OY,sC,seval,h1,h2];exact⟨by simp[dP];omega,by trivial⟩
 ·simp only[OY,sC,seval,h1];exact⟨by simp[dP];omega,by trivial⟩
def pw(h36:aF.is 156=false)(h54:aF.is 159=false){H:aa}{s:Bs}{i:Nat}(hi:i<=s.length)(hs:s.length<=4611686018427387904) :
  aq Tryz.prog aF 156 [.str s,.int .i64 (i:Int)] H λv H'=>v=.int .i64 ((dS s i-i:Nat):Int)/\H=H':=by
 refine ak h36 Tg rfl ?_;simp only[UJ,sC,seval];refine im (λ(T:bZ) H'=>T 0=.str s/\T 1=.int .i64 (i:Int)/\T 5=.int .i64 (bO dP s i:Int)/\H=H') (cU _ _) ?_ ?_
 ·refine aM (λq (T:bZ) H'=>∃j:Nat,j<=s.length/\q=s.length-j/\T 0=.str s/\T 1=.int .i64 (i:Int)/\T 5=.int .i64 (j:Int)/\bO dP s i=bO dP s j/\H=H') (s.length-i) ⟨i,hi,rfl,rfl,rfl,rfl,rfl,rfl⟩ ?_;rintro q T _ ⟨j,hj,rfl,g0,g1,g5,hA,rfl⟩;by_cases hlt:j<s.length
  ·have hlt':(j:Int)<(s.length:Int):=om;obtain⟨c,hc⟩:=aZ hlt;simp only[sC,seval,g0,g1,g5,hlt',bA hc];refine(nA h54 c H).mono ?_;rintro v _ ⟨rfl,rfl⟩;cases hb:dP c with
   |true=>simp only[sC,seval,g0,g1,g5,dG j om];exact⟨_,om,j+1,om,rfl,by trivial,by trivial,rfl,by rw[hA,gE hc hb],by trivial⟩
   |false=>simp only[sC,seval,g0,g1,g5];exact⟨by trivial,by trivial,by rw[hA,lZ hc hb],by trivial⟩
  ·have hlt':¬(j:Int)<(s.length:Int):=om;simp only[sC,seval,g0,g1,g5,hlt'];exact⟨by trivial,by trivial,by rw[hA,nw om],by trivial⟩
 rintro T _ ⟨g0,g1,g5,rfl⟩;have hle:=fL (p:=dP) hi;have hge:=fM dP s i;have hdef:dS s i=if bO dP s i=i∨s[bO dP s i]?≠some 46 then bO dP s i else if bO dP s i+1<bO dP s (bO dP s i+1)then bO dP s (bO dP s i+1)else bO dP s i:=rfl;rw[hdef];generalize bO dP s i=e at *;by_cases he:e=i
 ·subst he;simp only[sC,seval,g0,g1,g5];exact⟨by rw[if_pos (.inl (by trivial))];simp,by trivial⟩
 have he':¬(e:Int)=(i:Int):=om;simp only[sC,seval,g0,g1,g5,he',dG e om];refine im (λ(T:bZ) H'=>∃m:Nat,m=(if s[e]?=some 46 then bO dP s (e+1)else e+1)/\T 0=.str s/\T 1=.int .i64 (i:Int)/\T 5=.int .i64 (e:Int)/\T 6=.int .i64 (m:Int)/\H=H') (cU _ _) ?_ ?_
 ·refine aM (λq (T:bZ) H'=>∃m:Nat,e+1<=m/\m<=s.length+1/\q=s.length+1-m/\T 0=.str s/\T 1=.int .i64 (i:Int)/\T 5=.int .i64 (e:Int)/\T 6=.int .i64 (m:Int)/\(s[e]?=some 46->bO dP s (e+1)=bO dP s m)/\(s[e]?≠some 46->m=e+1)/\H=H') (s.length+1-(e+1)) ⟨e+1,om,om,rfl,by simp only[sC,seval,g0],by simp only[sC,seval,g1],by simp only[sC,seval,g5],by simp only[sC,seval],λ_=>rfl,λ_=>rfl,rfl⟩ ?_;clear g0 g1 g5;rintro q T _ ⟨m,h1,h2,rfl,g0,g1,g5,g6,hA,hB,rfl⟩;by_cases hlt:e<s.length
  ·have hlt':(e:Int)<(s.length:Int):=om;obtain⟨c,hc⟩:=aZ hlt;by_cases hp:(c.toNat:Int)=46
   ·have hc46:s[e]?=some 46:=by
     rw[hc];congr 1;exact UInt8.toNat_inj.1 (by simpa using(show c.toNat=46 by omega))
    by_cases hml:m<s.length
    ·have hml':(m:Int)<(s.length:Int):=om;obtain⟨d,hd⟩:=aZ hml;simp only[sC,seval,g0,g1,g5,g6,hlt',bA hc,hp,hml',bA hd];refine(nA h54 d H).mono ?_;rintro v _ ⟨rfl,rfl⟩;cases hb:dP d with
     |true=>simp only[sC,seval,g0,g1,g5,g6,dG m om];exact⟨_,om,m+1,om,om,rfl,by trivial,by trivial,by trivial,rfl,λh=>by rw[hA h,gE hd hb],λh=>absurd hc46 h,by trivial⟩
     |false=>simp only[sC,seval,g0,g1,g5,g6];exact⟨m,by rw[if_pos hc46,hA hc46,lZ hd hb],by trivial,by trivial,by trivial,by trivial,by trivial⟩
    ·have hml':¬(m:Int)<(s.length:Int):=om;simp only[sC,seval,g0,g1,g5,g6,hlt',bA hc,hp,hml'];exact⟨m,by rw[if_pos hc46,hA hc46,nw om],by trivial,by trivial,by trivial,by trivial,by trivial⟩
   ·have hc46:s[e]?≠some 46:=by
     rw[hc];intro h;cases h;exact hp rfl
    simp only[sC,seval,g0,g1,g5,g6,hlt',bA hc,hp];exact⟨m,by rw[if_neg hc46,hB hc46],by trivial,by trivial,by trivial,by trivial,by trivial⟩
  ·have hlt':¬(e:Int)<(s.length:Int):=om;have hc46:s[e]?≠some 46:=by rw[XP om];simp
   simp only[sC,seval,g0,g1,g5,g6,hlt'];exact⟨m,by rw[if_neg hc46,hB hc46],by trivial,by trivial,by trivial,by trivial,by trivial⟩
 clear g0 g1 g5;rintro T _ ⟨m,hm,g0,g1,g5,g6,rfl⟩;have hm1:m<=s.length+1:=by
  rw[hm];split
  ·rename_i h;have:=(Xy.1 h).1;have:=fL (p:=dP) (s:=s) (i:=e+1) om;omega
  ·omega
 by_cases hc46:s[e]?=some 46
 ·rw[if_pos hc46]at hm;rw[if_neg (by rintro(h|h);exact he h;exact h hc46),<- hm];by_cases hgt:e+1<m
  ·rw[if_pos hgt];have hgt2:(((e+1:Nat)):Int)<(m:Int):=om;simp only[sC,seval,g0,g1,g5,g6,dG e om,hgt2];exact⟨by rw[bi om om];congr 1;omega,by trivial⟩
  ·rw[if_neg hgt];have hgt2:¬(((e+1:Nat)):Int)<(m:Int):=om;simp only[sC,seval,g0,g1,g5,g6,dG e om,hgt2];exact⟨by rw[bi om om];congr 1;omega,by trivial⟩
 ·rw[if_neg hc46]at hm;rw[if_pos (.inr hc46)];have hgt2:¬(((e+1:Nat)):Int)<(m:Int):=om;simp only[sC,seval,g0,g1,g5,g6,dG e om,hgt2];exact⟨by rw[bi om om];congr 1;omega,by trivial⟩
open Go.Abs Go.Abs.S
def EN(l:List Nat):List ae:=l.map λn:Nat=>.int .i64 (n:Int)
def GV(l:List Nat):(EN l).length=l.length:=by simp[EN]
def Oj{l:List Nat}{i:Nat}{n:Nat}(h:l[i]?=some n):(EN l)[i]?=some (.int .i64 (n:Int)):=by simp[EN,h]
def Oh(l:List Nat)(i n:Nat):EN (l.set i n)=(EN l).set i (.int .i64 (n:Int)):=by simp[EN]
def JF{n:Nat}{H:aa}{s:ae}{l:List ae}(h:AZ n H s l){i:Nat}(hi:i<l.length){x:ae}(hx:x.one=true) :
  ∃H',bh 1 H (CY s i) x=some H'/\AZ n H' s (l.set i x)/\aS n H H':=by
 rcases h with⟨_,rfl⟩|⟨b,low,rfl,h2,h3,h4,h5⟩
 ·simp at hi
 ·refine⟨H.set b (.cells (l.set i x) l.length false),?_,.inr ⟨b,l.length,by simp,h2,h3,by rw[aa.get_set,if_pos rfl],by simp⟩,(aS.refl n H).set h2 _⟩;simp only[CY,Nat.mul_one,Nat.zero_add];exact Bi h4 h5 hi hx
def tc(s:Bs):nG s=true↔dS s 0=s.length/\s.length≠0:=by
 cases s with
 |nil=>simp[nG]
 |cons c r=>
  simp only[nG,XA,XK];constructor
  ·rintro⟨_,h⟩;exact⟨h,by simp⟩
  ·rintro⟨h,_⟩;refine⟨?_,h⟩;cases hd:dP c with
   |true=>rfl
   |false=>have e:bO dP (c::r) 0=0:=lZ (c:=c) rfl hd;unfold dS at h;rw[e,if_pos (.inl rfl)]at h;simp at h
def JP{s:Bs}{i:Nat}{c:UInt8}(hi:i<(bL s).length)(hc:s[i]?=some c):(bL s)[i]?=some c/\uD c=true:=by
 have h:(bL s)[i]?=some c:=by rw[qw,List.getElem?_take_of_lt hi,hc]
 refine⟨h,?_⟩;have:=List.all_takeWhile (p:=uD) (l:=s);exact List.all_eq_true.1 this _ (XG h)
def Iq{s:Bs}{c:UInt8}(hc:s[(bL s).length]?=some c):c.toNat=46:=by rw[xX]at hc;have:=vJ hc;simpa[uD]using this
def HH{l:List Nat}(h:∀d∈l,d<=9){n:Nat}(hn:n<2147483648)(k:Nat):(bits l n k).1<2 ^ (31+k):=by
 have h1:=rI l n k;have h2:=oI h;have h3:n*10 ^ l.length+gi l<2147483648*10 ^ l.length:=by
  have:n*10 ^ l.length+10 ^ l.length<=2147483648*10 ^ l.length:=by rw[<- Nat.succ_mul];exact Nat.mul_le_mul_right _ hn
  omega
 have hp:0<10 ^ l.length:=Nat.pos_of_ne_zero (by simp);have h4:(bits l n k).1*10 ^ l.length<2 ^ (31+k)*10 ^ l.length:=by
  calc (bits l n k).1*10 ^ l.length<=2 ^ k*(n*10 ^ l.length+gi l):=om
   _<2 ^ k*(2147483648*10 ^ l.length):=Nat.mul_lt_mul_of_pos_left h3 (Nat.pos_of_ne_zero (by simp))
   _=2 ^ (31+k)*10 ^ l.length:=by rw[<- Nat.mul_assoc,Nat.pow_add,Nat.mul_comm (2 ^ k)]
 exact Nat.lt_of_mul_lt_mul_right h4
def z6(h13:aF.is 157=false)(h36:aF.is 156=false)(h54:aF.is 159=false)
  {H:aa} {s:Bs} (hs:s.length<=1099511627776):aq Tryz.prog aF 157 [.str s] H λv H'=>v=Iu (gn s)/\aS H.next H H':=by
 refine ak h13 Tf rfl ?_;simp only[UI,sC,seval];refine(pw h36 h54 (Nat.zero_le _) om).mono ?_;rintro v _ ⟨rfl,rfl⟩;have hle:=qP (s:=s) (Nat.zero_le _);by_cases hn:dS s 0=s.length
 ·have hn':((dS s 0-0:Nat):Int)=(s.length:Int):=om;by_cases h0:s.length=0
  ·have h0':(s.length:Int)=0:=om;have e:gn s=none:=by
    unfold gn;rw[if_neg (by rw[tc];rintro⟨⟨_,h⟩,_⟩;exact h h0)]
   rw[e];simp only[sC,seval,hn',h0'];exact⟨by trivial,aS.refl _ _⟩
  have h0':¬(s.length:Int)=0:=om;have hnum:nG s=true:=(tc s).2 ⟨hn,h0⟩;obtain⟨hw,hb⟩:=Ch hnum;simp only[sC,seval,hn',h0'];have hwl:=uY s;have hbl:(behind s).length=s.length-((bL s).length+1):=by rw[jG];simp
  have hsay:gn s=if d7 (bL s)<2147483648 then some (d7 (bL s)*2 ^ 32+nP (jX (behind s)))else none:=by simp[gn,hnum]
  rw[hsay];refine im (λ(T:bZ) H'=>T 0=.str s/\T 5=.int .i64 ((bL s).length:Int)/\T 4=.int .i64 (d7 (bL s):Int)/\d7 (bL s)<2147483648/\H=H') (cU _ _) ?_ ?_
  ·refine aM (λq (T:bZ) H'=>∃i:Nat,i<=(bL s).length/\q=(bL s).length-i/\T 0=.str s/\T 4=.int .i64 (d7 ((bL s).take i):Int)/\d7 ((bL s).take i)<2147483648/\T 5=.int .i64 (i:Int)/\H=H') (bL s).length
    ⟨0,Nat.zero_le _,rfl,rfl,rfl,by simp[d7],rfl,rfl⟩ ?_
   rintro q T _ ⟨i,hi,rfl,g0,g4,hv,g5,rfl⟩;by_cases hlt:i<(bL s).length
   ·have hlt':(i:Int)<(s.length:Int):=om;obtain⟨c,hc⟩:=aZ (l:=s) (i:=i) om;obtain⟨hcw,hnp⟩:=JP hlt hc;have hdc:=hw c (XG hcw);have hnp':¬(c.toNat:Int)=46:=by simp[uD]at hnp;omega
    have hdv:(c.toNat:Int)-48=((dv c:Nat):Int):=by simp[dP]at hdc;unfold dv;omega
    have hd9:dv c<=9:=by simp[dP]at hdc;unfold dv;omega
    have hw1:IntKind.u8.wrap ((dv c:Nat):Int)=((dv c:Nat):Int):=fZ om om;have hw2:IntKind.i64.wrap ((dv c:Nat):Int)=((dv c:Nat):Int):=bi om om;have hw3:IntKind.i64.wrap ((d7 ((bL s).take i):Int)*10)=((d7 ((bL s).take i)*10:Nat):Int):=by rw[bi om om];omega
    have hw4:IntKind.i64.wrap (((d7 ((bL s).take i)*10:Nat):Int)+((dv c:Nat):Int))=((d7 ((bL s).take (i+1)):Nat):Int):=by rw[bi om om,List.take_add_one,hcw,Option.toList_some,Bl];omega
    simp only[sC,seval,g0,g4,g5,hlt',bA hc,hnp',hdv,hw1,hw2,hw3,hw4];by_cases hbig:d7 ((bL s).take (i+1))<2147483648
    ·have hbig':¬(2147483648:Int)<=((d7 ((bL s).take (i+1)):Nat):Int):=om;simp only[sC,seval,g0,g4,g5,hbig',dG i om];exact⟨_,om,i+1,om,rfl,by trivial,rfl,hbig,rfl,by trivial⟩
    ·have hbig':(2147483648:Int)<=((d7 ((bL s).take (i+1)):Nat):Int):=om;have:=tK (bL s) (i+1);simp only[sC,seval,g0,g4,g5,hbig'];exact⟨by rw[if_neg om];rfl,aS.refl _ _⟩
   ·obtain rfl:i=(bL s).length:=om;rw[List.take_length]at g4 hv;by_cases hlt2:(bL s).length<s.length
    ·have hlt':((bL s).length:Int)<(s.length:Int):=om;obtain⟨c,hc⟩:=aZ hlt2;have h46:(c.toNat:Int)=46:=by have:=Iq hc;omega
     simp only[sC,seval,g0,g4,g5,hlt',bA hc,h46];exact⟨by trivial,by trivial,by trivial,hv,by trivial⟩
    ·have hlt':¬((bL s).length:Int)<(s.length:Int):=om;simp only[sC,seval,g0,g4,g5,hlt'];exact⟨by trivial,by trivial,by trivial,hv,by trivial⟩
  rintro T _ ⟨g0,g5,g4,hv,rfl⟩;rw[if_pos hv];have hget:∀m,(behind s)[m]?=s[(bL s).length+1+m]?:=λm=>by rw[jG,List.getElem?_drop]
  generalize d7 (bL s)=w at *;generalize (bL s).length=e at *;generalize behind s=t at *;simp only[sC,seval,g0,g4,g5,dG e om];refine im (λ(T:bZ) H'=>T 4=.int .i64 (w:Int)/\AZ H.next H' (T 6) (EN (jX t))/\aS H.next H H') (cU _ _) ?_ ?_
  ·refine aM (λq (T:bZ) H'=>∃m:Nat,m<=t.length/\q=t.length-m/\T 0=.str s/\T 4=.int .i64 (w:Int)/\T 7=.int .i64 ((e+1+m:Nat):Int)/\AZ H.next H' (T 6) (EN (jX (t.take m)))/\aS H.next H H') t.length
    ⟨0,Nat.zero_le _,rfl,by simp only[sC,seval,g0],by simp only[sC,seval,g4],by simp only[sC,seval];try rfl,by simp only[sC,seval];exact AZ.nil _ _,aS.refl _ _⟩ ?_
   clear g0 g4 g5;rintro q T H1 ⟨m,hm,rfl,g0,g4,g7,hA,hE⟩;by_cases hlt:m<t.length
   ·have hlt':((e+1+m:Nat):Int)<(s.length:Int):=om;obtain⟨c,hc⟩:=aZ hlt;have hcs:=(hget m).symm.trans hc;have hdc:=hb c (XG hc);have hdv:(c.toNat:Int)-48=((dv c:Nat):Int):=by simp[dP]at hdc;unfold dv;omega
    have hd9:dv c<=9:=by simp[dP]at hdc;unfold dv;omega
    have hw1:IntKind.u8.wrap ((dv c:Nat):Int)=((dv c:Nat):Int):=fZ om om;have hw2:IntKind.i64.wrap ((dv c:Nat):Int)=((dv c:Nat):Int):=bi om om;obtain⟨s',H2,e1,e2,e3⟩:=hA.push (bytes:=8) (by have:=hE.next;omega) (x:=.int .i64 ((dv c:Nat):Int)) rfl (by simp[EN,jX];omega) om;simp only[sC,seval,g0,g4,g7,hlt',bA hcs,hdv,hw1,hw2,lu _ _ (x:=.int .i64 ((dv c:Nat):Int)) rfl,e1,dG (e+1+m) om];refine⟨_,om,m+1,om,rfl,by trivial,by trivial,rfl,?_,hE.trans e3⟩;rw[List.take_add_one,hc];simpa[jX,EN]using e2
   ·obtain rfl:m=t.length:=om;have hlt':¬((e+1+t.length:Nat):Int)<(s.length:Int):=om;rw[List.take_length]at hA;simp only[sC,seval,g0,g4,g7,hlt'];exact⟨by trivial,hA,hE⟩
  clear g0 g4 g5;rintro T H1 ⟨g4,hA,hE⟩;have hd9:=uJ hb;have htl:(jX t).length<=1099511627776:=by simp[jX];omega
  generalize jX t=l at *;simp only[sC,seval,g4];refine aM (λq (T:bZ) H'=>∃k:Nat,k<=32/\q=32-k/\T 8=.int .i64 ((bits l w k).1:Int)/\T 9=.int .i64 (k:Int)/\AZ H.next H' (T 6) (EN (bits l w k).2)/\aS H.next H H') 32
   ⟨0,Nat.zero_le _,rfl,by simp only[sC,seval];try rfl,by simp only[sC,seval];try rfl,by simp only[sC,seval];exact hA,hE⟩ ?_
  clear g4 hA hE T H1;rintro q T H1 ⟨k,hk,rfl,g8,g9,hA,hE⟩;by_cases hlt:k<32
  ·have hlt':(k:Int)<32:=om;have hb9:=wT hd9 w k;have hbl:=ou l w k;have hbv:=HH hd9 hv k;have hbv1:=HH hd9 hv (k+1);have hpk:(2:Nat) ^ (31+(k+1))<=2 ^ 63:=Nat.pow_le_pow_right om om;have hbits:bits l w (k+1)=(2*(bits l w k).1+(j5 (bits l w k).2).1,(j5 (bits l w k).2).2):=rfl;rw[hbits]at hbv1;simp only[sC,seval,g8,g9,hlt',hA.cel.len,GV,hbl];generalize hm:(bits l w k).2=m at *;generalize hout:(bits l w k).1=out at *;have hov:=nV hb9;have hw0:IntKind.i64.wrap ((l.length:Int)-1)=(l.length:Int)-1:=bi om om;generalize hsl:T 6=sl at *;refine im (λ(T:bZ) H'=>T 8=.int .i64 (out:Int)/\T 9=.int .i64 (k:Int)/\T 10=.int .i64 ((j5 m).1:Int)/\AZ H.next H' (T 6) (EN (j5 m).2)/\aS H.next H H') (cU _ _) ?_ ?_
   ·refine aM (λq (T:bZ) H'=>∃j:Nat,j<=m.length/\j=q/\T 6=sl/\T 8=.int .i64 (out:Int)/\T 9=.int .i64 (k:Int)/\T 10=.int .i64 ((j5 (m.drop j)).1:Int)/\T 11=.int .i64 ((j:Int)-1)/\AZ H.next H' sl (EN (rn m j))/\aS H.next H H') m.length
     ⟨m.length,om,rfl,by simp only[sC,seval,hsl],by simp only[sC,seval,g8],by simp only[sC,seval,g9],by simp only[sC,seval];rw[List.drop_eq_nil_of_le om];rfl,by simp only[sC,seval,hw0,hbl],by rw[CB];exact hA,hE⟩ ?_
    clear g8 g9 hA hE hsl T H1;rintro q T H1 ⟨j,hj,rfl,g6,g8,g9,g10,g11,hA,hE⟩;cases j with
    |zero=>have c0:¬(0:Int)<=((0:Nat):Int)-1:=om;rw[List.drop_zero]at g10;rw[yN]at hA;simp only[sC,seval,g6,g8,g9,g10,g11,c0];exact⟨by trivial,by trivial,by trivial,hA,hE⟩
    |succ j=>
     have c0:(0:Int)<=((j+1:Nat):Int)-1:=om;have ej:((j+1:Nat):Int)-1=(j:Int):=om;rw[ej]at g11 c0;obtain⟨d,hdd⟩:=aZ (l:=m) (i:=j) om;have hdn:=hb9 d (XG hdd);have ho:=nV (l:=m.drop (j+1)) λx hx=>hb9 x (List.mem_of_mem_drop hx);have hset:=Cy hdd;have hdr:j5 (m.drop j)=((d*2+(j5 (m.drop (j+1))).1) / 10,(d*2+(j5 (m.drop (j+1))).1) % 10::(j5 (m.drop (j+1))).2):=by rw[AC hdd];rfl
     generalize (j5 (m.drop (j+1))).1=o at *;have hjl:j<(EN (rn m (j+1))).length:=by rw[GV,wy];omega
     have ia:=hA.cel.idx .i64 hjl;have l1:=hA.cel.load (Oj (Cz hdd));have w1:IntKind.i64.wrap ((d:Int)*2)=((d*2:Nat):Int):=by rw[bi om om];omega
     have w2:IntKind.i64.wrap (((d*2:Nat):Int)+(o:Int))=((d*2+o:Nat):Int):=by rw[bi om om];omega
     have e3:cT .rem (.int .i64 ((d*2+o:Nat):Int)) (.int .i64 10)=some (.int .i64 (((d*2+o) % 10:Nat):Int)):=by rw[uO _ _ _ om];rfl
     have e4:cT .quo (.int .i64 ((d*2+o:Nat):Int)) (.int .i64 10)=some (.int .i64 (((d*2+o) / 10:Nat):Int)):=by rw[uP _ _ _ om];have:((d*2+o:Nat):Int).tdiv 10=(((d*2+o) / 10:Nat):Int):=rfl;rw[this,bi om om]
     obtain⟨H2,m2,r2,n2⟩:=JF hA hjl (x:=.int .i64 (((d*2+o) % 10:Nat):Int)) rfl;have hwj:IntKind.i64.wrap ((j:Int)-1)=(j:Int)-1:=bi om om;simp only[sC,seval,g6,g8,g9,g10,g11,c0,ia,l1,w1,w2,e3,e4,m2,hwj];refine⟨_,Nat.lt_succ_self j,j,om,rfl,by trivial,by trivial,by trivial,by rw[hdr],by trivial,?_,hE.trans n2⟩;rw[<- hset,Oh];exact r2
   clear g8 g9 hA hE hsl T H1;rintro T H1 ⟨g8,g9,g10,hA,hE⟩;have w1:IntKind.i64.wrap ((out:Int)*2)=((2*out:Nat):Int):=by rw[bi om om];omega
   have w2:IntKind.i64.wrap (((2*out:Nat):Int)+((j5 m).1:Int))=((2*out+(j5 m).1:Nat):Int):=by rw[bi om om];omega
   simp only[sC,seval,g8,g9,g10,w1,w2,dG k om];exact⟨_,om,k+1,om,rfl,by rw[hbits],rfl,by rw[hbits];exact hA,hE⟩
  obtain rfl:k=32:=om;have hlast:=y7 hd9 w;rw[hlast]at g8;simp only[sC,seval,g8,g9,Int.cast_ofNat_Int,Int.lt_irrefl];exact⟨by rw[Nat.mul_comm];rfl,hE⟩
 ·have hn':¬((dS s 0-0:Nat):Int)=(s.length:Int):=om;have e:gn s=none:=by
   unfold gn;rw[if_neg (by rw[tc];rintro⟨⟨h,_⟩,_⟩;exact hn h)]
  rw[e];simp only[sC,seval,hn'];exact⟨by trivial,aS.refl _ _⟩
open Go.Abs Go.Abs.S
def Eu(n:Nat):List Nat:=if h:n<10 then [n]else n % 10::Eu (n / 10)
termination_by n
decreasing_by omega
def jw(n:Nat):List Nat:=(Eu n).reverse
def NV{n:Nat}(h:n<10):Eu n=[n]:=by rw[Eu,dif_pos h]
def NW{n:Nat}(h:¬n<10):Eu n=n % 10::Eu (n / 10):=by rw[Eu,dif_neg h]
def kM{n:Nat}(h:n<10):jw n=[n]:=by rw[jw,NV h];rfl
def rB{n:Nat}(h:¬n<10):jw n=jw (n / 10)++[n % 10]:=by rw[jw,NW h];simp[jw]
def ur(l:List Nat):Bs:=l.map λd=>UInt8.ofNat (48+d)
def FQ(a b:List Nat):ur (a++b)=ur a++ur b:=by simp[ur]
def AQ(l:List Nat):(ur l).length=l.length:=by simp[ur]
def CQ(k:Nat):∀n,n<10 ^ (k+1)->(jw n).length<=k+1:=by
 induction k with
 |zero=>intro n h;rw[kM (by simpa using h)];simp
 |succ k ih=>
  intro n h;by_cases hn:n<10
  ·rw[kM hn];simp
  ·rw[rB hn];have:=ih (n / 10) (by rw[Nat.pow_succ]at h;omega);simp;omega
open Go.Abs Go.Abs.S
def QC(k:IntKind)(n:Int):MQ .neg (.int k n)=some (.int k (k.wrap (0-n))):=by simp only[MQ,mX]
def tl:cK->cK
 | .seq _ b=>b
 |c=>c
def Mw(n:Nat):ur (jw n)≠[]:=by
 by_cases h:n<10
 ·rw[kM h];simp[ur]
 ·rw[rB h];simp[ur]
open Go.Abs Go.Abs.S
def qV(s:Bs):Bool:=decide (s=[108,101,116])||(decide (s=[115,101,116])||(decide (s=[105,102])||(decide (s=[101,108,115,101])||(decide (s=[119,104,105,108,101])||decide (s=[114,101,116,117,114,110])))))
def Lr(hN:aF.is 110=false)(s:Bs){H:aa}:aq Tryz.prog aF 110 [.str s] H λv H'=>v=.bool (qV s)/\H=H':=by
 refine ak hN TQ rfl ?_;unfold qV;by_cases h1:s=[108,101,116]
 ·subst h1;simp only[C8,sC,seval];exact⟨by simp,by trivial⟩
 by_cases h2:s=[115,101,116]
 ·subst h2;simp only[C8,sC,seval,h1];exact⟨by simp,by trivial⟩
 by_cases h3:s=[105,102]
 ·subst h3;simp only[C8,sC,seval,h1,h2];exact⟨by simp,by trivial⟩
 by_cases h4:s=[101,108,115,101]
 ·subst h4;simp only[C8,sC,seval,h1,h2,h3];exact⟨by simp,by trivial⟩
 by_cases h5:s=[119,104,105,108,101]
 ·subst h5;simp only[C8,sC,seval,h1,h2,h3,h4];exact⟨by simp,by trivial⟩
 by_cases h6:s=[114,101,116,117,114,110]
 ·subst h6;simp only[C8,sC,seval,h1,h2,h3,h4,h5];exact⟨by simp,by trivial⟩
 simp only[C8,sC,seval,h1,h2,h3,h4,h5,h6];exact⟨by simp,by trivial⟩
def pre(s t:Bs):Bool:=decide (s.take t.length=t)
def IL(h75:aF.is 183=false)(s t:Bs){H:aa}:aq Tryz.prog aF 183 [.str s,.str t] H λv H'=>v=.bool (pre s t)/\H=H':=by
 refine ak h75 SI rfl ?_;by_cases h:t.length<=s.length
 ·have h':(t.length:Int)<=(s.length:Int):=om;simp only[Rz,sC,seval,h',uw h];exact⟨by trivial,by trivial⟩
 ·have h':¬(t.length:Int)<=(s.length:Int):=om;have e:pre s t=false:=by
   unfold pre;rw[decide_eq_false];intro he;have:=congrArg List.length he;simp at this;omega
  simp only[Rz,sC,seval,h',e];exact⟨by trivial,by trivial⟩
def Ky(h51:aF.is 154=false)(h75:aF.is 183=false)(s t:Bs){H:aa}:aq Tryz.prog aF 154 [.str s,.str t] H λv H'=>v=.bool (pre s t)/\H=H':=by refine ak h51 Tj rfl ?_;simp only[UL,sC,seval];have key:=IL h75 s t (H:=H);refine key.mono ?_;rintro v _ ⟨rfl,rfl⟩;simp only[sC,seval];exact⟨by trivial,by trivial⟩
def Jl(s:Bs)(n:Nat):Nl 10 s n=n+s.count 10:=by
 induction s generalizing n with
 |nil=>simp[Nl]
 |cons c r ih=>
  rw[Nl];by_cases h:c=10
  ·subst h;have e:Nat.beq (UInt8.toNat 10) 10=true:=rfl;rw[e,cond_true,ih];simp;omega
  ·have e:Nat.beq c.toNat 10=false:=by
    cases hb:Nat.beq c.toNat 10 with
    |false=>rfl
    |true=>exact absurd (UInt8.toNat_inj.1 (XF hb)) h
   rw[e,cond_false,ih,List.count_cons_of_ne (by exact h)]
def Fy(hN:aF.is 102=false)(s:Bs){H:aa}:aq Tryz.prog aF 102 [.str s,.str [10]] H λv H'=>v=.int .i64 (s.count 10:Int)/\H=H':=by
 refine ak hN TZ rfl ?_;have hl1:((List.length [(10:UInt8)]:Nat):Int)=1:=rfl;have i0:lU (.str [10]) (.int .i64 0)=some (.int .u8 10):=rfl;have e:mV .cbs [.str s,.int .u8 10]=some (.int .i64 (s.count 10:Int)):=by have:mV .cbs [.str s,.int .u8 10]=some (.int .i64 (Nl 10 s 0:Int)):=rfl;rw[this,Jl,Nat.zero_add]
 simp only[Vh,sC,seval,hl1,i0,e];exact⟨by trivial,by trivial⟩
def sY(hN:aF.is 113=false){s:Bs}{i:Nat}(hi:i<=s.length)(hs:s.length<=4611686018427387904){H:aa}:aq Tryz.prog aF 113 [.str s,.int .i64 (i:Int)] H λv H'=>v=.int .i64 (bT s i:Int)/\H=H':=by
 refine ak hN TN rfl ?_;simp only[U8,sC,seval];refine aM (λq (T:bZ) H'=>∃j:Nat,j<=i/\q=i-j/\T 0=.str s/\T 1=.int .i64 (i:Int)/\T 5=.int .i64 (bT s j:Int)/\bT s j<=j+1/\T 6=.int .i64 (j:Int)/\H=H') i ⟨0,Nat.zero_le _,rfl,rfl,rfl,rfl,by simp[bT],rfl,rfl⟩ ?_;rintro q T _ ⟨j,hj,rfl,g0,g1,g5,hle,g6,rfl⟩;by_cases hlt:j<i
 ·have hlt':(j:Int)<(i:Int):=om;obtain⟨c,hc⟩:=aZ (l:=s) (i:=j) om;have hst:=I0 hc;by_cases h10:(c.toNat:Int)=10
  ·rw[if_pos om]at hst;simp only[sC,seval,g0,g1,g5,g6,hlt',bA hc,h10,dG (bT s j) om,dG j om];exact⟨_,om,j+1,om,rfl,by trivial,by trivial,by rw[hst],om,rfl,by trivial⟩
  ·rw[if_neg om]at hst;simp only[sC,seval,g0,g1,g5,g6,hlt',bA hc,h10,dG j om];exact⟨_,om,j+1,om,rfl,by trivial,by trivial,by rw[hst];rfl,om,rfl,by trivial⟩
 ·obtain rfl:j=i:=om;simp only[sC,seval,g0,g1,g5,g6,Int.lt_irrefl];exact⟨by trivial,by trivial⟩
def tW(hN:aF.is 158=false):Dx aF 158 beg:=by
 intro c H;refine ak hN Te rfl ?_;have e:beg c=(((decide ((97:Int)<=c.toNat)&&decide ((c.toNat:Int)<=122))||(decide ((65:Int)<=c.toNat)&&decide ((c.toNat:Int)<=90)))||decide ((c.toNat:Int)=95)):=by rw[Bool.eq_iff_iff];simp[beg];omega
 rw[e];by_cases h1:(97:Int)<=(c.toNat:Int)<;>by_cases h2:(c.toNat:Int)<=122<;>by_cases h3:(65:Int)<=(c.toNat:Int)<;>by_cases h4:(c.toNat:Int)<=90<;>by_cases h5:(c.toNat:Int)=95
 all_goals first
  |(exfalso;omega)
  | (simp only [UH, sA, sB, seval, h1, h2, h3, h4, h5]
     exact⟨by simp, by trivial⟩)
open Go.Abs Go.Abs.S
def G0(c:UInt8)(s:Bs)(n:Nat):(0<=Bc c s n)↔c∈s:=by
 induction s generalizing n with
 |nil=>simp[Bc]
 |cons b r ih=>
  rw[Bc];by_cases h:b=c
  ·subst h;have e:Nat.beq b.toNat b.toNat=true:=Nat.beq_refl _;rw[e,cond_true];simp
  ·have e:Nat.beq b.toNat c.toNat=false:=by
    cases hb:Nat.beq b.toNat c.toNat with
    |false=>rfl
    |true=>exact absurd (UInt8.toNat_inj.1 (XF hb)) h
   rw[e,cond_false,ih];rw[List.mem_cons];constructor
   ·exact .inr
   ·rintro(h'|h')
    ·exact absurd h'.symm h
    ·exact h'
def Lv(h52:aF.is 155=false)(h76:aF.is 184=false)(s:Bs)(c:UInt8){H:aa}:aq Tryz.prog aF 155 [.str s,RN c] H λv H'=>v=.int .i64 (Bc c s 0)/\H=H':=by
 refine ak h52 Ti rfl ?_;simp only[UK,sC,seval];have key:aq Tryz.prog aF 184 [.str s,RN c] H λv H'=>v=.int .i64 (Bc c s 0)/\H=H':=by
  refine ak h76 Pv rfl ?_;have e:mV .ibs [.str s,RN c]=some (.int .i64 (Bc c s 0)):=by have:mV .ibs [.str s,RN c]=some (.int .i64 (Bc c.toNat.toUInt8 s 0)):=rfl;rw[this];congr 3;exact UInt8.ofNat_toNat
  simp only[Rx,sC,seval,e];exact⟨by trivial,by trivial⟩
 refine key.mono ?_;rintro v _ ⟨rfl,rfl⟩;simp only[sC,seval];exact⟨by trivial,by trivial⟩
def pK:List Bs:=[[38,38],[124,124],[61,61],[33,61],[60,61],[62,61]]
def B4:Bs:=[60,62,43,45,42,47,33,40,41,123,125,44,59,61]
def fW(s:Bs):Bs:=match pK.find? (pre s)with
 |some t=>t
 |none=>match s with
  | []=>[]
  |c::_=>if c∈B4 then [c]else []
def IE(h29:aF.is 111=false)(h51:aF.is 154=false)(h75:aF.is 183=false)(h52:aF.is 155=false)(h76:aF.is 184=false){s:Bs}{i:Nat}(hi:i<s.length){H:aa} :
  aq Tryz.prog aF 111 [.str s,.int .i64 (i:Int)] H λv H'=>v=.str (fW (s.drop i))/\H=H':=by
 refine ak h29 TP rfl ?_;have e0:=Gr (s:=s) (l:=i) om;have b0:aJ [.str [],.str [],.str [],.str [],.str [],.str []] [(0,1,.str [38,38]),(1,1,.str [124,124]),(2,1,.str [61,61]),(3,1,.str [33,61]),(4,1,.str [60,61]),(5,1,.str [62,61])]=some (.agg (pK.map .str)):=rfl;obtain⟨c,hc⟩:=aZ (l:=s) (i:=i) hi;have hdr:=eF hc;simp only[Va,sC,seval,e0,b0];rw[hdr];generalize s.drop (i+1)=r at *;refine aM (λq (T:bZ) H'=>∃k:Nat,k<=6/\q=6-k/\T 5=.str (c::r)/\T 11=.agg (pK.map .str)/\T 12=.int .i64 (k:Int)/\(pK.take k).find? (pre (c::r))=none/\H=H') 6 ⟨0,Nat.zero_le _,rfl,by simp only[sC,seval],by simp only[sC,seval],by simp only[sC,seval];try rfl,rfl,rfl⟩ ?_;rintro q T _ ⟨k,hk,rfl,g5,g11,g12,hA,rfl⟩;by_cases hlt:k<6
 ·have hlt':(k:Int)<6:=om;obtain⟨t,ht⟩:=aZ (l:=pK) (i:=k) hlt;have ix:Dt 6 1 false (.agg (pK.map .str)) (.int .i64 (k:Int))=some (.str t):=by
   have hk6:k=0∨k=1∨k=2∨k=3∨k=4∨k=5:=om;rcases hk6 with rfl|rfl|rfl|rfl|rfl|rfl<;>(simp only[pK,XH,XI,sJ]at ht;subst ht;rfl)
  simp only[sC,seval,g5,g11,g12,hlt',ix];refine(Ky h51 h75 (c::r) t).mono ?_;rintro v _ ⟨rfl,rfl⟩;cases hp:pre (c::r) t with
  |true=>
   have hf:pK.find? (pre (c::r))=some t:=by
    have h1:(pK.take (k+1)).find? (pre (c::r))=some t:=by rw[List.take_add_one,ht,List.find?_append,hA];simp[hp]
    have h2:pK=pK.take (k+1)++pK.drop (k+1):=(List.take_append_drop _ _).symm;rw[h2,List.find?_append,h1];rfl
   simp only[sC,seval,g5,g11,g12];exact⟨by rw[fW,hf],by trivial⟩
  |false=>simp only[sC,seval,g5,g11,g12,dG k om];refine⟨_,om,k+1,om,rfl,by trivial,by trivial,rfl,?_,by trivial⟩;rw[List.take_add_one,ht,List.find?_append,hA];simp[hp]
 ·obtain rfl:k=6:=om;have hf:pK.find? (pre (c::r))=none:=hA;have i0:lU (.str (c::r)) (.int .i64 0)=some (RN c):=bA (s:=c::r) (i:=0) rfl .i64;have e1:eU (.str (c::r)) none (some (.int .i64 1))=some (.str [c]):=uw (s:=c::r) (h:=1) (by simp);simp only[sC,seval,g5,g11,g12,Int.cast_ofNat_Int,Int.lt_irrefl,i0];refine(Lv h52 h76 B4 c).mono ?_;rintro v _ ⟨rfl,rfl⟩;by_cases hm:c∈B4
  ·have h0:=(G0 c B4 0).2 hm;simp only[sC,seval,g5,g11,g12,h0,e1];exact⟨by rw[fW,hf];simp[hm],by trivial⟩
  ·have h0:¬0<=Bc c B4 0:=λh=>hm ((G0 c B4 0).1 h);simp only[sC,seval,g5,g11,g12,h0];exact⟨by rw[fW,hf];simp[hm],by trivial⟩
open Go.Abs Go.Abs.S
def BZ(h30:aF.is 112=false){s:Bs}{i:Nat}(hi:i<=s.length)(hs:s.length<=4611686018427387904){H:aa} :
  aq Tryz.prog aF 112 [.str s,.int .i64 (i:Int)] H λv H'=>v=.int .i64 (bI s i:Int)/\H=H':=by
 refine ak h30 TO rfl ?_;simp only[U9,sC,seval];refine aM (λq (T:bZ) H'=>∃j:Nat,j<=s.length/\q=s.length-j/\T 0=.str s/\T 1=.int .i64 (j:Int)/\bI s i=bI s j/\H=H') (s.length-i) ⟨i,hi,rfl,rfl,rfl,rfl,rfl⟩ ?_;rintro q T _ ⟨j,hj,rfl,g0,g1,hA,rfl⟩;by_cases hlt:j<s.length
 ·have hlt':(j:Int)<(s.length:Int):=om;obtain⟨c,hc⟩:=aZ hlt;by_cases h35:(c.toNat:Int)=35
  ·simp only[sC,seval,g0,g1,hlt',bA hc,h35];have hn:qu c=true:=by simp[qu];omega
   have hgt:j<bO qu s j:=by rw[gE hc hn];have:=fM qu s (j+1);omega
   have hle:=fL (p:=qu) hj;have hsk:=tO hc om;refine im (λ(T:bZ) H'=>T 0=.str s/\T 1=.int .i64 (bO qu s j:Int)/\H=H') (cU _ _) ?_ ?_
   ·refine aM (λq (T:bZ) H'=>∃m:Nat,m<=s.length/\q=s.length-m/\T 0=.str s/\T 1=.int .i64 (m:Int)/\bO qu s j=bO qu s m/\H=H') (s.length-j) ⟨j,hj,rfl,by simp only[sC,seval,g0],by simp only[sC,seval,g1],rfl,rfl⟩ ?_;clear g0 g1;rintro q T _ ⟨m,hm,rfl,g0,g1,hB,rfl⟩;by_cases hml:m<s.length
    ·have hml':(m:Int)<(s.length:Int):=om;obtain⟨d,hd⟩:=aZ hml;by_cases h10:(d.toNat:Int)=10
     ·have hnd:qu d=false:=by simp[qu];omega
      simp only[sC,seval,g0,g1,hml',bA hd,h10];exact⟨by trivial,by rw[hB,lZ hd hnd],by trivial⟩
     ·have hnd:qu d=true:=by simp[qu];omega
      simp only[sC,seval,g0,g1,hml',bA hd,h10,dG m om];exact⟨_,om,m+1,om,rfl,by trivial,rfl,by rw[hB,gE hd hnd],by trivial⟩
    ·have hml':¬(m:Int)<(s.length:Int):=om;simp only[sC,seval,g0,g1,hml'];exact⟨by trivial,by rw[hB,nw om],by trivial⟩
   clear g0 g1;rintro T _ ⟨g0,g1,rfl⟩;simp only[sC,seval,g0,g1];exact⟨_,om,bO qu s j,hle,rfl,by trivial,by trivial,by rw[hA,hsk],by trivial⟩
  ·have e:blk c=(((decide ((c.toNat:Int)=9)||decide ((c.toNat:Int)=10))||decide ((c.toNat:Int)=13))||decide ((c.toNat:Int)=32)):=by
    rw[Bool.eq_iff_iff];simp[blk];omega
   have fwd:blk c=true->bI s i=bI s (j+1):=λh=>by rw[hA,Ek hc h]
   have stp:blk c=false->bI s i=j:=λh=>by rw[hA,sF hc h om]
   rw[e]at fwd stp;by_cases h1:(c.toNat:Int)=9
   ·simp only[sC,seval,g0,g1,hlt',bA hc,h1,dG j om];exact⟨_,om,j+1,om,rfl,by trivial,rfl,fwd (by simp[h1]),by trivial⟩
   by_cases h2:(c.toNat:Int)=10
   ·simp only[sC,seval,g0,g1,hlt',bA hc,h1,h2,dG j om];exact⟨_,om,j+1,om,rfl,by trivial,rfl,fwd (by simp[h2]),by trivial⟩
   by_cases h3:(c.toNat:Int)=13
   ·simp only[sC,seval,g0,g1,hlt',bA hc,h1,h2,h3,dG j om];exact⟨_,om,j+1,om,rfl,by trivial,rfl,fwd (by simp[h3]),by trivial⟩
   by_cases h4:(c.toNat:Int)=32
   ·simp only[sC,seval,g0,g1,hlt',bA hc,h1,h2,h3,h4,dG j om];exact⟨_,om,j+1,om,rfl,by trivial,rfl,fwd (by simp[h4]),by trivial⟩
   simp only[sC,seval,g0,g1,hlt',bA hc,h35,h1,h2,h3,h4];exact⟨by rw[stp (by simp[h1,h2,h3,h4])],by trivial⟩
 ·have hlt':¬(j:Int)<(s.length:Int):=om;simp only[sC,seval,g0,g1,hlt'];exact⟨by rw[hA,BK om],by trivial⟩
def OE(h55:aF.is 160=false){n:Nat}{H:aa}{t:ae}{l:List Bs}(h:fo n H t (l.map .str))(hl:l.length<=4611686018427387904)(s:Bs) :
  aq Tryz.prog aF 160 [.str s,t] H λv H'=>v=.bool (decide (s∈l))/\H=H':=by
 refine ak h55 Tc rfl ?_;simp only[UG,sC,seval];refine aM (λq (T:bZ) H'=>∃i:Nat,i<=l.length/\q=l.length-i/\T 0=.str s/\T 1=t/\T 5=.int .i64 (i:Int)/\(¬s∈l.take i)/\H=H') l.length ⟨0,Nat.zero_le _,rfl,rfl,rfl,rfl,by simp,rfl⟩ ?_;rintro q T _ ⟨i,hi,rfl,g0,g1,g5,hA,rfl⟩;by_cases hlt:i<l.length
 ·have hlt':(i:Int)<(l.length:Int):=om;obtain⟨x,hx⟩:=aZ hlt;have e1:=h.idx .i64 (i:=i) (by simpa using hlt);have e2:=h.load (i:=i) (x:=.str x) (by simp[hx]);by_cases hxs:x=s
  ·subst hxs;simp only[sC,seval,g0,g1,g5,h.len,XM,hlt',e1,e2];exact⟨by rw[decide_eq_true (XG hx)],by trivial⟩
  ·simp only[sC,seval,g0,g1,g5,h.len,XM,hlt',e1,e2,hxs,dG i om];refine⟨_,om,i+1,om,rfl,by trivial,by trivial,rfl,?_,by trivial⟩;rw[List.take_add_one,hx];intro hm;rcases List.mem_append.1 hm with hm|hm
   ·exact hA hm
   ·simp at hm;exact hxs hm.symm
 ·obtain rfl:i=l.length:=om;rw[List.take_length]at hA;simp only[sC,seval,g0,g1,g5,h.len,XM,Int.lt_irrefl];exact⟨by rw[decide_eq_false hA],by trivial⟩
end Go.Proofs.Wo
