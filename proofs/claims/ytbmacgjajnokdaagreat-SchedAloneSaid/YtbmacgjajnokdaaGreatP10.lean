/- Part of a proof (USK U0 U1 U4 UC3 U2 U3 UX0 UF1 UF2 UF3 UF4 UF5 UF6 UF7 UC2 UF8 UF9 UFA); no condition. -/
import Derived.Test.YtbmacgjajnokdaaGreatProg
import Derived.KernelRfl
import Derived.Test.YtbmacgjajnokdaaGreatP5
import Derived.Test.YtbmacgjajnokdaaGreatP6
import Derived.Test.YtbmacgjajnokdaaGreatP9
set_option linter.unusedSimpArgs false
set_option linter.unusedVariables false
set_option linter.defProp false
set_option linter.unnecessarySimpa false
namespace Go.Proofs.Tc
open Go.Abs Go.Abs.S
def SlK(P:Nat→Prop)(H:AHeap)(m:Nat)(v:AVal)(k:Nat)(C:List AVal):Prop:=
 (isE v=true∧k=0∧C=[])∨∃a r,v=.slice (some a) k r∧P a.b∧rdCells H a (m*k)=some C
theorem SlK.mono{P Q:Nat→Prop}{H H':AHeap}{m k:Nat}{v:AVal}{C:List AVal}(h:SlK P H m v k C)(q:∀b,P b→Q b∧H'.get b=H.get b):SlK Q H' m v k C:=by
 rcases h with h | ⟨a,r,h1,h2,h3⟩
 ·exact .inl h
 ·exact .inr ⟨a,r,h1,(q _ h2).1,by rw[rd_congr (q _ h2).2]; exact h3⟩
theorem SlK.one{P:Nat→Prop}{H:AHeap}{m k:Nat}{v:AVal}{C:List AVal}(h:SlK P H m v k C):v.one=true:=by
 rcases h with⟨h,_⟩ | ⟨a,r,rfl,_⟩
 ·exact isE_one h
 ·rfl
theorem SlK.len{P:Nat→Prop}{H:AHeap}{m k:Nat}{v:AVal}{C:List AVal}(h:SlK P H m v k C):aLenK false v=some (.int .i64 (k:Int)):=by
 rcases h with⟨h,rfl,_⟩ | ⟨a,r,rfl,_⟩
 ·rcases isE_cases h with rfl | ⟨a,rfl⟩ <;> rfl
 ·rfl
theorem SlK.nil(P:Nat→Prop)(H:AHeap)(m:Nat):SlK P H m nilS 0 []:=.inl ⟨rfl,rfl,rfl⟩
def placeK(m:Nat)(v:AVal)(i:Nat):AVal:=match v with
 | .slice (some a) _ _=>.ptr (some ⟨a.b,a.lim,a.o+i*m⟩)
 | _=>undefA
theorem SlK.idx{P:Nat→Prop}{H:AHeap}{m k:Nat}{v:AVal}{C:List AVal}(h:SlK P H m v k C){i:Nat}(hi:i<k):aIdxA m v (.int .i64 (i:Int))=some (placeK m v i):=by
 rcases h with⟨_,rfl,_⟩ | ⟨a,r,rfl,_⟩
 ·omega
 ·show (bif Nat.blt i k then some (AVal.ptr (some ⟨a.b,a.lim,a.o+i*m⟩)) else none)=_
  rw[show Nat.blt i k=true by simpa[Nat.blt_eq] using hi]; rfl
theorem rd_part{H:AHeap}{a:Ad}{n i j:Nat}{C:List AVal}(h:rdCells H a n=some C)(hij:i+j≤n):rdCells H ⟨a.b,a.lim,a.o+i⟩ j=some ((C.drop i).take j):=by
 obtain⟨l,low,ro,mk,h1,h2,h3,h4,rfl⟩:=rd_spec h
 unfold rdCells
 simp only[h1,Nat.ble_eq_true_of_le h2,Nat.ble_eq_true_of_le h3,Nat.ble_eq_true_of_le (show a.o+i+j≤a.lim by omega),Bool.and_self,cond_true]
 rw[List.drop_take,List.take_take,Nat.min_eq_left om,List.drop_drop]
theorem SlK.load{P:Nat→Prop}{H:AHeap}{m k:Nat}{v:AVal}{C:List AVal}(h:SlK P H m v k C){i:Nat}(hi:i<k):oLoad true m H (placeK m v i)=some (.agg ((C.drop (i*m)).take m)):=by
 rcases h with⟨_,rfl,_⟩ | ⟨a,r,rfl,_,h3⟩
 ·omega
 ·have hm:i*m+m≤m*k:=by
   have:(i+1)*m≤k*m:=Nat.mul_le_mul_right m hi
   rw[Nat.mul_comm m k]; rw[Nat.add_mul,Nat.one_mul]at this; exact this
  simp only[oLoad,placeK,rd_part h3 hm,cond_true]
theorem SlK.aeq{P:Nat→Prop}{H:AHeap}{m k:Nat}{v:AVal}{C:List AVal}(h:SlK P H m v k C):aeq v v=true:=by
 rcases h with⟨h,_⟩ | ⟨a,r,rfl,_⟩
 ·rcases isE_cases h with rfl | ⟨a,rfl⟩
  ·exact aeq_nilS
  ·simp[Go.Abs.aeq]
 ·cases r <;> simp[Go.Abs.aeq]
theorem flat_at{α:Type}{f:α→List AVal}{m:Nat}(hf:∀x,(f x).length=m):∀{l:List α} {i:Nat} {x:α},l[i]?=some x→((l.flatMap f).drop (i*m)).take m=f x
 | [],i,x,h=>by simp at h
 | y::l,0,x,h=>by
  simp only[List.getElem?_cons_zero,sJ]at h
  subst h
  rw[Nat.zero_mul,List.drop_zero,List.flatMap_cons,List.take_append_of_le_length (by rw[hf]; exact Nat.le_refl _),List.take_of_length_le (by rw[hf]; exact Nat.le_refl _)]
 | y::l,i+1,x,h=>by
  simp only[List.getElem?_cons_succ]at h
  rw[List.flatMap_cons,show (i+1)*m=(f y).length+i*m by rw[hf,Nat.succ_mul,Nat.add_comm],← List.drop_drop,List.drop_left]
  exact flat_at hf h
theorem SlK.loadE{α:Type}{f:α→List AVal}{P:Nat→Prop}{H:AHeap}{m:Nat}{v:AVal}{l:List α}(h:SlK P H m v l.length (l.flatMap f))(hf:∀x,(f x).length=m){i:Nat}{x:α}(hi:l[i]?=some x):oLoad true m H (placeK m v i)=some (.agg (f x)):=by
 rw[h.load (List.getElem?_eq_some_iff.1 hi).1,flat_at hf hi]
theorem all_take{α:Type}{p:α→Bool}{l:List α}{i:Nat}{x:α}(hi:l[i]?=some x)(h:(l.take i).all p=true):(l.take (i+1)).all p=p x:=by
 rw[List.take_add_one,hi,List.all_append,h]; simp
theorem drop_cons{α:Type}{l:List α}{i:Nat}{x:α}(h:l[i]?=some x):l.drop i=x::l.drop (i+1):=by
 obtain⟨hl,he⟩:=List.getElem?_eq_some_iff.1 h
 rw[List.drop_eq_getElem_cons hl,he]
theorem all_no{α:Type}{p:α→Bool}{l:List α}{i:Nat}{x:α}(hi:l[i]?=some x)(h:p x=false):l.all p=false:=by
 have:=List.take_append_drop i l
 rw[← this,List.all_append,drop_cons hi,List.all_cons,h,Bool.false_and,Bool.and_false]
open Go.Abs Go.Abs.S
def J64(z:Int):Prop:=-9223372036854775808≤z∧z≤9223372036854775807
def fOf(n:Int):Int:=if 2147483647<n then 9223372036854775807 else if n < -2147483648 then -9223372036854775808 else n*4294967296
def fFloor(x:Int):Int:=x / 4294967296
def fAdd(a b:Int):Int:=if 0<b∧9223372036854775807-b<a then 9223372036854775807 else if b<0∧a < -9223372036854775808-b then -9223372036854775808 else a+b
def fSub(a b:Int):Int:=if b<0∧9223372036854775807+b<a then 9223372036854775807 else if 0<b∧a < -9223372036854775808+b then -9223372036854775808 else a-b
def fNeg(a:Int):Int:=if a=-9223372036854775808 then 9223372036854775807 else -a
def told(same:Bool)(hi lo:Nat)(rest:Bool):Int:=
 if same then (if hi≠0∨9223372036854775807<lo then 9223372036854775807 else (lo:Int))
 else if hi≠0∨9223372036854775807<lo then -9223372036854775808 else if rest then -(lo:Int)-1 else -(lo:Int)
def sames(a b:Int):Bool:=decide (a<0)==decide (b<0)
def fMul(a b:Int):Int:=told (sames a b) (a.natAbs*b.natAbs / 18446744073709551616 / 4294967296) (a.natAbs*b.natAbs / 4294967296 % 18446744073709551616) (decide (a.natAbs*b.natAbs % 4294967296≠0))
def corr(q r un yn1 yn0:Nat):Nat:=
 if 4294967296≤q∨4294967296*r+un<q*yn0 then
  if 4294967296≤r+yn1 then q-1
  else if 4294967296≤q-1∨4294967296*(r+yn1)+un<(q-1)*yn0 then q-2 else q-1
 else q
def W(x:Nat):Nat:=x % 18446744073709551616
def Wsub(x y:Nat):Nat:=(x+18446744073709551616-y) % 18446744073709551616
def shOf(y:Nat):Nat:=63-Nat.log2 y
def d64(hi lo y:Nat):Nat×Nat:=
 if hi=0 then (lo / y,lo % y) else
 let s:=shOf y
 let y1:=y*2 ^ s
 let yn1:=y1 / 4294967296
 let yn0:=y1 % 4294967296
 let un32:=hi*2 ^ s+lo / 2 ^ (64-s)
 let un10:=lo*2 ^ s % 18446744073709551616
 let un1:=un10 / 4294967296
 let un0:=un10 % 4294967296
 let q1:=corr (un32 / yn1) (un32 % yn1) un1 yn1 yn0
 let un21:=Wsub (W (W (un32*4294967296)+un1)) (W (q1*y1))
 let q0:=corr (un21 / yn1) (un21 % yn1) un0 yn1 yn0
 (W (W (q1*4294967296)+q0),Wsub (W (W (un21*4294967296)+un0)) (W (q0*y1)) / 2 ^ s)
def fDiv(a b:Int):Int:=if b=0 then (if 0<a then 9223372036854775807 else if a<0 then -9223372036854775808 else 0) else
 let d:=d64 (a.natAbs / 4294967296 % b.natAbs) (a.natAbs*4294967296 % 18446744073709551616) b.natAbs
 told (sames a b) (a.natAbs / 4294967296 / b.natAbs) d.1 (decide (d.2≠0))
def sqGo(n:Nat):Nat→Nat→Nat
 | 0,r=>r
 | k+1,r=>sqGo n k (if (r+2 ^ k)*(r+2 ^ k)≤n then r+2 ^ k else r)
def fSqrt(a:Int):Int:=if a<1 then 0 else (sqGo (a.toNat*4294967296) 48 0:Nat)
structure V where
 x:Int
 y:Int
 z:Int
deriving DecidableEq
def V.cells(v:V):List AVal:=[.int .i64 v.x,.int .i64 v.y,.int .i64 v.z]
def V.j(v:V):Prop:=J64 v.x∧J64 v.y∧J64 v.z
def V0:V:=⟨0,0,0⟩
def vmap(f:Int→Int→Int)(a b:V):V:=⟨f a.x b.x,f a.y b.y,f a.z b.z⟩
def vAdd:=vmap fAdd
def vSub:=vmap fSub
def vMul:=vmap fMul
def vNeg(a:V):V:=⟨fNeg a.x,fNeg a.y,fNeg a.z⟩
def vScale(a:V)(s:Int):V:=⟨fMul a.x s,fMul a.y s,fMul a.z s⟩
def vOver(a:V)(s:Int):V:=⟨fDiv a.x s,fDiv a.y s,fDiv a.z s⟩
def vDot(a b:V):Int:=fAdd (fAdd (fMul a.x b.x) (fMul a.y b.y)) (fMul a.z b.z)
def vCross(a b:V):V:=⟨fSub (fMul a.y b.z) (fMul a.z b.y),fSub (fMul a.z b.x) (fMul a.x b.z),fSub (fMul a.x b.y) (fMul a.y b.x)⟩
def vLen(a:V):Int:=fSqrt (vDot a a)
def vUnit(a:V):V:=if vLen a=0 then V0 else vOver a (vLen a)
theorem fOf_j (n : Int) : J64 (fOf n) := by unfold fOf J64; split; · omega
                                            split <;> omega
theorem fAdd_j{a b:Int}(ha:J64 a)(hb:J64 b):J64 (fAdd a b):=by
 unfold fAdd; unfold J64 at *; split; · omega
 split <;> omega
theorem fSub_j{a b:Int}(ha:J64 a)(hb:J64 b):J64 (fSub a b):=by
 unfold fSub; unfold J64 at *; split; · omega
 split <;> omega
theorem told_j(s:Bool)(hi lo:Nat)(r:Bool):J64 (told s hi lo r):=by
 unfold told J64
 repeat' split
 all_goals omega
theorem fMul_j(a b:Int):J64 (fMul a b):=told_j ..
theorem fDiv_j(a b:Int):J64 (fDiv a b):=by
 unfold fDiv
 split
 ·unfold J64; split; · omega
  split <;> omega
 ·exact told_j ..
theorem sqGo_le(n:Nat):∀(k r:Nat),sqGo n k r<r+2 ^ k
 | 0,r=>by simp[sqGo]
 | k+1,r=>by
  rw[sqGo]
  have:2 ^ (k+1)=2 ^ k+2 ^ k:=by rw[Nat.pow_succ]; omega
  have hp:0<2 ^ k:=Nat.pow_pos dD
  by_cases hc:(r+2 ^ k)*(r+2 ^ k)≤n
  ·rw[if_pos hc]; have:=sqGo_le n k (r+2 ^ k); omega
  ·rw[if_neg hc]; have:=sqGo_le n k r; omega
theorem fSqrt_j(a:Int):J64 (fSqrt a)∧0≤fSqrt a:=by
 unfold fSqrt J64
 split
 ·omega
 ·have:=sqGo_le (a.toNat*4294967296) 48 0
  omega
theorem V0_j:V0.j:=⟨⟨by decide,by decide⟩,⟨by decide,by decide⟩,by decide,by decide⟩
theorem vAdd_j{a b:V}(ha:a.j)(hb:b.j):(vAdd a b).j:=⟨fAdd_j ha.1 hb.1,fAdd_j ha.2.1 hb.2.1,fAdd_j ha.2.2 hb.2.2⟩
theorem vSub_j{a b:V}(ha:a.j)(hb:b.j):(vSub a b).j:=⟨fSub_j ha.1 hb.1,fSub_j ha.2.1 hb.2.1,fSub_j ha.2.2 hb.2.2⟩
theorem vMul_j(a b:V):(vMul a b).j:=⟨fMul_j ..,fMul_j ..,fMul_j ..⟩
theorem vScale_j(a:V)(s:Int):(vScale a s).j:=⟨fMul_j ..,fMul_j ..,fMul_j ..⟩
theorem vOver_j(a:V)(s:Int):(vOver a s).j:=⟨fDiv_j ..,fDiv_j ..,fDiv_j ..⟩
theorem vDot_j(a b:V):J64 (vDot a b):=fAdd_j (fAdd_j (fMul_j ..) (fMul_j ..)) (fMul_j ..)
theorem vCross_j(a b:V):(vCross a b).j:=⟨fSub_j (fMul_j ..) (fMul_j ..),fSub_j (fMul_j ..) (fMul_j ..),fSub_j (fMul_j ..) (fMul_j ..)⟩
theorem vUnit_j(a:V):(vUnit a).j:=by
 unfold vUnit; split
 ·exact V0_j
 ·exact vOver_j ..
open Go.Abs Go.Abs.S
structure Ray where
 o:V
 d:V
deriving DecidableEq
def Ray.cells(r:Ray):List AVal:=r.o.cells++r.d.cells
structure Hit where
 t:Int
 i:Int
 u:Int
 v:Int
deriving DecidableEq
def Hit.cells(h:Hit):List AVal:=[.int .i64 h.t,.int .i64 h.i,.int .i64 h.u,.int .i64 h.v]
def noHit:Hit:=⟨0,-1,0,0⟩
structure Bll where
 c:V
 r:Int
deriving DecidableEq
structure Bx where
 lo:V
 hi:V
deriving DecidableEq
structure Tri where
 a:Int
 b:Int
 c:Int
deriving DecidableEq
structure Msh where
 pts:List V
 tris:List Tri
 balls:List Bll
def farV(v:V):Prop:=(-4503599627370496≤v.x∧v.x≤4503599627370496)∧(-4503599627370496≤v.y∧v.y≤4503599627370496)∧(-4503599627370496≤v.z∧v.z≤4503599627370496)
instance (v:V):Decidable (farV v):=inferInstanceAs (Decidable (_∧_∧_))
def hasT(n:Nat)(t:Tri):Prop:=(0≤t.a∧t.a<n)∧(0≤t.b∧t.b<n)∧(0≤t.c∧t.c<n)
instance (n:Nat) (t:Tri):Decidable (hasT n t):=inferInstanceAs (Decidable (_∧_∧_))
def ballOk(b:Bll):Prop:=farV b.c∧1≤b.r∧b.r≤4503599627370496
instance (b:Bll):Decidable (ballOk b):=inferInstanceAs (Decidable (_∧_∧_))
def clampI(x:Int):Int:=min (max x 0) 4294967296
def vClamp(v:V):V:=⟨clampI v.x,clampI v.y,clampI v.z⟩
def byteI(x:Int):Int:=fFloor (fAdd (fMul (clampI x) (fOf 255)) 2147483648)
def pixelF(sum:V)(samples:Int):Int×Int×Int:=
 let m:=vOver sum (fOf (max samples 1))
 (byteI m.x % 256,byteI m.y % 256,byteI m.z % 256)
structure Cam where
 w:Int
 h:Int
 eye:V
 at_:V
 up:V
 wide:Int
def cameraF(s:Cam)(x y dx dy:Int):Ray:=
 let w:=fOf (max s.w 1)
 let h:=fOf (max s.h 1)
 let f:=vUnit (vSub s.at_ s.eye)
 let r:=vUnit (vCross f s.up)
 let u:=vCross r f
 let a:=fDiv (fAdd (fOf x) dx) w
 let b:=fDiv (fAdd (fOf y) dy) h
 let px:=fMul (fSub (fAdd a a) 4294967296) s.wide
 let high:=fDiv (fMul s.wide h) w
 let py:=fMul (fSub 4294967296 (fAdd b b)) high
 ⟨s.eye,vUnit (vAdd f (vAdd (vScale r px) (vScale u py)))⟩
def mixN(x:Nat):Nat:=
 let x:=(x ^^^ x / 2 ^ 30)*13787848793156543929 % 18446744073709551616
 let x:=(x ^^^ x / 2 ^ 27)*10723151780598845931 % 18446744073709551616
 x ^^^ x / 2 ^ 31
def u64(n:Int):Nat:=(n % 18446744073709551616).toNat
def mixedN(seed:Nat)(l:List Int):Nat:=l.foldl (fun x n=>mixN ((x+u64 n+11400714819323198485) % 18446744073709551616)) (mixN ((seed+11400714819323198485) % 18446744073709551616))
def drawF(seed:Nat)(pixel sample dim:Int):Int:=(mixedN seed [pixel,sample,dim] / 4294967296:Nat)
structure Nod where
 box:Bx
 from_:Nat
 to_:Nat
 first:Int
 second:Int
structure Tre where
 msh:Msh
 nods:List Nod
 order:List Nat
open Go.Abs Go.Abs.S
abbrev Bs:=List UInt8
structure Mt where
 k:Nat
 c:V
 sh:Bs
 tx:Bs
structure Rd where
 c:V
 r:Int
 m:Int
structure Us where
 n:Bs
 p:V
 m:Int
structure Sc where
 w:Int
 h:Int
 sm:Int
 bo:Int
 seed:Nat
 eye:V
 at_:V
 up:V
 wide:Int
 sky:V
 ms:List Mt
 bs:List Rd
 us:List Us
def inI(n lo hi:Int):Bool:=decide (lo≤n)&&decide (n≤hi)
def inV(v:V)(lo hi:Int):Bool:=inI v.x lo hi&&(inI v.y lo hi&&inI v.z lo hi)
def farB(v:V):Bool:=inV v (-42949672960000) 42949672960000
def nameC(b:UInt8):Bool:=((decide (97≤b.toNat)&&decide (b.toNat≤122))||(decide (65≤b.toNat)&&decide (b.toNat≤90)))||((decide (48≤b.toNat)&&decide (b.toNat≤57))||(decide (b.toNat=95)||(decide (b.toNat=45)||decide (b.toNat=46))))
def nameB(s:Bs):Bool:=decide (1≤s.length)&&(decide (s.length≤40)&&s.all nameC)
def noV(v:V):Bool:=decide (v.x=0)&&(decide (v.y=0)&&decide (v.z=0))
def matB(m:Mt):Bool:=
 if m.k=1∨m.k=2 then decide (m.sh=[])&&(decide (m.tx=[])&&inV m.c 0 4294967296)
 else if m.k=3 then decide (m.sh=[])&&(decide (m.tx=[])&&inV m.c 0 274877906944)
 else if m.k=4 then noV m.c&&(nameB m.sh&&(decide (m.tx=[])||nameB m.tx))
 else false
def rndB(b:Rd):Bool:=farB b.c&&(decide (0<b.r)&&decide (b.r≤42949672960000))
def useB(u:Us):Bool:=nameB u.n&&farB u.p
def hasB(n:Nat)(m:Int):Bool:=decide (0≤m)&&decide (m<n)
def allM(s:Sc):Bool:=s.bs.all (fun b=>hasB s.ms.length b.m)&&s.us.all (fun u=>hasB s.ms.length u.m)
def wideB(n:Int):Bool:=decide (0<n)&&decide (n≤429496729600)
def headB(s:Sc):Bool:=inI s.w 1 1024&&(inI s.h 1 1024&&(inI s.sm 1 64&&(inI s.bo 0 8&&(farB s.eye&&(farB s.at_&&(farB s.up&&(wideB s.wide&&(inV s.sky 0 274877906944&&(decide (s.ms.length≤64)&&(decide (s.bs.length≤256)&&decide (s.us.length≤16)))))))))))
def checkB(s:Sc):Bool:=headB s&&(s.ms.all matB&&(s.bs.all rndB&&(s.us.all useB&&allM s)))
def scL(s:Sc)(vm vb vu:AVal):List AVal:=[.int .i64 s.w,.int .i64 s.h,.int .i64 s.sm,.int .i64 s.bo,.int .u64 (s.seed:Int),.int .i64 s.eye.x,.int .i64 s.eye.y,.int .i64 s.eye.z,.int .i64 s.at_.x,.int .i64 s.at_.y,.int .i64 s.at_.z,.int .i64 s.up.x,.int .i64 s.up.y,.int .i64 s.up.z,.int .i64 s.wide,.int .i64 s.sky.x,.int .i64 s.sky.y,.int .i64 s.sky.z,vm,vb,vu]
def Sc.cam(s:Sc):Cam:=⟨s.w,s.h,s.eye,s.at_,s.up,s.wide⟩
def mtL(m:Mt):List AVal:=[.int .u8 (m.k:Int),.int .i64 m.c.x,.int .i64 m.c.y,.int .i64 m.c.z,.str m.sh,.str m.tx]
def rdL(b:Rd):List AVal:=[.int .i64 b.c.x,.int .i64 b.c.y,.int .i64 b.c.z,.int .i64 b.r,.int .i64 b.m]
def usL(u:Us):List AVal:=[.str u.n,.int .i64 u.p.x,.int .i64 u.p.y,.int .i64 u.p.z,.int .i64 u.m]
open Go.Abs Go.Abs.S
noncomputable section
def c83:AFn:=⟨126,zq [zo 1 (.box (.t 0)),zo 2 (.mv (zi 0))] (zq [zo 3 (.mv (.f 131))] (zq [zm 11 3,zf 12 0 1,zl 13 12,zo 14 (.callv (.t 11) [.t 13,zi 1,zi 1024]),zm 15 14,zg 16 (.mv (.t 3)) 15 true,zg 17 (.fieldA 1 (.t 1)) 15 true,zg 18 (.load false 1 (.t 17)) 15 true,zg 19 (.callv (.t 16) [.t 18,zi 1,zi 1024]) 15 true,zo 20 (.pick (.t 15) (.t 19) (.c (.bool false))),zm 21 20,zg 22 (.mv (.t 3)) 21 true,zg 23 (.fieldA 2 (.t 1)) 21 true,zg 24 (.load false 1 (.t 23)) 21 true,zg 25 (.callv (.t 22) [.t 24,zi 1,zi 64]) 21 true,zo 26 (.pick (.t 21) (.t 25) (.c (.bool false))),zm 27 26,zg 28 (.mv (.t 3)) 27 true,zg 29 (.fieldA 3 (.t 1)) 27 true,zg 30 (.load false 1 (.t 29)) 27 true,zg 31 (.callv (.t 28) [.t 30,zi 0,zi 8]) 27 true,zo 32 (.pick (.t 27) (.t 31) (.c (.bool false))),zm 33 32,zg 34 (.fieldA 5 (.t 1)) 33 true,zg 35 (.load true 3 (.t 34)) 33 true,zg 36 (.call 132 [.t 35]) 33 true,zo 37 (.pick (.t 33) (.t 36) (.c (.bool false))),zm 38 37,zg 39 (.fieldA 8 (.t 1)) 38 true,zg 40 (.load true 3 (.t 39)) 38 true,zg 41 (.call 132 [.t 40]) 38 true,zo 42 (.pick (.t 38) (.t 41) (.c (.bool false))),zm 43 42,zg 44 (.fieldA 11 (.t 1)) 43 true,zg 45 (.load true 3 (.t 44)) 43 true,zg 46 (.call 132 [.t 45]) 43 true,zo 47 (.pick (.t 43) (.t 46) (.c (.bool false))),zm 48 47,zg 49 (.fieldA 14 (.t 1)) 48 true,zg 50 (.load false 1 (.t 49)) 48 true,zg 51 (.bin .lss (zi 0) (.t 50)) 48 true,zo 52 (.pick (.t 48) (.t 51) (.c (.bool false))),zm 53 52,zg 54 (.fieldA 14 (.t 1)) 53 true,zg 55 (.load false 1 (.t 54)) 53 true,zg 56 (.bin .leq (.t 55) (zi 429496729600)) 53 true,zo 57 (.pick (.t 53) (.t 56) (.c (.bool false))),zm 58 57,zg 59 (.fieldA 15 (.t 1)) 58 true,zg 60 (.load true 3 (.t 59)) 58 true,zg 61 (.call 133 [.t 60,zi 0,zi 274877906944]) 58 true,zo 62 (.pick (.t 58) (.t 61) (.c (.bool false))),zm 63 62,zg 64 (.fieldA 18 (.t 1)) 63 true,zg 65 (.load false 1 (.t 64)) 63 true,zg 66 (.len false (.t 65)) 63 true,zg 67 (.bin .leq (.t 66) (zi 64)) 63 true,zo 68 (.pick (.t 63) (.t 67) (.c (.bool false))),zm 69 68,zg 70 (.fieldA 19 (.t 1)) 69 true,zg 71 (.load false 1 (.t 70)) 69 true,zg 72 (.len false (.t 71)) 69 true,zg 73 (.bin .leq (.t 72) (zi 256)) 69 true,zo 74 (.pick (.t 69) (.t 73) (.c (.bool false))),zm 75 74,zg 76 (.fieldA 20 (.t 1)) 75 true,zg 77 (.load false 1 (.t 76)) 75 true,zg 78 (.len false (.t 77)) 75 true,zg 79 (.bin .leq (.t 78) (zi 16)) 75 true,zo 80 (.pick (.t 75) (.t 79) (.c (.bool false))),zm 4 80] (zr [zm 81 4,zo 82 (.un .not (.t 81))] 82 (zq [zo 2 (.mv (zi 130))] .ret) .skip (.seq (zq [zf 83 18 1,zl 84 83,zh 85 84,zo 86 (.mv (zi 0))] (.block 0 (.loop (zq [zb 87 .lss 86 85] (.seq (.cond (.t 87) .skip (.exit 0)) (.seq (.block 1 (zq [zo 88 (.idxA 6 (.t 84) (.t 86)),zt 89 6 88,zo 6 (.new [zU 0,zI 0,zI 0,zI 0,.str [],.str []]),zp (.store 6 (.t 6) (.t 89))] (zq [zt 90 6 6,zx 91 134 [.t 90],zo 92 (.un .not (.t 91))] (.cond (.t 92) (zq [zo 2 (.mv (zi 130))] .ret) .skip)))) (.reg [zk 93 .add 86 1,zm 86 93]))))))) (.seq (zq [zf 94 19 1,zl 95 94,zh 96 95,zo 97 (.mv (zi 0))] (.block 2 (.loop (zq [zb 98 .lss 97 96] (.seq (.cond (.t 98) .skip (.exit 2)) (.seq (.block 3 (zq [zo 99 (.idxA 5 (.t 95) (.t 97)),zt 100 5 99,zo 8 (.new [zI 0,zI 0,zI 0,zI 0,zI 0]),zp (.store 5 (.t 8) (.t 100))] (zq [zt 101 5 8,zx 102 135 [.t 101],zo 103 (.un .not (.t 102))] (.cond (.t 103) (zq [zo 2 (.mv (zi 130))] .ret) .skip)))) (.reg [zk 104 .add 97 1,zm 97 104]))))))) (.seq (zq [zf 105 20 1,zl 106 105,zh 107 106,zo 108 (.mv (zi 0))] (.block 4 (.loop (zq [zb 109 .lss 108 107] (.seq (.cond (.t 109) .skip (.exit 4)) (.seq (.block 5 (zq [zo 110 (.idxA 5 (.t 106) (.t 108)),zt 111 5 110,zo 10 (.new [.str [],zI 0,zI 0,zI 0,zI 0]),zp (.store 5 (.t 10) (.t 111))] (zq [zf 112 0 10,zl 113 112,zx 114 136 [.t 113],zo 115 (.un .not (.t 114)),zm 116 115,zg 117 (.fieldA 1 (.t 10)) 116 false,zg 118 (.load true 3 (.t 117)) 116 false,zg 119 (.call 132 [.t 118]) 116 false,zg 120 (.un .not (.t 119)) 116 false,zo 121 (.pick (.t 116) (.c (.bool true)) (.t 120))] (.cond (.t 121) (zq [zo 2 (.mv (zi 130))] .ret) .skip)))) (.reg [zk 122 .add 108 1,zm 108 122]))))))) (zr [zt 123 21 1,zx 124 137 [.t 123],zo 125 (.un .not (.t 124))] 125 (zq [zo 2 (.mv (zi 130))] .ret) .skip (zq [zo 2 (.mv (zi 0))] .ret)))))))),[.t 2]⟩
theorem za83:cN Tryz.prog 83=some c83:=by kernel_rfl
def c131:AFn:=⟨15,zq [zo 6 (.mv (.c (.bool false)))] (zq [zm 7 1,zm 8 0,zb 9 .leq 7 8,zm 10 9,zg 11 (.mv (.t 0)) 10 true,zg 12 (.mv (.t 2)) 10 true,zg 13 (.bin .leq (.t 11) (.t 12)) 10 true,zo 14 (.pick (.t 10) (.t 13) (.c (.bool false))),zm 6 14] .ret),[.t 6]⟩
theorem za131:cN Tryz.prog 131=some c131:=by kernel_rfl
def c132:AFn:=⟨5,zq [zo 1 (.box (.t 0)),zo 2 (.mv (.c (.bool false)))] (zq [zt 3 3 1,zx 4 133 [.t 3,.c (.int .i64 (.negSucc 42949672959999)),zi 42949672960000],zm 2 4] .ret),[.t 2]⟩
theorem za132:cN Tryz.prog 132=some c132:=by kernel_rfl
def c133:AFn:=⟨25,zq [zo 3 (.box (.t 0)),zo 4 (.box (.t 1)),zo 5 (.box (.t 2)),zo 6 (.mv (.c (.bool false)))] (zq [zo 8 (.mkFunc (.func 206) [] [.t 4,.t 5]),zm 7 8] (zq [zm 9 7,zf 10 0 3,zl 11 10,zo 12 (.callv (.t 9) [.t 11]),zm 13 12,zg 14 (.mv (.t 7)) 13 true,zg 15 (.fieldA 1 (.t 3)) 13 true,zg 16 (.load false 1 (.t 15)) 13 true,zg 17 (.callv (.t 14) [.t 16]) 13 true,zo 18 (.pick (.t 13) (.t 17) (.c (.bool false))),zm 19 18,zg 20 (.mv (.t 7)) 19 true,zg 21 (.fieldA 2 (.t 3)) 19 true,zg 22 (.load false 1 (.t 21)) 19 true,zg 23 (.callv (.t 20) [.t 22]) 19 true,zo 24 (.pick (.t 19) (.t 23) (.c (.bool false))),zm 6 24] .ret)),[.t 6]⟩
theorem za133:cN Tryz.prog 133=some c133:=by kernel_rfl
def c206:AFn:=⟨13,zq [zo 4 (.mv (.c (.bool false)))] (zq [zl 5 1,zm 6 0,zb 7 .leq 5 6,zm 8 7,zg 9 (.mv (.t 0)) 8 true,zg 10 (.load false 1 (.t 2)) 8 true,zg 11 (.bin .leq (.t 9) (.t 10)) 8 true,zo 12 (.pick (.t 8) (.t 11) (.c (.bool false))),zm 4 12] .ret),[.t 4]⟩
theorem za206:cN Tryz.prog 206=some c206:=by kernel_rfl
def c134:AFn:=⟨57,zq [zo 1 (.box (.t 0)),zo 2 (.mv (.c (.bool false)))] (.seq (zq [zf 3 0 1,zl 4 3] (.block 0 (zr [zo 6 (.bin .eql (.t 4) (zu 1)),zm 5 6] 5 .skip (.reg [zo 7 (.bin .eql (.t 4) (zu 2)),zm 5 7]) (.cond (.t 5) (zq [zf 8 4 1,zl 9 8,zo 10 (.bin .eql (.t 9) (.c (.str []))),zm 11 10,zg 12 (.fieldA 5 (.t 1)) 11 true,zg 13 (.load false 1 (.t 12)) 11 true,zg 14 (.bin .eql (.t 13) (.c (.str []))) 11 true,zo 15 (.pick (.t 11) (.t 14) (.c (.bool false))),zm 16 15,zg 17 (.fieldA 1 (.t 1)) 16 true,zg 18 (.load true 3 (.t 17)) 16 true,zg 19 (.call 133 [.t 18,zi 0,zi 4294967296]) 16 true,zo 20 (.pick (.t 16) (.t 19) (.c (.bool false))),zm 2 20] .ret) (zq [zo 22 (.bin .eql (.t 4) (zu 3)),zm 21 22] (.cond (.t 21) (zq [zf 23 4 1,zl 24 23,zo 25 (.bin .eql (.t 24) (.c (.str []))),zm 26 25,zg 27 (.fieldA 5 (.t 1)) 26 true,zg 28 (.load false 1 (.t 27)) 26 true,zg 29 (.bin .eql (.t 28) (.c (.str []))) 26 true,zo 30 (.pick (.t 26) (.t 29) (.c (.bool false))),zm 31 30,zg 32 (.fieldA 1 (.t 1)) 31 true,zg 33 (.load true 3 (.t 32)) 31 true,zg 34 (.call 133 [.t 33,zi 0,zi 274877906944]) 31 true,zo 35 (.pick (.t 31) (.t 34) (.c (.bool false))),zm 2 35] .ret) (zq [zo 37 (.bin .eql (.t 4) (zu 4)),zm 36 37] (.cond (.t 36) (zq [zf 38 1 1,zt 39 3 38,zo 40 (.build [zI 0,zI 0,zI 0] []),zo 41 (.pf (.eqS false [(0,.int),(1,.int),(2,.int)]) [.t 39,.t 40]),zm 42 41,zg 43 (.fieldA 4 (.t 1)) 42 true,zg 44 (.load false 1 (.t 43)) 42 true,zg 45 (.call 136 [.t 44]) 42 true,zo 46 (.pick (.t 42) (.t 45) (.c (.bool false))),zm 47 46,zg 48 (.fieldA 5 (.t 1)) 47 true,zg 49 (.load false 1 (.t 48)) 47 true,zg 50 (.bin .eql (.t 49) (.c (.str []))) 47 true,zg 51 (.mv (.t 50)) 47 true,zg 52 (.fieldA 5 (.t 1)) 51 false,zg 53 (.load false 1 (.t 52)) 51 false,zg 54 (.call 136 [.t 53]) 51 false,zg 55 (.pick (.t 51) (.c (.bool true)) (.t 54)) 47 true,zo 56 (.pick (.t 47) (.t 55) (.c (.bool false))),zm 2 56] .ret) .skip)))))))) (zq [zo 2 (.mv (.c (.bool false)))] .ret)),[.t 2]⟩
theorem za134:cN Tryz.prog 134=some c134:=by kernel_rfl
def c136:AFn:=⟨59,zq [zo 2 (.mv (.c (.bool false)))] (zr [zm 6 0,zo 7 (.len true (.t 6)),zk 8 .lss 7 1,zm 9 8,zg 10 (.mv (.t 0)) 9 false,zg 11 (.len true (.t 10)) 9 false,zg 12 (.bin .gtr (.t 11) (zi 40)) 9 false,zo 13 (.pick (.t 9) (.c (.bool true)) (.t 12))] 13 (zq [zo 2 (.mv (.c (.bool false)))] .ret) .skip (.seq (zq [zm 14 0,zo 15 (.len true (.t 14)),zo 16 (.mv (zi 0))] (.block 0 (.loop (zq [zb 17 .lss 16 15] (.seq (.cond (.t 17) .skip (.exit 0)) (.seq (.block 1 (zq [zm 18 16,zm 3 18] (zq [zm 19 0,zm 20 3,zo 21 (.idxS (.t 19) (.t 20)),zm 4 21] (zq [zm 22 4,zo 23 (.bin .leq (zu 97) (.t 22)),zm 24 23,zg 25 (.mv (.t 4)) 24 true,zg 26 (.bin .leq (.t 25) (zu 122)) 24 true,zo 27 (.pick (.t 24) (.t 26) (.c (.bool false))),zm 28 27,zg 29 (.mv (.t 4)) 28 false,zg 30 (.bin .leq (zu 65) (.t 29)) 28 false,zg 31 (.mv (.t 30)) 28 false,zg 32 (.mv (.t 4)) 31 true,zg 33 (.bin .leq (.t 32) (zu 90)) 31 true,zg 34 (.pick (.t 31) (.t 33) (.c (.bool false))) 28 false,zo 35 (.pick (.t 28) (.c (.bool true)) (.t 34)),zm 5 35] (zq [zm 36 5,zo 37 (.un .not (.t 36)),zm 38 37,zg 39 (.mv (.t 4)) 38 true,zg 40 (.bin .lss (.t 39) (zu 48)) 38 true,zg 41 (.mv (.t 40)) 38 true,zg 42 (.mv (.t 4)) 41 false,zg 43 (.bin .gtr (.t 42) (zu 57)) 41 false,zg 44 (.pick (.t 41) (.c (.bool true)) (.t 43)) 38 true,zo 45 (.pick (.t 38) (.t 44) (.c (.bool false))),zm 46 45,zg 47 (.mv (.t 4)) 46 true,zg 48 (.bin .neq (.t 47) (zu 95)) 46 true,zo 49 (.pick (.t 46) (.t 48) (.c (.bool false))),zm 50 49,zg 51 (.mv (.t 4)) 50 true,zg 52 (.bin .neq (.t 51) (zu 45)) 50 true,zo 53 (.pick (.t 50) (.t 52) (.c (.bool false))),zm 54 53,zg 55 (.mv (.t 4)) 54 true,zg 56 (.bin .neq (.t 55) (zu 46)) 54 true,zo 57 (.pick (.t 54) (.t 56) (.c (.bool false)))] (.cond (.t 57) (zq [zo 2 (.mv (.c (.bool false)))] .ret) .skip)))))) (.reg [zk 58 .add 16 1,zm 16 58]))))))) (zq [zo 2 (.mv (.c (.bool true)))] .ret))),[.t 2]⟩
theorem za136:cN Tryz.prog 136=some c136:=by kernel_rfl
def c135:AFn:=⟨19,zq [zo 1 (.box (.t 0)),zo 2 (.mv (.c (.bool false)))] (zq [zf 3 0 1,zf 4 0 3,zt 5 3 4,zx 6 132 [.t 5],zm 7 6,zg 8 (.fieldA 0 (.t 1)) 7 true,zg 9 (.fieldA 3 (.t 8)) 7 true,zg 10 (.load false 1 (.t 9)) 7 true,zg 11 (.bin .lss (zi 0) (.t 10)) 7 true,zo 12 (.pick (.t 7) (.t 11) (.c (.bool false))),zm 13 12,zg 14 (.fieldA 0 (.t 1)) 13 true,zg 15 (.fieldA 3 (.t 14)) 13 true,zg 16 (.load false 1 (.t 15)) 13 true,zg 17 (.bin .leq (.t 16) (zi 42949672960000)) 13 true,zo 18 (.pick (.t 13) (.t 17) (.c (.bool false))),zm 2 18] .ret),[.t 2]⟩
theorem za135:cN Tryz.prog 135=some c135:=by kernel_rfl
def c137:AFn:=⟨35,zq [zo 1 (.box (.t 0)),zo 2 (.mv (.c (.bool false)))] (zq [zo 8 (.mkFunc (.func 207) [] [.t 1]),zm 3 8] (.seq (zq [zf 9 19 1,zl 10 9,zh 11 10,zo 12 (.mv (zi 0))] (.block 0 (.loop (zq [zb 13 .lss 12 11] (.seq (.cond (.t 13) .skip (.exit 0)) (.seq (.block 1 (zq [zo 14 (.idxA 5 (.t 10) (.t 12)),zt 15 5 14,zo 5 (.new [zI 0,zI 0,zI 0,zI 0,zI 0]),zp (.store 5 (.t 5) (.t 15))] (zq [zm 16 3,zf 17 4 5,zl 18 17,zo 19 (.callv (.t 16) [.t 18]),zo 20 (.un .not (.t 19))] (.cond (.t 20) (zq [zo 2 (.mv (.c (.bool false)))] .ret) .skip)))) (.reg [zk 21 .add 12 1,zm 12 21]))))))) (.seq (zq [zf 22 20 1,zl 23 22,zh 24 23,zo 25 (.mv (zi 0))] (.block 2 (.loop (zq [zb 26 .lss 25 24] (.seq (.cond (.t 26) .skip (.exit 2)) (.seq (.block 3 (zq [zo 27 (.idxA 5 (.t 23) (.t 25)),zt 28 5 27,zo 7 (.new [.str [],zI 0,zI 0,zI 0,zI 0]),zp (.store 5 (.t 7) (.t 28))] (zq [zm 29 3,zf 30 4 7,zl 31 30,zo 32 (.callv (.t 29) [.t 31]),zo 33 (.un .not (.t 32))] (.cond (.t 33) (zq [zo 2 (.mv (.c (.bool false)))] .ret) .skip)))) (.reg [zk 34 .add 25 1,zm 25 34]))))))) (zq [zo 2 (.mv (.c (.bool true)))] .ret)))),[.t 2]⟩
theorem za137:cN Tryz.prog 137=some c137:=by kernel_rfl
def c207:AFn:=⟨13,zq [zo 3 (.mv (.c (.bool false)))] (zq [zm 4 0,zo 5 (.bin .leq (zi 0) (.t 4)),zm 6 5,zg 7 (.mv (.t 0)) 6 true,zg 8 (.fieldA 18 (.t 1)) 6 true,zg 9 (.load false 1 (.t 8)) 6 true,zg 10 (.len false (.t 9)) 6 true,zg 11 (.bin .lss (.t 7) (.t 10)) 6 true,zo 12 (.pick (.t 6) (.t 11) (.c (.bool false))),zm 3 12] .ret),[.t 3]⟩
theorem za207:cN Tryz.prog 207=some c207:=by kernel_rfl
end
open Go.Abs Go.Abs.S
structure Tex where
 w:Int
 h:Int
 pix:List UInt8
structure InZ where
 o:Nat
 a:Int
 b:Int
 c:Int
structure Cod where
 consts:List Int
 regs:Int
 code:List InZ
structure Prt where
 msh:Msh
 tre:Tre
 at_:V
 mat:Nat→Nat
structure Wrl where
 sc:Sc
 parts:List Prt
 shades:List Cod
 pics:List Tex
def Wrl.samples(w:Wrl):Nat:=w.sc.sm.toNat
structure Pth where
 pixel:Int
 sample:Nat
 bounce:Nat
 ray:Ray
 thr:V
 sum:V
 over:Bool
 rays:Int
 shades:Int
def Pth.draw(w:Wrl)(p:Pth)(d:Int):Int:=drawF w.sc.seed p.pixel p.sample d
def startF(w:Wrl)(p:Pth):Pth:={ p with bounce:=0,thr:=⟨4294967296,4294967296,4294967296⟩,ray:=cameraF w.sc.cam (p.pixel.tmod w.sc.cam.w) (p.pixel.tdiv w.sc.cam.w) (p.draw w 0) (p.draw w 1) }
def endF(w:Wrl)(p:Pth):Pth:=if w.samples≤p.sample+1 then { p with sample:=p.sample+1,over:=true } else startF w { p with sample:=p.sample+1 }
def shineF(p:Pth)(c:V):Pth:={ p with sum:=vAdd p.sum (vMul p.thr c) }
open Go.Abs Go.Abs.S
end Go.Proofs.Tc
namespace Go.Proofs.Tx
open Go.Abs Go.Abs.S
theorem and32{x:Nat}(h:x<18446744073709551616):aBin .and (.int .u64 (x:Int)) (.int .u64 4294967295)=some (.int .u64 ((x % 4294967296:Nat):Int)):=by
 have:=bin_andU64 (a:=x) (b:=4294967295) om om
 rw[show x &&& 4294967295=x % 4294967296 from Nat.and_two_pow_sub_one_eq_mod x 32]at this
 exact this
theorem shr32(x:Nat):aBin .shr (.int .u64 (x:Int)) (.int .u64 32)=some (.int .u64 ((x / 4294967296:Nat):Int)):=
 shrN .u64 .u64 x (b:=32) dD
theorem shl32{x:Nat}(h:x<4294967296):aBin .shl (.int .u64 (x:Int)) (.int .u64 32)=some (.int .u64 ((x*4294967296:Nat):Int)):=by
 rw[show (AVal.int .u64 32)=.int .u64 ((32:Nat):Int) from rfl,bin_shl]
 congr 2
 rw[show min 32 IntKind.u64.bits=32 from rfl,IntKind.wrap_u64]; omega
theorem shl32w(x:Nat):aBin .shl (.int .u64 (x:Int)) (.int .u64 32)=some (.int .u64 ((x*4294967296 % 18446744073709551616:Nat):Int)):=by
 rw[show (AVal.int .u64 32)=.int .u64 ((32:Nat):Int) from rfl,bin_shl]
 refine congrArg (fun z=>some (AVal.int .u64 z)) ?_
 rw[show min 32 IntKind.u64.bits=32 from rfl,IntKind.wrap_u64]; omega
theorem ishl32{x:Int}(h1:-2147483648≤x)(h2:x≤2147483647):aBin .shl (.int .i64 x) (.int .u64 32)=some (.int .i64 (x*4294967296)):=by
 rw[show (AVal.int .u64 32)=.int .u64 ((32:Nat):Int) from rfl,bin_shl]
 congr 2
 rw[show min 32 IntKind.i64.bits=32 from rfl,IntKind.wrap_i64]; omega
theorem ishr32(x:Int):aBin .shr (.int .i64 x) (.int .u64 32)=some (.int .i64 (x / 4294967296)):=by
 rw[show (AVal.int .u64 32)=.int .u64 ((32:Nat):Int) from rfl,bin_shr]
 congr 2
 rw[show min 32 IntKind.i64.bits=32 from rfl,Int.fdiv_eq_ediv_of_nonneg _ dD]
 rfl
theorem uw{a:Nat}(h:a<18446744073709551616):IntKind.u64.wrap (a:Int)=(a:Int):=wrapU64' (Int.natCast_nonneg _) om
theorem wmul{a b:Nat}(h:a*b<18446744073709551616):IntKind.u64.wrap ((a:Int)*(b:Int))=((a*b:Nat):Int):=by
 rw[show (a:Int)*b=((a*b:Nat):Int) by simp]; exact uw h
theorem wmulw(a b:Nat):IntKind.u64.wrap ((a:Int)*(b:Int))=((a*b % 18446744073709551616:Nat):Int):=by
 rw[show (a:Int)*b=((a*b:Nat):Int) by simp,IntKind.wrap_u64]
 generalize a*b=c; omega
theorem wadd{a b:Nat}(h:a+b<18446744073709551616):IntKind.u64.wrap ((a:Int)+(b:Int))=((a+b:Nat):Int):=by
 rw[show (a:Int)+b=((a+b:Nat):Int) by simp]; exact uw h
theorem wsub{a b:Nat}(h:b≤a)(ha:a<18446744073709551616):IntKind.u64.wrap ((a:Int)-(b:Int))=((a-b:Nat):Int):=by
 rw[show (a:Int)-b=((a-b:Nat):Int) by omega]; exact uw om
theorem orU64{a b:Nat}(ha:a<18446744073709551616)(hb:b<18446744073709551616):aBin .or (.int .u64 (a:Int)) (.int .u64 (b:Int))=some (.int .u64 ((a ||| b:Nat):Int)):=by
 have e:(BitVec.ofInt IntKind.u64.bits (a:Int) ||| BitVec.ofInt IntKind.u64.bits (b:Int)).toNat=a ||| b:=by
  rw[BitVec.toNat_or,ofInt_nat,ofInt_nat]
  have h1:a % 2 ^ IntKind.u64.bits=a:=Nat.mod_eq_of_lt (by simp only[IntKind.bits]; omega)
  have h2:b % 2 ^ IntKind.u64.bits=b:=Nat.mod_eq_of_lt (by simp only[IntKind.bits]; omega)
  rw[h1,h2]
 simp only[aBin,isShift,cond_false,if_true,aIntF_eq,aInt,e]
 have h3:a ||| b<2 ^ 64:=Nat.or_lt_two_pow om om
 rw[uw om]
theorem lt32_mul{a b:Nat}(ha:a<4294967296)(hb:b<4294967296):a*b≤18446744065119617025:=
 Nat.mul_le_mul (show a≤4294967295 by omega) (show b≤4294967295 by omega)
theorem halves(x y:Nat):∃ac ad bc bd:Nat,ac=(x / 4294967296)*(y / 4294967296)∧ad=(x / 4294967296)*(y % 4294967296)∧bc=(x % 4294967296)*(y / 4294967296)∧bd=(x % 4294967296)*(y % 4294967296) ∧
  x*y=ac*18446744073709551616+(ad+bc)*4294967296+bd:=by
 refine⟨_,_,_,_,rfl,rfl,rfl,rfl,?_⟩
 have hx:x=(x / 4294967296)*4294967296+x % 4294967296:=om
 have hy:y=(y / 4294967296)*4294967296+y % 4294967296:=om
 generalize x / 4294967296=a at *
 generalize x % 4294967296=b at *
 generalize y / 4294967296=c at *
 generalize y % 4294967296=d at *
 subst hx hy
 simp only[Nat.add_mul,Nat.mul_add]
 have e1:a*4294967296*(c*4294967296)=a*c*18446744073709551616:=by
  rw[Nat.mul_mul_mul_comm]
 have e2:a*4294967296*d=a*d*4294967296:=by rw[Nat.mul_right_comm]
 have e3:b*(c*4294967296)=b*c*4294967296:=by rw[Nat.mul_assoc]
 rw[e1,e2,e3]; omega
end Go.Proofs.Tx
namespace Go.Proofs.Tc
open Go.Abs Go.Abs.S
open Go.Proofs.Tx (and32 shr32 shl32 shl32w ishl32 ishr32 uw wmul wmulw wadd wsub orU64 lt32_mul halves)
theorem of_spec{n:Int}{H:AHeap}:ACalls Tryz.prog noNat 201 [.int .i64 n] H fun v H'=>v=.int .i64 (fOf n)∧H=H':=by
 refine acalls_ofN rfl za201 rfl ?_
 unfold fOf
 by_cases h1:2147483647<n
 ·simp only[c201,sA,sB,seval,h1]; exact⟨tt,tt⟩
 ·by_cases h2:n < -2147483648
  ·simp only[c201,sA,sB,seval,h1,h2]; exact⟨tt,tt⟩
  ·simp only[c201,sA,sB,seval,h1,h2,ishl32 (show -2147483648≤n by omega) (show n≤2147483647 by omega)]; exact⟨tt,tt⟩
theorem floor_spec{x:Int}{H:AHeap}:ACalls Tryz.prog noNat 204 [.int .i64 x] H fun v H'=>v=.int .i64 (fFloor x)∧H=H':=by
 refine acalls_ofN rfl za204 rfl ?_
 simp only[c204,sA,sB,seval,ishr32]
 exact⟨tt,tt⟩
theorem add_spec{a b:Int}(ha:J64 a)(hb:J64 b){H:AHeap}:ACalls Tryz.prog noNat 205 [.int .i64 a,.int .i64 b] H fun u H'=>u=.int .i64 (fAdd a b)∧H=H':=by
 obtain⟨a1,a2⟩:=ha
 obtain⟨b1,b2⟩:=hb
 refine acalls_ofN rfl za205 rfl ?_
 unfold fAdd
 by_cases h1:0<b
 ·have w1:IntKind.i64.wrap (9223372036854775807-b)=9223372036854775807-b:=w64
  have h3:¬b<0:=om
  by_cases h2:9223372036854775807-b<a
  ·simp only[c205,sA,sB,seval,h1,w1,h2]
   simp
  ·have w2:IntKind.i64.wrap (a+b)=a+b:=w64
   simp only[c205,sA,sB,seval,h1,w1,h2,h3,w2]
   simp
 ·by_cases h3:b<0
  ·have w1:IntKind.i64.wrap (-9223372036854775808-b)=-9223372036854775808-b:=w64
   by_cases h2:a < -9223372036854775808-b
   ·simp only[c205,sA,sB,seval,h1,h3,w1,h2]
    simp
   ·have w2:IntKind.i64.wrap (a+b)=a+b:=w64
    simp only[c205,sA,sB,seval,h1,w1,h2,h3,w2]
    simp
  ·have w2:IntKind.i64.wrap (a+b)=a+b:=w64
   simp only[c205,sA,sB,seval,h1,h3,w2]
   simp
theorem sub_spec{a b:Int}(ha:J64 a)(hb:J64 b){H:AHeap}:ACalls Tryz.prog noNat 211 [.int .i64 a,.int .i64 b] H fun u H'=>u=.int .i64 (fSub a b)∧H=H':=by
 obtain⟨a1,a2⟩:=ha
 obtain⟨b1,b2⟩:=hb
 refine acalls_ofN rfl za211 rfl ?_
 unfold fSub
 by_cases h1:b<0
 ·have w1:IntKind.i64.wrap (9223372036854775807+b)=9223372036854775807+b:=w64
  have h3:¬0<b:=om
  by_cases h2:9223372036854775807+b<a
  ·simp only[c211,sA,sB,seval,h1,w1,h2]
   simp
  ·have w2:IntKind.i64.wrap (a-b)=a-b:=w64
   simp only[c211,sA,sB,seval,h1,w1,h2,h3,w2]
   simp
 ·by_cases h3:0<b
  ·have w1:IntKind.i64.wrap (-9223372036854775808+b)=-9223372036854775808+b:=w64
   by_cases h2:a < -9223372036854775808+b
   ·simp only[c211,sA,sB,seval,h1,h3,w1,h2]
    simp
   ·have w2:IntKind.i64.wrap (a-b)=a-b:=w64
    simp only[c211,sA,sB,seval,h1,w1,h2,h3,w2]
    simp
  ·have w2:IntKind.i64.wrap (a-b)=a-b:=w64
   simp only[c211,sA,sB,seval,h1,h3,w2]
   simp
theorem un_neg(k:IntKind)(n:Int):aUn .neg (.int k n)=some (.int k (k.wrap (0-n))):=by
 simp only[aUn,wrF_eq]
theorem neg_spec{a:Int}(ha:J64 a){H:AHeap}:ACalls Tryz.prog noNat 258 [.int .i64 a] H fun u H'=>u=.int .i64 (fNeg a)∧H=H':=by
 obtain⟨a1,a2⟩:=ha
 refine acalls_ofN rfl za258 rfl ?_
 unfold fNeg
 by_cases h:a=-9223372036854775808
 ·simp only[c258,sA,sB,seval,h]; simp
 ·have w:IntKind.i64.wrap (0-a)=-a:=w64
  simp only[c258,sA,sB,seval,h,un_neg,w]; simp
open Go.Abs Go.Abs.S
open Go.Proofs.Tx (and32 shr32 shl32 shl32w ishl32 ishr32 uw wmul wmulw wadd wsub orU64 lt32_mul halves)
theorem size_spec{a:Int}(ha:J64 a){H:AHeap}:ACalls Tryz.prog noNat 263 [.int .i64 a] H fun v H'=>v=.int .u64 (a.natAbs:Int)∧H=H':=by
 obtain⟨a1,a2⟩:=ha
 refine acalls_ofN rfl za263 rfl ?_
 by_cases h:a<0
 ·have w1:IntKind.u64.wrap a=a+18446744073709551616:=by rw[IntKind.wrap_u64]; omega
  have w2:IntKind.u64.wrap (0-(a+18446744073709551616))=(a.natAbs:Int):=by rw[IntKind.wrap_u64]; omega
  simp only[c263,sA,sB,seval,h,w1,un_neg,w2]; exact⟨tt,tt⟩
 ·have w1:IntKind.u64.wrap a=(a.natAbs:Int):=by rw[IntKind.wrap_u64]; omega
  simp only[c263,sA,sB,seval,h,w1]; exact⟨tt,tt⟩
theorem eqv_bool(a b:Bool):aPf (.eqv false .bool) [.bool a,.bool b]=some (.bool (a==b)):=by cases a <;> cases b <;> rfl
def sgN(s:Bool):Nat:=bif s then 305 else 306
theorem sgN_lt(s:Bool):sgN s<1024:=by cases s <;> decide
theorem signs_spec{a b:Int}{H:AHeap}:ACalls Tryz.prog noNat 261 [.int .i64 a,.int .i64 b] H fun v H'=>v=.func (.func (sgN (sames a b))) [] []∧H=H':=by
 refine acalls_ofN rfl za261 rfl ?_
 simp only[c261,sA,sB,seval,eqv_bool]
 have e:(decide (a<0)==decide (b<0))=sames a b:=rfl
 rw[e]
 cases sames a b with
 | true=>simp only[sA,sB,seval]; exact⟨tt,tt⟩
 | false=>simp only[sA,sB,seval]; exact⟨tt,tt⟩
theorem told_spec(s:Bool){hi lo:Nat}(hl:lo<18446744073709551616)(r:Bool){H:AHeap}:ACalls Tryz.prog noNat (sgN s) [.int .u64 (hi:Int),.int .u64 (lo:Int),.bool r] H fun v H'=>v=.int .i64 (told s hi lo r)∧H=H':=by
 cases s with
 | true=>
  show ACalls Tryz.prog noNat 305 _ _ _
  refine acalls_ofN rfl za305 rfl ?_
  unfold told
  by_cases h1:hi=0
  ·have h1':(hi:Int)=0:=om
   by_cases h2:9223372036854775807<lo
   ·have h2':(9223372036854775807:Int)<(lo:Int):=om
    simp only[c305,sA,sB,seval,h1,h1',h2,h2',Int.cast_ofNat_Int]; simp[h2]
   ·have h2':¬(9223372036854775807:Int)<(lo:Int):=om
    have w:IntKind.i64.wrap (lo:Int)=lo:=w64
    simp only[c305,sA,sB,seval,h1,h1',h2',w,Int.cast_ofNat_Int]; simp[h2]
  ·have h1':¬(hi:Int)=0:=om
   simp only[c305,sA,sB,seval,h1']; simp[h1]
 | false=>
  show ACalls Tryz.prog noNat 306 _ _ _
  refine acalls_ofN rfl za306 rfl ?_
  unfold told
  by_cases h1:hi=0
  ·have h1':(hi:Int)=0:=om
   by_cases h2:9223372036854775807<lo
   ·have h2':(9223372036854775807:Int)<(lo:Int):=om
    simp only[c306,sA,sB,seval,h1,h1',h2,h2',Int.cast_ofNat_Int]; simp[h2]
   ·have h2':¬(9223372036854775807:Int)<(lo:Int):=om
    have w:IntKind.i64.wrap (lo:Int)=lo:=w64
    have w2:IntKind.i64.wrap (0-(lo:Int))=-(lo:Int):=w64
    have w3:IntKind.i64.wrap (-(lo:Int)-1)=-(lo:Int)-1:=w64
    cases r with
    | true=>simp only[c306,sA,sB,seval,h1,h1',h2',w,un_neg,w2,w3,Int.cast_ofNat_Int]; simp[h2]
    | false=>simp only[c306,sA,sB,seval,h1,h1',h2',w,un_neg,w2,Int.cast_ofNat_Int]; simp[h2]
  ·have h1':¬(hi:Int)=0:=om
   simp only[c306,sA,sB,seval,h1']; simp[h1]
set_option maxHeartbeats 1000000 in
theorem mul64_spec{x y:Nat}(hx:x<18446744073709551616)(hy:y<18446744073709551616){H:AHeap} :
  ACalls Tryz.prog noNat 262 [.int .u64 (x:Int),.int .u64 (y:Int)] H fun v H'=>v=.tuple [.int .u64 ((x*y / 18446744073709551616:Nat):Int),.int .u64 ((x*y % 18446744073709551616:Nat):Int)]∧H=H':=by
 refine acalls_ofN rfl za262 rfl ?_
 obtain⟨ac,ad,bc,bd,e1,e2,e3,e4,e⟩:=halves x y
 have b1:=lt32_mul (a:=x / 4294967296) (b:=y / 4294967296) om om
 have b2:=lt32_mul (a:=x / 4294967296) (b:=y % 4294967296) om om
 have b3:=lt32_mul (a:=x % 4294967296) (b:=y / 4294967296) om om
 have b4:=lt32_mul (a:=x % 4294967296) (b:=y % 4294967296) om om
 have m1:IntKind.u64.wrap (((x / 4294967296:Nat):Int)*((y / 4294967296:Nat):Int))=(ac:Int):=by rw[wmul om,e1]
 have m2:IntKind.u64.wrap (((x / 4294967296:Nat):Int)*((y % 4294967296:Nat):Int))=(ad:Int):=by rw[wmul om,e2]
 have m3:IntKind.u64.wrap (((x % 4294967296:Nat):Int)*((y / 4294967296:Nat):Int))=(bc:Int):=by rw[wmul om,e3]
 have m4:IntKind.u64.wrap (((x % 4294967296:Nat):Int)*((y % 4294967296:Nat):Int))=(bd:Int):=by rw[wmul om,e4]
 rw[← e1]at b1
 rw[← e2]at b2
 rw[← e3]at b3
 rw[← e4]at b4
 have a1:IntKind.u64.wrap ((ad:Int)+((bd / 4294967296:Nat):Int))=((ad+bd / 4294967296:Nat):Int):=wadd om
 obtain⟨t,ht⟩:∃t,t=ad+bd / 4294967296:=⟨_,rfl⟩
 rw[← ht]at a1
 have a2:IntKind.u64.wrap (((t % 4294967296:Nat):Int)+(bc:Int))=((t % 4294967296+bc:Nat):Int):=wadd om
 have a3:IntKind.u64.wrap ((ac:Int)+((t / 4294967296:Nat):Int))=((ac+t / 4294967296:Nat):Int):=wadd om
 have a4:IntKind.u64.wrap (((ac+t / 4294967296:Nat):Int)+(((t % 4294967296+bc) / 4294967296:Nat):Int))=((ac+t / 4294967296+(t % 4294967296+bc) / 4294967296:Nat):Int):=wadd om
 simp only[c262,sA,sB,seval,and32 hx,and32 hy,shr32,m1,m2,m3,m4,a1,and32 (show t<18446744073709551616 by omega),a2,a3,a4,wmulw]
 refine⟨?_,by trivial⟩
 congr 4
 clear m1 m2 m3 m4 a1 a2 a3 a4 e1 e2 e3 e4
 omega
theorem natAbs_lt{a:Int}(h:J64 a):a.natAbs<18446744073709551616:=by unfold J64 at h; omega
theorem mul_spec{a b:Int}(ha:J64 a)(hb:J64 b){H:AHeap}:ACalls Tryz.prog noNat 196 [.int .i64 a,.int .i64 b] H fun v H'=>v=.int .i64 (fMul a b)∧H=H':=by
 refine acalls_ofN rfl za196 rfl ?_
 have hs:=sgN_lt (sames a b)
 simp only[c196,sA,sB,seval]
 refine (signs_spec).mono ?_
 rintro v _ ⟨rfl,rfl⟩
 simp only[sA,sB,seval]
 refine (size_spec ha).mono ?_
 rintro v _ ⟨rfl,rfl⟩
 simp only[sA,sB,seval]
 refine (size_spec hb).mono ?_
 rintro v _ ⟨rfl,rfl⟩
 simp only[sA,sB,seval]
 refine (mul64_spec (natAbs_lt ha) (natAbs_lt hb)).mono ?_
 rintro v _ ⟨rfl,rfl⟩
 unfold fMul
 have hlt:a.natAbs*b.natAbs<340282366920938463463374607431768211456:=by
  have h1:=natAbs_lt ha
  have h2:=natAbs_lt hb
  have:=Nat.mul_le_mul (Nat.le_of_lt h1) (Nat.le_of_lt h2)
  have h3:a.natAbs*b.natAbs≤18446744073709551615*18446744073709551615:=Nat.mul_le_mul om om
  omega
 generalize a.natAbs*b.natAbs=c at *
 have s1:=orU64 (a:=c / 18446744073709551616 % 4294967296*4294967296) (b:=c % 18446744073709551616 / 4294967296) om om
 have s2:=or_low 32 (c / 18446744073709551616 % 4294967296) (b:=c % 18446744073709551616 / 4294967296) om
 rw[show (2:Nat) ^ 32=4294967296 from rfl]at s2
 rw[s2,show c / 18446744073709551616 % 4294967296*4294967296+c % 18446744073709551616 / 4294967296=c / 4294967296 % 18446744073709551616 by omega]at s1
 have s3:c / 18446744073709551616*4294967296 % 18446744073709551616=c / 18446744073709551616 % 4294967296*4294967296:=om
 have s4:(((c % 18446744073709551616*4294967296 % 18446744073709551616:Nat):Int)=0)=(c % 4294967296=0):=by
  rw[eq_iff_iff]; omega
 simp only[sA,sB,seval,ext_0,ext_1,shr32,shl32w,s3,s1,hs,s4]
 refine (told_spec (sames a b) (hi:=c / 18446744073709551616 / 4294967296) (lo:=c / 4294967296 % 18446744073709551616) om _).mono ?_
 rintro v _ ⟨rfl,rfl⟩
 simp only[sA,sB,seval]
 refine⟨?_,tt⟩
 congr 2
 simp
open Go.Abs Go.Abs.S
open Go.Proofs.Tx (and32 shr32 shl32 shl32w ishl32 ishr32 uw wmul wmulw wadd wsub orU64 lt32_mul halves)
def bl(x:Nat):Nat:=if x=0 then 0 else Nat.log2 x+1
theorem log_of{x k:Nat}(h1:2 ^ k≤x)(h2:x<2 ^ (k+1)):Nat.log2 x=k:=by
 have h0:x≠0:=by have:=Nat.pow_pos (n:=k) (show 0<2 by decide); omega
 exact (Nat.log2_eq_iff h0).2 ⟨h1,h2⟩
theorem bl_spec{x:Nat}(h:0<x):2 ^ (bl x-1)≤x∧x<2 ^ bl x∧1≤bl x:=by
 unfold bl
 rw[if_neg om,Nat.add_sub_cancel]
 exact⟨Nat.log2_self_le om,Nat.lt_log2_self,om⟩
theorem bl_shift{x s:Nat}(h:2 ^ s≤x):bl x=s+bl (x / 2 ^ s):=by
 have hp:0<2 ^ s:=Nat.pow_pos dD
 have hy:0<x / 2 ^ s:=Nat.div_pos h hp
 obtain⟨k,hk⟩:∃k,k=Nat.log2 (x / 2 ^ s):=⟨_,rfl⟩
 have h1:=Nat.log2_self_le (n:=x / 2 ^ s) om
 have h2:=Nat.lt_log2_self (n:=x / 2 ^ s)
 rw[← hk]at h1 h2
 have e:Nat.log2 x=s+k:=by
  refine log_of ?_ ?_
  ·rw[Nat.pow_add,Nat.mul_comm]
   exact (Nat.le_div_iff_mul_le hp).1 h1
  ·rw[show s+k+1=k+1+s by omega,Nat.pow_add]
   exact (Nat.div_lt_iff_lt_mul hp).1 h2
 unfold bl
 rw[if_neg om,if_neg om,e,← hk]
 omega
def len8:List UInt8:=[0,1,2,2,3,3,3,3,4,4,4,4,4,4,4,4,5,5,5,5,5,5,5,5,5,5,5,5,5,5,5,5,6,6,6,6,6,6,6,6,6,6,6,6,6,6,6,6,6,6,6,6,6,6,6,6,6,6,6,6,6,6,6,6,7,7,7,7,7,7,7,7,7,7,7,7,7,7,7,7,7,7,7,7,7,7,7,7,7,7,7,7,7,7,7,7,7,7,7,7,7,7,7,7,7,7,7,7,7,7,7,7,7,7,7,7,7,7,7,7,7,7,7,7,7,7,7,7,8,8,8,8,8,8,8,8,8,8,8,8,8,8,8,8,8,8,8,8,8,8,8,8,8,8,8,8,8,8,8,8,8,8,8,8,8,8,8,8,8,8,8,8,8,8,8,8,8,8,8,8,8,8,8,8,8,8,8,8,8,8,8,8,8,8,8,8,8,8,8,8,8,8,8,8,8,8,8,8,8,8,8,8,8,8,8,8,8,8,8,8,8,8,8,8,8,8,8,8,8,8,8,8,8,8,8,8,8,8,8,8,8,8,8,8,8,8,8,8,8,8,8,8,8,8,8,8]
theorem len8_at{v:Nat}(h:v<256):∃l:UInt8,len8[v]?=some l∧l.toNat=bl v:=by
 have:∀v:Fin 256,(len8[v.val]?).map UInt8.toNat=some (bl v.val):=by decide +kernel
 have:=this ⟨v,h⟩
 simp only[Option.map_eq_some_iff]at this
 exact this
theorem bl_le{v:Nat}(h:v<256):bl v≤8:=by
 have:∀v:Fin 256,bl v.val≤8:=by decide +kernel
 exact this ⟨v,h⟩
theorem len8_lit:len8=[0,1,2,2,3,3,3,3,4,4,4,4,4,4,4,4,5,5,5,5,5,5,5,5,5,5,5,5,5,5,5,5,6,6,6,6,6,6,6,6,6,6,6,6,6,6,6,6,6,6,6,6,6,6,6,6,6,6,6,6,6,6,6,6,7,7,7,7,7,7,7,7,7,7,7,7,7,7,7,7,7,7,7,7,7,7,7,7,7,7,7,7,7,7,7,7,7,7,7,7,7,7,7,7,7,7,7,7,7,7,7,7,7,7,7,7,7,7,7,7,7,7,7,7,7,7,7,7,8,8,8,8,8,8,8,8,8,8,8,8,8,8,8,8,8,8,8,8,8,8,8,8,8,8,8,8,8,8,8,8,8,8,8,8,8,8,8,8,8,8,8,8,8,8,8,8,8,8,8,8,8,8,8,8,8,8,8,8,8,8,8,8,8,8,8,8,8,8,8,8,8,8,8,8,8,8,8,8,8,8,8,8,8,8,8,8,8,8,8,8,8,8,8,8,8,8,8,8,8,8,8,8,8,8,8,8,8,8,8,8,8,8,8,8,8,8,8,8,8,8,8,8,8,8,8,8]:=rfl
set_option maxRecDepth 100000 in
theorem len64_spec{u:Nat}(hu:u<18446744073709551616){H:AHeap}:ACalls Tryz.prog noNat 342 [.int .u64 (u:Int)] H fun v H'=>v=.int .i64 (bl u:Int)∧H=H':=by
 refine acalls_ofN rfl za342 rfl ?_
 have e32:=fun u=>shrN .u64 .u64 u (b:=32) dD
 have e16:=fun u=>shrN .u64 .u64 u (b:=16) dD
 have e8:=fun u=>shrN .u64 .u64 u (b:=8) dD
 simp only[Int.cast_ofNat_Int,Nat.reducePow]at e32 e16 e8
 have g32:∀u:Nat,((4294967296:Int)≤(u:Int))=(4294967296≤u):=fun u=>by rw[eq_iff_iff]; omega
 have g16:∀u:Nat,((65536:Int)≤(u:Int))=(65536≤u):=fun u=>by rw[eq_iff_iff]; omega
 have g8:∀u:Nat,((256:Int)≤(u:Int))=(256≤u):=fun u=>by rw[eq_iff_iff]; omega
 have last:∀{x n:Nat},x<256→n≤100→∃l,aIdxS (.str len8) (.int .u8 (IntKind.u8.wrap (x:Int)))=some (.int .u8 l)∧IntKind.i64.wrap ((n:Int)+IntKind.i64.wrap l)=((n+bl x:Nat):Int):=by
  intro x n hx hn
  obtain⟨l,l1,l2⟩:=len8_at hx
  have hb:=bl_le hx
  have w3:IntKind.u8.wrap (x:Int)=(x:Int):=wrapU8 om om
  refine⟨_,by rw[w3]; exact str_idx l1 _,?_⟩
  have w4:IntKind.i64.wrap (bl x:Int)=bl x:=wrap64 om om
  rw[l2,w4,wrap64 om om]
  omega
 have fin:∀{x n:Nat},x<256→n≤100→bl u=n+bl x→∃l,aIdxS (.str len8) (.int .u8 (IntKind.u8.wrap (x:Int)))=some (.int .u8 l)∧IntKind.i64.wrap ((n:Int)+IntKind.i64.wrap l)=(bl u:Int):=fun h1 h2 h3=>by rw[h3]; exact last h1 h2
 simp only[c342,← len8_lit]
 by_cases c1:4294967296≤u
 ·have b1:=bl_shift (x:=u) (s:=32) c1
  rw[show (2:Nat) ^ 32=4294967296 from rfl]at b1
  have w1:IntKind.i64.wrap 48=48:=by decide
  by_cases c2:65536≤u / 4294967296
  ·have b2:=bl_shift (x:=u / 4294967296) (s:=16) c2
   rw[show (2:Nat) ^ 16=65536 from rfl]at b2
   have w2:IntKind.i64.wrap 56=56:=by decide
   by_cases c3:256≤u / 4294967296 / 65536
   ·have b3:=bl_shift (x:=u / 4294967296 / 65536) (s:=8) c3
    rw[show (2:Nat) ^ 8=256 from rfl]at b3
    obtain⟨l,q1,q2⟩:=fin (x:=u / 4294967296 / 65536 / 256) (n:=56) om om om
    rw[Int.cast_ofNat_Int]at q2
    simp only[sA,sB,seval,g32,c1,e32,g16,c2,e16,w1,g8,c3,e8,w2,q1,q2]; exact⟨tt,tt⟩
   ·obtain⟨l,q1,q2⟩:=fin (x:=u / 4294967296 / 65536) (n:=48) om om om
    rw[Int.cast_ofNat_Int]at q2
    simp only[sA,sB,seval,g32,c1,e32,g16,c2,e16,w1,g8,c3,q1,q2]; exact⟨tt,tt⟩
  ·have w2:IntKind.i64.wrap 40=40:=by decide
   by_cases c3:256≤u / 4294967296
   ·have b3:=bl_shift (x:=u / 4294967296) (s:=8) c3
    rw[show (2:Nat) ^ 8=256 from rfl]at b3
    obtain⟨l,q1,q2⟩:=fin (x:=u / 4294967296 / 256) (n:=40) om om om
    rw[Int.cast_ofNat_Int]at q2
    simp only[sA,sB,seval,g32,c1,e32,g16,c2,g8,c3,e8,w2,q1,q2]; exact⟨tt,tt⟩
   ·obtain⟨l,q1,q2⟩:=fin (x:=u / 4294967296) (n:=32) om om om
    rw[Int.cast_ofNat_Int]at q2
    simp only[sA,sB,seval,g32,c1,e32,g16,c2,g8,c3,q1,q2]; exact⟨tt,tt⟩
 ·have w1:IntKind.i64.wrap 16=16:=by decide
  by_cases c2:65536≤u
  ·have b2:=bl_shift (x:=u) (s:=16) c2
   rw[show (2:Nat) ^ 16=65536 from rfl]at b2
   have w2:IntKind.i64.wrap 24=24:=by decide
   by_cases c3:256≤u / 65536
   ·have b3:=bl_shift (x:=u / 65536) (s:=8) c3
    rw[show (2:Nat) ^ 8=256 from rfl]at b3
    obtain⟨l,q1,q2⟩:=fin (x:=u / 65536 / 256) (n:=24) om om om
    rw[Int.cast_ofNat_Int]at q2
    simp only[sA,sB,seval,g32,c1,g16,c2,e16,w1,g8,c3,e8,w2,q1,q2]; exact⟨tt,tt⟩
   ·obtain⟨l,q1,q2⟩:=fin (x:=u / 65536) (n:=16) om om om
    rw[Int.cast_ofNat_Int]at q2
    simp only[sA,sB,seval,g32,c1,g16,c2,e16,w1,g8,c3,q1,q2]; exact⟨tt,tt⟩
  ·have w2:IntKind.i64.wrap 8=8:=by decide
   by_cases c3:256≤u
   ·have b3:=bl_shift (x:=u) (s:=8) c3
    rw[show (2:Nat) ^ 8=256 from rfl]at b3
    obtain⟨l,q1,q2⟩:=fin (x:=u / 256) (n:=8) om om om
    rw[Int.cast_ofNat_Int]at q2
    simp only[sA,sB,seval,g32,c1,g16,c2,g8,c3,e8,w2,q1,q2]; exact⟨tt,tt⟩
   ·obtain⟨l,q1,q2⟩:=fin (x:=u) (n:=0) om om om
    rw[Int.cast_ofNat_Int]at q2
    simp only[sA,sB,seval,g32,c1,g16,c2,g8,c3,q1,q2]; exact⟨tt,tt⟩
theorem lz64_spec{u:Nat}(h0:0<u)(hu:u<18446744073709551616){H:AHeap}:ACalls Tryz.prog noNat 307 [.int .u64 (u:Int)] H fun v H'=>v=.int .i64 (shOf u:Int)∧shOf u<64∧u*2 ^ shOf u<18446744073709551616∧9223372036854775808≤u*2 ^ shOf u∧H=H':=by
 refine acalls_ofN rfl za307 rfl ?_
 simp only[c307,sA,sB,seval]
 refine (len64_spec hu).mono ?_
 rintro v _ ⟨rfl,rfl⟩
 obtain⟨h1,h2,h3⟩:=bl_spec h0
 have hL:bl u≤64:=Nat.le_of_not_lt fun h=>by
  have:2 ^ 64≤2 ^ (bl u-1):=Nat.pow_le_pow_right dD om
  omega
 have es:64-bl u=shOf u:=by unfold bl shOf; rw[if_neg om]; omega
 have w:IntKind.i64.wrap (64-(bl u:Int))=((64-bl u:Nat):Int):=w64
 simp only[sA,sB,seval,w,es]
 have e:2 ^ bl u*2 ^ (64-bl u)=18446744073709551616:=by rw[← Nat.pow_add,show bl u+(64-bl u)=64 by omega]
 have e2:2 ^ (bl u-1)*2 ^ (64-bl u)=9223372036854775808:=by rw[← Nat.pow_add,show bl u-1+(64-bl u)=63 by omega]
 have p:0<2 ^ (64-bl u):=Nat.pow_pos dD
 rw[es]at e e2 p
 refine⟨tt,om,?_,?_,tt⟩
 ·rw[← e]; exact Nat.mul_lt_mul_of_pos_right h2 p
 ·rw[← e2]; exact Nat.mul_le_mul_right _ h1
open Go.Abs Go.Abs.S
open Go.Proofs.Tx (and32 shr32 shl32 shl32w ishl32 ishr32 uw wmul wmulw wadd wsub orU64 lt32_mul halves)
theorem wsubw{a b:Nat}(ha:a<18446744073709551616)(hb:b<18446744073709551616):IntKind.u64.wrap ((a:Int)-(b:Int))=(Wsub a b:Int):=by
 unfold Wsub; rw[IntKind.wrap_u64]; omega
theorem waddw{a b:Nat}:IntKind.u64.wrap ((a:Int)+(b:Int))=(W (a+b):Int):=by
 unfold W; rw[IntKind.wrap_u64]; omega
theorem wmulW(a b:Nat):IntKind.u64.wrap ((a:Int)*(b:Int))=(W (a*b):Int):=wmulw a b
theorem W_lt(x:Nat):W x<18446744073709551616:=Nat.mod_lt _ dD
theorem Wsub_lt(x y:Nat):Wsub x y<18446744073709551616:=Nat.mod_lt _ dD
structure Tst(q r un yn0:Nat):Prop where
 q:q<18446744073709551616
 r:r<4294967296
 un:un<4294967296
 y:yn0<4294967296
theorem tst_hi{q:Nat}(h:4294967296≤q):((4294967296:Int)≤(q:Int))=True:=by rw[eq_iff_iff,iff_true]; omega
theorem tst_lo{q:Nat}(h:¬4294967296≤q):((4294967296:Int)≤(q:Int))=False:=by rw[eq_iff_iff,iff_false]; omega
theorem Tst.m{q r un yn0:Nat}(h:Tst q r un yn0)(hq:¬4294967296≤q):IntKind.u64.wrap ((q:Int)*(yn0:Int))=((q*yn0:Nat):Int)∧IntKind.u64.wrap (4294967296*(r:Int))=((4294967296*r:Nat):Int)∧IntKind.u64.wrap (((4294967296*r:Nat):Int)+(un:Int))=((4294967296*r+un:Nat):Int):=by
 obtain⟨h1,h2,h3,h4⟩:=h
 have:=lt32_mul (a:=q) (b:=yn0) om h4
 refine⟨wmul om,?_,wadd om⟩
 rw[IntKind.wrap_u64]; omega
theorem tst_gt{a b:Nat}:(((a:Nat):Int)<((b:Nat):Int))=(a<b):=by rw[eq_iff_iff]; omega
theorem dec1{q:Nat}(h:0<q)(hq:q<18446744073709551616):IntKind.u64.wrap ((q:Int)-1)=((q-1:Nat):Int):=by rw[IntKind.wrap_u64]; omega
theorem wmT(a:Nat):IntKind.u64.wrap ((a:Int)*4294967296)=(W (a*4294967296):Int):=wmulw a 4294967296
set_option maxHeartbeats 4000000 in
theorem div64_spec{hi lo y:Nat}(h0:0<y)(hh:hi<y)(hy:y<18446744073709551616)(hl:lo<18446744073709551616){H:AHeap} :
  ACalls Tryz.prog noNat 264 [.int .u64 (hi:Int),.int .u64 (lo:Int),.int .u64 (y:Int)] H fun v H'=>v=.tuple [.int .u64 ((d64 hi lo y).1:Int),.int .u64 ((d64 hi lo y).2:Int)]∧H=H':=by
 refine acalls_ofN rfl za264 rfl ?_
 have c0:¬(y:Int)=0:=om
 have c1:¬(y:Int)≤(hi:Int):=om
 by_cases c2:hi=0
 ·have c2':(hi:Int)=0:=om
  have c1':¬(y:Int)≤0:=om
  have s1:=quoU64 (a:=lo) y h0 hl
  have s2:=remU64 (a:=lo) y h0
  simp only[c264,sA,sB,seval,c0,c1',c2',s1,s2]
  rw[d64,if_pos c2]
  exact⟨tt,tt⟩
 ·have c3:¬(hi:Int)=0:=om
  simp only[c264,sA,sB,seval,c0,c1,c3]
  refine (lz64_spec h0 hy).mono ?_
  rintro v _ ⟨rfl,hs,y1a,y1b,rfl⟩
  obtain⟨s,hsd⟩:∃s,s=shOf y:=⟨_,rfl⟩
  rw[← hsd]at hs y1a y1b ⊢
  have wc:IntKind.u64.wrap (s:Int)=(s:Int):=uw om
  obtain⟨y1,hy1d⟩:∃x,x=y*2 ^ s:=⟨_,rfl⟩
  rw[← hy1d]at y1a y1b
  have hp:0<2 ^ s:=Nat.pow_pos dD
  have hhp:hi*2 ^ s+2 ^ s≤y1:=by rw[hy1d,← Nat.add_one_mul]; exact Nat.mul_le_mul_right _ hh
  have e64:2 ^ s*2 ^ (64-s)=18446744073709551616:=by rw[← Nat.pow_add,show s+(64-s)=64 by omega]
  have hlo:lo / 2 ^ (64-s)<2 ^ s:=by rw[Nat.div_lt_iff_lt_mul (Nat.pow_pos dD),e64]; exact hl
  have sh1:aBin .shl (.int .u64 (y:Int)) (.int .u64 (s:Int))=some (.int .u64 (y1:Int)):=by
   rw[bin_shlU .u64 .u64 (by simp) y (b:=s) (by show s≤64; omega),← hy1d]; congr 3; exact Nat.mod_eq_of_lt y1a
  have sh2:aBin .shl (.int .u64 (hi:Int)) (.int .u64 (s:Int))=some (.int .u64 ((hi*2 ^ s:Nat):Int)):=by
   rw[bin_shlU .u64 .u64 (by simp) hi (b:=s) (by show s≤64; omega)]; congr 3; exact Nat.mod_eq_of_lt (show hi*2 ^ s<18446744073709551616 by omega)
  have w64:IntKind.u64.wrap (64-(s:Int))=((64-s:Nat):Int):=by rw[IntKind.wrap_u64]; omega
  have sh3:=shrN .u64 .u64 lo (b:=64-s) (by show 64-s≤64; omega)
  obtain⟨un32,hun32⟩:∃x,x=hi*2 ^ s+lo / 2 ^ (64-s):=⟨_,rfl⟩
  have or1:aBin .or (.int .u64 ((hi*2 ^ s:Nat):Int)) (.int .u64 ((lo / 2 ^ (64-s):Nat):Int))=some (.int .u64 (un32:Int)):=by
   rw[orU64 om om,or_low s hi hlo,hun32]
  obtain⟨un10,hun10⟩:∃x,x=lo*2 ^ s % 18446744073709551616:=⟨_,rfl⟩
  have sh4:aBin .shl (.int .u64 (lo:Int)) (.int .u64 (s:Int))=some (.int .u64 (un10:Int)):=by
   rw[bin_shlU .u64 .u64 (by simp) lo (b:=s) (by show s≤64; omega),hun10]; rfl
  have hu10:un10<18446744073709551616:=by rw[hun10]; exact Nat.mod_lt _ dD
  have hu32:un32<18446744073709551616:=om
  obtain⟨yn1,hyn1⟩:∃x,x=y1 / 4294967296:=⟨_,rfl⟩
  obtain⟨yn0,hyn0⟩:∃x,x=y1 % 4294967296:=⟨_,rfl⟩
  obtain⟨un1,hun1⟩:∃x,x=un10 / 4294967296:=⟨_,rfl⟩
  obtain⟨un0,hun0⟩:∃x,x=un10 % 4294967296:=⟨_,rfl⟩
  have hyp:0<yn1:=om
  have hyl:2147483648≤yn1:=om
  have hyu:yn1<4294967296:=om
  have hy0:yn0<4294967296:=om
  have hun:un1<4294967296:=om
  have hun0l:un0<4294967296:=om
  have dm:∀{x q:Nat},x<18446744073709551616→q=x / yn1→IntKind.u64.wrap ((q:Int)*(yn1:Int))=((q*yn1:Nat):Int)∧IntKind.u64.wrap ((x:Int)-((q*yn1:Nat):Int))=((x % yn1:Nat):Int)∧x % yn1<4294967296∧q<18446744073709551616:=by
   intro x q hx hq
   have h1:=Nat.div_mul_le_self x yn1
   have h2:=Nat.mod_lt x hyp
   have h3:=Nat.mod_eq_sub_div_mul (x:=x) (k:=yn1)
   rw[← hq]at h1 h3
   have h4:q≤x:=by rw[hq]; exact Nat.div_le_self _ _
   refine⟨wmul om,?_,om,om⟩
   rw[h3]; exact wsub h1 hx
  obtain⟨qa,hqa⟩:∃x,x=un32 / yn1:=⟨_,rfl⟩
  obtain⟨g1,g2,g3,g4⟩:=dm hu32 hqa
  obtain⟨r0,hra⟩:∃x,x=un32 % yn1:=⟨_,rfl⟩
  rw[← hra]at g2 g3
  have hr0:=g3
  simp only[sW,sL,sXs,sXO,sXP,sB,seval,wc,sh1,shr32,and32 y1a,← hyn1,← hyn0,sh2,w64,sh3,or1,sh4,← hun1,and32 hu10,← hun0,quoU64 yn1 hyp hu32,← hqa,g1,g2]
  rw[aw_block]
  refine aw_cut (fun (T:Env) H'=>T 2=.int .u64 (y1:Int)∧T 8=.int .u64 (s:Int)∧T 9=.int .u64 (yn1:Int)∧T 10=.int .u64 (yn0:Int)∧T 11=.int .u64 (un32:Int)∧T 13=.int .u64 (un1:Int)∧T 14=.int .u64 (un0:Int)∧T 15=.int .u64 ((corr qa r0 un1 yn1 yn0:Nat):Int)∧H=H') (calls_mono _ _) ?_ ?_
  rotate_left
  ·rintro T _ ⟨t2,t8,t9,t10,t11,t13,t14,tq,rfl⟩
   obtain⟨q1,hq1⟩:∃q1,q1=corr qa r0 un1 yn1 yn0:=⟨_,rfl⟩
   rw[← hq1]at tq
   obtain⟨un21,hun21⟩:∃x,x=Wsub (W (W (un32*4294967296)+un1)) (W (q1*y1)):=⟨_,rfl⟩
   have hu21:un21<18446744073709551616:=by rw[hun21]; exact Wsub_lt _ _
   obtain⟨q0,hq0⟩:∃q0,q0=un21 / yn1:=⟨_,rfl⟩
   obtain⟨f1,f2,f3,f4⟩:=dm hu21 hq0
   have hw21:IntKind.u64.wrap ((W (W (un32*4294967296)+un1):Int)-(W (q1*y1):Int))=(un21:Int):=by rw[hun21]; exact wsubw (W_lt _) (W_lt _)
   simp only[sW,sL,sXs,sXO,sXP,sB,seval,tq,t2,t8,t9,t10,t11,t13,t14,wmT,waddw,wmulW,hw21,quoU64 yn1 hyp hu21,← hq0,f1,f2]
   clear hr0
   obtain⟨r0',hr0e⟩:∃r,r=un21 % yn1:=⟨_,rfl⟩
   rw[← hr0e]at f3 ⊢
   have hr0:=f3
   have hun:=hun0l
   rw[aw_block]
   refine aw_cut (fun (T:Env) H'=>T 2=.int .u64 (y1:Int)∧T 8=.int .u64 (s:Int)∧T 9=.int .u64 (yn1:Int)∧T 10=.int .u64 (yn0:Int)∧T 14=.int .u64 (un0:Int)∧T 15=.int .u64 (q1:Int)∧T 17=.int .u64 (un21:Int)∧T 18=.int .u64 ((corr q0 r0' un0 yn1 yn0:Nat):Int)∧H=H') (calls_mono _ _) ?_ ?_
   rotate_left
   ·rintro T _ ⟨t2,t8,t9,t10,t14,t15,t17,tq,rfl⟩
    simp only[sA,sB,seval,tq,t2,t8,t14,t15,t17,wmT,waddw,wmulW,wsubw (W_lt _) (W_lt _),shrN .u64 .u64 _ (b:=s) (by show s≤64; omega)]
    refine⟨?_,tt⟩
    subst hq1 hun21 hq0 hr0e
    rw[d64,if_neg c2]
    subst hqa hra hun1 hun0 hun10 hun32 hyn1 hyn0 hy1d hsd
    rfl
   refine aw_loop (fun m (T:Env) H'=>T 2=.int .u64 (y1:Int)∧T 8=.int .u64 (s:Int)∧T 9=.int .u64 (yn1:Int)∧T 10=.int .u64 (yn0:Int)∧T 14=.int .u64 (un0:Int)∧T 15=.int .u64 (q1:Int)∧T 17=.int .u64 (un21:Int)∧H=H'∧((m=1∧T 18=.int .u64 (q0:Int)∧T 16=.int .u64 (r0':Int))∨(m=0∧T 18=.int .u64 ((q0-1:Nat):Int)∧T 16=.int .u64 ((r0'+yn1:Nat):Int)∧(4294967296≤q0∨4294967296*r0'+un0<q0*yn0)∧r0'+yn1<4294967296))) 1 ⟨tt,tt,tt,tt,tt,tt,tt,tt,.inl ⟨rfl,tt,tt⟩⟩ ?_
   rintro m T _ ⟨t2,t8,t9,t10,t14,t15,t17,rfl,⟨rfl,tq,tr⟩ | ⟨rfl,tq,tr,hc,hr⟩⟩
   ·have Q:Tst q0 r0' un0 yn0:=⟨om,hr0,hun,hy0⟩
    have wr:IntKind.u64.wrap ((r0':Int)+(yn1:Int))=((r0'+yn1:Nat):Int):=wadd om
    by_cases A:4294967296≤q0
    case' pos=>
     have hd:=dec1 (q:=q0) om om
     have hco:4294967296≤q0∨4294967296*r0'+un0<q0*yn0:=.inl A
     simp only[sA,sB,seval,t2,t8,t9,t10,t14,t15,t17,tq,tr,tst_hi A,hd,wr]
    case' neg=>
     obtain⟨m1,m2,m3⟩:=Q.m A
     by_cases B:4294967296*r0'+un0<q0*yn0
     case' neg=>
      have e:corr q0 r0' un0 yn1 yn0=q0:=by unfold corr; rw[if_neg om]
      simp only[sA,sB,seval,t2,t8,t9,t10,t14,t15,t17,tq,tr,tst_lo A,m1,m2,m3,tst_gt,B]
      exact⟨tt,tt,tt,tt,tt,tt,tt,by rw[e],tt⟩
     have hpos:0<q0:=Nat.pos_of_ne_zero fun h=>by rw[h,Nat.zero_mul]at B; omega
     have hd:=dec1 (q:=q0) hpos om
     have hco:4294967296≤q0∨4294967296*r0'+un0<q0*yn0:=.inr B
     simp only[sA,sB,seval,t2,t8,t9,t10,t14,t15,t17,tq,tr,tst_lo A,m1,m2,m3,tst_gt,B,hd,wr]
    all_goals
     by_cases Cc:4294967296≤r0'+yn1
     ·have e:corr q0 r0' un0 yn1 yn0=q0-1:=by unfold corr; rw[if_pos hco,if_pos Cc]
      simp only[tst_hi Cc,sA,sB,seval]
      exact⟨tt,tt,tt,tt,tt,tt,tt,by rw[e],tt⟩
     ·simp only[tst_lo Cc,sA,sB,seval]
      exact⟨0,om,tt,tt,tt,tt,tt,tt,tt,tt,.inr ⟨rfl,tt,tt,by first | exact hco | exact .inr trivial,om⟩⟩
   ·have Q:Tst (q0-1) (r0'+yn1) un0 yn0:=⟨om,hr,hun,hy0⟩
    have wr:IntKind.u64.wrap (((r0'+yn1:Nat):Int)+(yn1:Int))=((r0'+yn1+yn1:Nat):Int):=wadd om
    have Cc:4294967296≤r0'+yn1+yn1:=om
    have C0:¬4294967296≤r0'+yn1:=om
    by_cases A:4294967296≤q0-1
    case' pos=>
     have hd:=dec1 (q:=q0-1) om om
     have e:corr q0 r0' un0 yn1 yn0=q0-1-1:=by unfold corr; rw[if_pos hc,if_neg C0,if_pos (.inl A)]; omega
     simp only[sA,sB,seval,t2,t8,t9,t10,t14,t15,t17,tq,tr,tst_hi A,hd,wr,tst_hi Cc]
    case' neg=>
     obtain⟨m1,m2,m3⟩:=Q.m A
     by_cases B:4294967296*(r0'+yn1)+un0<(q0-1)*yn0
     case' neg=>
      have e:corr q0 r0' un0 yn1 yn0=q0-1:=by unfold corr; rw[if_pos hc,if_neg C0,if_neg om]
      simp only[sA,sB,seval,t2,t8,t9,t10,t14,t15,t17,tq,tr,tst_lo A,m1,m2,m3,tst_gt,B]
      exact⟨tt,tt,tt,tt,tt,tt,tt,by rw[e],tt⟩
     have hpos:0<q0-1:=Nat.pos_of_ne_zero fun h=>by rw[h,Nat.zero_mul]at B; omega
     have hd:=dec1 (q:=q0-1) hpos om
     have e:corr q0 r0' un0 yn1 yn0=q0-1-1:=by unfold corr; rw[if_pos hc,if_neg C0,if_pos (.inr B)]; omega
     simp only[sA,sB,seval,t2,t8,t9,t10,t14,t15,t17,tq,tr,tst_lo A,m1,m2,m3,tst_gt,B,hd,wr,tst_hi Cc]
    all_goals exact⟨tt,tt,tt,tt,tt,tt,tt,by rw[e],tt⟩
  refine aw_loop (fun m (T:Env) H'=>T 2=.int .u64 (y1:Int)∧T 8=.int .u64 (s:Int)∧T 9=.int .u64 (yn1:Int)∧T 10=.int .u64 (yn0:Int)∧T 11=.int .u64 (un32:Int)∧T 13=.int .u64 (un1:Int)∧T 14=.int .u64 (un0:Int)∧H=H'∧((m=1∧T 15=.int .u64 (qa:Int)∧T 16=.int .u64 (r0:Int))∨(m=0∧T 15=.int .u64 ((qa-1:Nat):Int)∧T 16=.int .u64 ((r0+yn1:Nat):Int)∧(4294967296≤qa∨4294967296*r0+un1<qa*yn0)∧r0+yn1<4294967296))) 1 ⟨tt,tt,tt,tt,tt,tt,tt,tt,.inl ⟨rfl,tt,tt⟩⟩ ?_
  rintro m T _ ⟨t2,t8,t9,t10,t11,t13,t14,rfl,⟨rfl,tq,tr⟩ | ⟨rfl,tq,tr,hc,hr⟩⟩
  ·have Q:Tst qa r0 un1 yn0:=⟨om,hr0,hun,hy0⟩
   have wr:IntKind.u64.wrap ((r0:Int)+(yn1:Int))=((r0+yn1:Nat):Int):=wadd om
   by_cases A:4294967296≤qa
   case' pos=>
    have hd:=dec1 (q:=qa) om om
    have hco:4294967296≤qa∨4294967296*r0+un1<qa*yn0:=.inl A
    simp only[sA,sB,seval,t2,t8,t9,t10,t11,t13,t14,tq,tr,tst_hi A,hd,wr]
   case' neg=>
    obtain⟨m1,m2,m3⟩:=Q.m A
    by_cases B:4294967296*r0+un1<qa*yn0
    case' neg=>
     have e:corr qa r0 un1 yn1 yn0=qa:=by unfold corr; rw[if_neg om]
     simp only[sA,sB,seval,t2,t8,t9,t10,t11,t13,t14,tq,tr,tst_lo A,m1,m2,m3,tst_gt,B]
     exact⟨tt,tt,tt,tt,tt,tt,tt,by rw[e],tt⟩
    have hpos:0<qa:=Nat.pos_of_ne_zero fun h=>by rw[h,Nat.zero_mul]at B; omega
    have hd:=dec1 (q:=qa) hpos om
    have hco:4294967296≤qa∨4294967296*r0+un1<qa*yn0:=.inr B
    simp only[sA,sB,seval,t2,t8,t9,t10,t11,t13,t14,tq,tr,tst_lo A,m1,m2,m3,tst_gt,B,hd,wr]
   all_goals
    by_cases Cc:4294967296≤r0+yn1
    ·have e:corr qa r0 un1 yn1 yn0=qa-1:=by unfold corr; rw[if_pos hco,if_pos Cc]
     simp only[tst_hi Cc,sA,sB,seval]
     exact⟨tt,tt,tt,tt,tt,tt,tt,by rw[e],tt⟩
    ·simp only[tst_lo Cc,sA,sB,seval]
     exact⟨0,om,tt,tt,tt,tt,tt,tt,tt,tt,.inr ⟨rfl,tt,tt,by first | exact hco | exact .inr trivial,om⟩⟩
  ·have Q:Tst (qa-1) (r0+yn1) un1 yn0:=⟨om,hr,hun,hy0⟩
   have wr:IntKind.u64.wrap (((r0+yn1:Nat):Int)+(yn1:Int))=((r0+yn1+yn1:Nat):Int):=wadd om
   have Cc:4294967296≤r0+yn1+yn1:=om
   have C0:¬4294967296≤r0+yn1:=om
   by_cases A:4294967296≤qa-1
   case' pos=>
    have hd:=dec1 (q:=qa-1) om om
    have e:corr qa r0 un1 yn1 yn0=qa-1-1:=by unfold corr; rw[if_pos hc,if_neg C0,if_pos (.inl A)]; omega
    simp only[sA,sB,seval,t2,t8,t9,t10,t11,t13,t14,tq,tr,tst_hi A,hd,wr,tst_hi Cc]
   case' neg=>
    obtain⟨m1,m2,m3⟩:=Q.m A
    by_cases B:4294967296*(r0+yn1)+un1<(qa-1)*yn0
    case' neg=>
     have e:corr qa r0 un1 yn1 yn0=qa-1:=by unfold corr; rw[if_pos hc,if_neg C0,if_neg om]
     simp only[sA,sB,seval,t2,t8,t9,t10,t11,t13,t14,tq,tr,tst_lo A,m1,m2,m3,tst_gt,B]
     exact⟨tt,tt,tt,tt,tt,tt,tt,by rw[e],tt⟩
    have hpos:0<qa-1:=Nat.pos_of_ne_zero fun h=>by rw[h,Nat.zero_mul]at B; omega
    have hd:=dec1 (q:=qa-1) hpos om
    have e:corr qa r0 un1 yn1 yn0=qa-1-1:=by unfold corr; rw[if_pos hc,if_neg C0,if_pos (.inr B)]; omega
    simp only[sA,sB,seval,t2,t8,t9,t10,t11,t13,t14,tq,tr,tst_lo A,m1,m2,m3,tst_gt,B,hd,wr,tst_hi Cc]
   all_goals exact⟨tt,tt,tt,tt,tt,tt,tt,by rw[e],tt⟩
open Go.Abs Go.Abs.S
open Go.Proofs.Tx (and32 shr32 shl32 shl32w ishl32 ishr32 uw wmul wmulw wadd wsub orU64 lt32_mul halves)
theorem d64_lt{hi lo y:Nat}:(d64 hi lo y).1<18446744073709551616∨hi=0:=by
 unfold d64
 by_cases h:hi=0
 ·exact .inr h
 ·rw[if_neg h]; exact .inl (W_lt _)
theorem d64_lt'{hi lo y:Nat}(hl:lo<18446744073709551616):(d64 hi lo y).1<18446744073709551616:=by
 rcases d64_lt (hi:=hi) (lo:=lo) (y:=y) with h | h
 ·exact h
 ·unfold d64; rw[if_pos h]; exact Nat.lt_of_le_of_lt (Nat.div_le_self _ _) hl
theorem natz{n:Nat}:((n:Int)=0)=(n=0):=by rw[eq_iff_iff]; omega
theorem div_spec{a b:Int}(ha:J64 a)(hb:J64 b){H:AHeap}:ACalls Tryz.prog noNat 199 [.int .i64 a,.int .i64 b] H fun v H'=>v=.int .i64 (fDiv a b)∧H=H':=by
 refine acalls_ofN rfl za199 rfl ?_
 by_cases hb0:b=0
 ·subst hb0
  have hb0:(0:Int)=0:=rfl
  have e:fDiv a 0=(if 0<a then 9223372036854775807 else if a<0 then -9223372036854775808 else 0):=by unfold fDiv; rw[if_pos hb0]
  by_cases h1:0<a
  ·simp only[c199,sA,sB,seval,hb0,h1]; rw[e,if_pos h1]; exact⟨tt,tt⟩
  ·by_cases h2:a<0
   ·simp only[c199,sA,sB,seval,hb0,h1,h2]; rw[e,if_neg h1,if_pos h2]; exact⟨tt,tt⟩
   ·simp only[c199,sA,sB,seval,hb0,h1,h2]; rw[e,if_neg h1,if_neg h2]; exact⟨tt,tt⟩
 ·have hs:=sgN_lt (sames a b)
  simp only[c199,sA,sB,seval,hb0]
  refine (signs_spec).mono ?_
  rintro v _ ⟨rfl,rfl⟩
  simp only[sA,sB,seval]
  refine (size_spec ha).mono ?_
  rintro v _ ⟨rfl,rfl⟩
  simp only[sA,sB,seval]
  refine (size_spec hb).mono ?_
  rintro v _ ⟨rfl,rfl⟩
  have hA:=natAbs_lt ha
  have hB:=natAbs_lt hb
  have hB0:0<b.natAbs:=om
  have e:fDiv a b=told (sames a b) (a.natAbs / 4294967296 / b.natAbs) (d64 (a.natAbs / 4294967296 % b.natAbs) (a.natAbs*4294967296 % 18446744073709551616) b.natAbs).1 (decide ((d64 (a.natAbs / 4294967296 % b.natAbs) (a.natAbs*4294967296 % 18446744073709551616) b.natAbs).2≠0)):=by unfold fDiv; rw[if_neg hb0]
  rw[e]
  generalize a.natAbs=A at *
  generalize b.natAbs=B at *
  have hl:A*4294967296 % 18446744073709551616<18446744073709551616:=Nat.mod_lt _ dD
  simp only[sA,sB,seval,shr32,shl32w,remU64 (a:=A / 4294967296) B hB0]
  refine (div64_spec hB0 (Nat.mod_lt _ hB0) hB hl).mono ?_
  rintro v _ ⟨rfl,rfl⟩
  have hd:=d64_lt' (hi:=A / 4294967296 % B) (y:=B) hl
  generalize d64 (A / 4294967296 % B) (A*4294967296 % 18446744073709551616) B=D at *
  simp only[sA,sB,seval,ext_0,ext_1,quoU64 (a:=A / 4294967296) B hB0 om,hs,natz]
  refine (told_spec (sames a b) hd _).mono ?_
  rintro v _ ⟨rfl,rfl⟩
  simp only[sA,sB,seval]
  refine⟨?_,tt⟩
  congr 2
  simp
theorem or_pow(r k:Nat)(h:2 ^ (k+1) ∣ r):r ||| 2 ^ k=r+2 ^ k:=by
 obtain⟨q,rfl⟩:=h
 have:=or_low (k+1) q (b:=2 ^ k) (Nat.pow_lt_pow_right dD om)
 rw[Nat.mul_comm q]at this
 exact this
theorem sqrt_spec{a:Int}(ha:J64 a){H:AHeap}:ACalls Tryz.prog noNat 266 [.int .i64 a] H fun v H'=>v=.int .i64 (fSqrt a)∧H=H':=by
 refine acalls_ofN rfl za266 rfl ?_
 unfold fSqrt
 by_cases h:a<1
 ·simp only[c266,sA,sB,seval,h]; simp
 obtain⟨n,rfl⟩:∃n:Nat,a=(n:Int):=⟨a.toNat,om⟩
 have hn:n<9223372036854775808:=by unfold J64 at ha; omega
 have w1:=uw (a:=n) om
 simp only[c266,sW,sL,sXs,sXO,sXP,sB,seval,h,w1,shr32,shl32w]
 rw[aw_block,Int.toNat_natCast]
 obtain⟨hi,hhi⟩:∃x,x=n / 4294967296:=⟨_,rfl⟩
 obtain⟨lo,hlo⟩:∃x,x=n*4294967296 % 18446744073709551616:=⟨_,rfl⟩
 have hnl:n*4294967296=hi*18446744073709551616+lo:=om
 rw[← hhi,← hlo]
 refine aw_cut (fun (T:Env) H'=>T 5=.int .u64 (sqGo (n*4294967296) 48 0:Nat)∧H=H') (calls_mono _ _) ?_ ?_
 rotate_left
 ·rintro T _ ⟨t5,rfl⟩
  have hb:=sqGo_le (n*4294967296) 48 0
  have w2:IntKind.i64.wrap ((sqGo (n*4294967296) 48 0:Nat):Int)=((sqGo (n*4294967296) 48 0:Nat):Int):=w64
  simp only[sA,sB,seval,t5,w2]; exact⟨tt,tt⟩
 refine aw_loop (fun m (T:Env) H'=>H=H'∧∃(k r:Nat),m=k∧k≤48∧T 6=.int .u64 ((2 ^ k / 2:Nat):Int)∧T 5=.int .u64 (r:Int)∧T 3=.int .u64 (hi:Int)∧T 4=.int .u64 (lo:Int)∧sqGo (n*4294967296) k r=sqGo (n*4294967296) 48 0∧2 ^ k ∣ r∧r<2 ^ 48) 48 ⟨rfl,48,0,rfl,Nat.le_refl _,tt,tt,tt,tt,rfl,Nat.dvd_zero _,by decide⟩ ?_
 rintro k T _ ⟨rfl,_,r,rfl,hk,t6,t5,t3,t4,hsq,hdv,hr⟩
 cases k with
 | zero=>
  simp only[sA,sB,seval,t6,t5,show ¬(0:Int)<((2 ^ 0 / 2:Nat):Int) from by decide]
  rw[← hsq]; exact⟨tt,tt⟩
 | succ k=>
  have e2:2 ^ (k+1) / 2=2 ^ k:=by rw[Nat.pow_succ]; omega
  have hp:0<2 ^ k:=Nat.pow_pos dD
  have hpl:2 ^ k≤2 ^ 47:=Nat.pow_le_pow_right dD om
  have g1:(0:Int)<((2 ^ k:Nat):Int):=om
  have hr2:r+2 ^ k<2 ^ 48:=by
   obtain⟨q,hq⟩:=hdv
   have h48:2 ^ 48=2 ^ (k+1)*2 ^ (47-k):=by rw[← Nat.pow_add]; congr 1; omega
   have hql:q<2 ^ (47-k):=by
    rw[hq,h48]at hr
    exact Nat.lt_of_mul_lt_mul_left hr
   have h3:2 ^ (k+1)*(q+1)≤2 ^ (k+1)*2 ^ (47-k):=Nat.mul_le_mul_left _ hql
   rw[Nat.mul_add,← h48,← hq,Nat.mul_one,Nat.pow_succ]at h3
   omega
  have o1:aBin .or (.int .u64 (r:Int)) (.int .u64 ((2 ^ k:Nat):Int))=some (.int .u64 ((r+2 ^ k:Nat):Int)):=by
   rw[orU64 om om,or_pow r k hdv]
  rw[e2]at t6
  simp only[sA,sB,seval,t6,t5,g1,o1]
  refine (mul64_spec (x:=r+2 ^ k) (y:=r+2 ^ k) om om).mono ?_
  rintro v _ ⟨rfl,rfl⟩
  have sh:aBin .shr (.int .u64 ((2 ^ k:Nat):Int)) (.int .u64 1)=some (.int .u64 ((2 ^ k / 2:Nat):Int)):=by
   have:=shrN .u64 .u64 (2 ^ k) (b:=1) dD
   rw[Nat.pow_one]at this; exact this
  obtain⟨p,hpd⟩:∃p,p=(r+2 ^ k)*(r+2 ^ k):=⟨_,rfl⟩
  have hsq2:sqGo (n*4294967296) (k+1) r=sqGo (n*4294967296) k (if p≤n*4294967296 then r+2 ^ k else r):=by rw[sqGo,← hpd]
  have hd1:2 ^ k ∣ r:=Nat.dvd_trans (Nat.pow_dvd_pow 2 om) hdv
  rw[← hpd]
  have q1:(((p / 18446744073709551616:Nat):Int)<(hi:Int))=(p / 18446744073709551616<hi):=by rw[eq_iff_iff]; omega
  have q2:(((p / 18446744073709551616:Nat):Int)=(hi:Int))=(p / 18446744073709551616=hi):=by rw[eq_iff_iff]; omega
  have q3:(((p % 18446744073709551616:Nat):Int)≤(lo:Int))=(p % 18446744073709551616≤lo):=by rw[eq_iff_iff]; omega
  by_cases hple:p≤n*4294967296
  ·rw[if_pos hple]at hsq2
   have fin:∃m',m'<k+1∧True:=⟨k,om,trivial⟩
   by_cases A:p / 18446744073709551616<hi
   ·simp only[sA,sB,seval,ext_0,ext_1,q1,A,t3,t4,t6,sh]
    exact⟨k,om,tt,k,r+2 ^ k,rfl,om,tt,tt,tt,tt,hsq2.symm.trans hsq,Nat.dvd_add hd1 (Nat.dvd_refl _),hr2⟩
   ·have B:p / 18446744073709551616=hi:=om
    have C:p % 18446744073709551616≤lo:=om
    have A':=q1.trans (eq_false A)
    have B':=q2.trans (eq_true B)
    have C':=q3.trans (eq_true C)
    simp only[sA,sB,seval,ext_0,ext_1,A',B',C',t3,t4,t6,sh]
    exact⟨k,om,tt,k,r+2 ^ k,rfl,om,tt,tt,tt,tt,hsq2.symm.trans hsq,Nat.dvd_add hd1 (Nat.dvd_refl _),hr2⟩
  ·rw[if_neg hple]at hsq2
   have A:¬p / 18446744073709551616<hi:=om
   by_cases B:p / 18446744073709551616=hi
   ·have C:¬p % 18446744073709551616≤lo:=om
    have A':=q1.trans (eq_false A)
    have B':=q2.trans (eq_true B)
    have C':=q3.trans (eq_false C)
    simp only[sA,sB,seval,ext_0,ext_1,A',B',C',t3,t4,t5,t6,sh]
    exact⟨k,om,tt,k,r,rfl,om,tt,tt,tt,tt,hsq2.symm.trans hsq,hd1,hr⟩
   ·simp only[sA,sB,seval,ext_0,ext_1,q1,q2,A,B,t3,t4,t5,t6,sh]
    exact⟨k,om,tt,k,r,rfl,om,tt,tt,tt,tt,hsq2.symm.trans hsq,hd1,hr⟩
open Go.Abs Go.Abs.S
abbrev v3(x y z:Int):List AVal:=[.int .i64 x,.int .i64 y,.int .i64 z]
theorem row_st{H:AHeap}{b n:Nat}{l l':List AVal}(h:Row H b l)(hn:l.length=n){i:Nat}(hi:i<n){x:AVal}(hx:x.one=true)(e:l.set i x=l') :
  ∃H',oStore 1 H (cellR b n i) x=some H'∧Row H' b l'∧H'.next=H.next∧∀c,c≠b→H'.get c=H.get c:=by
 subst e; exact row_store h hn hi hx
theorem row_stK{H:AHeap}{b n:Nat}{l l':List AVal}(h:Row H b l)(hn:l.length=n){i k:Nat}(hik:i+k≤n){xs:List AVal}(hx:xs.length=k)(ho:xs.all AVal.one=true)(e:l.take i++(xs++l.drop (i+k))=l') :
  ∃H',oStore k H (cellR b n i) (.agg xs)=some H'∧Row H' b l'∧H'.next=H.next∧∀c,c≠b→H'.get c=H.get c:=by
 subst e; exact row_storeK h hn hik hx ho
theorem fin_cc{T:Env}{H:AHeap}(g:Bool)(n i:Nat)(K:AVal→AHeap→Prop):fin [.cell g n i] K .ret T H=OptP (oLoad g n H (T i)) fun v=>K v H:=by
 rw[fin_ret]
 simp only[wRes]
 cases oLoad g n H (T i) with
 | none=>simp[OptP]
 | some v=>simp only[OptP_some]; rfl
theorem ld3{H:AHeap}{b:Nat}{x y z:Int}(r:Row H b (v3 x y z)):oLoad false 1 H (cellR b 3 0)=some (.int .i64 x)∧oLoad false 1 H (cellR b 3 1)=some (.int .i64 y)∧oLoad false 1 H (cellR b 3 2)=some (.int .i64 z)∧oLoad true 3 H (cellR b 3 0)=some (.agg (v3 x y z)):=
 ⟨row_load r rfl rfl,row_load r rfl rfl,row_load r rfl rfl,row_loadN r rfl⟩
theorem bl3(x y z:Int):aBuild [.int .i64 0,.int .i64 0,.int .i64 0] [(0,1,.int .i64 x),(1,1,.int .i64 y),(2,1,.int .i64 z)]=some (.agg (v3 x y z)):=rfl
theorem bl30:aBuild [.int .i64 0,.int .i64 0,.int .i64 0] []=some (.agg (v3 0 0 0)):=rfl
theorem i_cells(k:IntKind)(z:Int):(AVal.int k z).cells=[.int k z]:=_root_.id rfl
theorem aeq_v3(x y z:Int):aeq (.agg (v3 x y z)) (.agg (v3 x y z))=true:=by simp[aeq,aeqs,aeq_int,eqF_eq]
theorem each_spec{f:Nat}(hf:f<1024){F:Int→Int→Int}{caps:List AVal}{v u:V}(hv:v.j)(hu:u.j){H:AHeap}
  (hF:∀{a b:Int} {K:AHeap},Ext H.next H K→J64 a→J64 b→ACalls Tryz.prog noNat f ([.int .i64 a,.int .i64 b]++caps) K fun r K'=>r=.int .i64 (F a b)∧K=K') :
  ACalls Tryz.prog noNat 195 [.agg v.cells,.agg u.cells,.func (.func f) [] caps] H fun r H'=>r=.agg (vmap F v u).cells∧Ext H.next H H':=by
 obtain⟨a,b,c⟩:=v
 obtain⟨x,y,z⟩:=u
 obtain⟨ha,hb,hc⟩:=hv
 obtain⟨hx,hy,hz⟩:=hu
 show ACalls Tryz.prog noNat 195 [.agg (v3 a b c),.agg (v3 x y z),.func (.func f) [] caps] H fun r H'=>r=.agg (v3 (F a x) (F b y) (F c z))∧Ext H.next H H'
 obtain⟨H1,m1,r1,n1,k1⟩:=row_newL H (v3 a b c) (n:=3) rfl
 obtain⟨H2,m2,r2,n2,k2⟩:=row_newL H1 (v3 x y z) (n:=3) rfl
 obtain⟨H3,m3,r3,n3,k3⟩:=row_newL H2 (v3 0 0 0) (n:=3) rfl
 have E3:Ext H.next H H3:=⟨om,fun c hc=>by rw[k3 c om,k2 c om,k1 c om]⟩
 obtain⟨p0,p1,p2,_⟩:=ld3 ((r1.same (k2 _ om)).same (k3 _ om))
 obtain⟨q0,q1,q2,_⟩:=ld3 (r2.same (k3 _ om))
 obtain⟨H4,m4,r4,n4,k4⟩:=row_storeN r3 (n:=3) rfl (xs:=v3 (F a x) (F b y) (F c z)) rfl rfl
 obtain⟨_,_,_,w⟩:=ld3 r4
 refine acalls_ofN rfl za195 rfl ?_
 simp only[c195,sA,sB,seval,cells_agg,m1,m2,m3]
 refine aw_drawC rfl ?_
 simp only[sR,sA,sB,seval,fld0,fldA,p0,q0,hf,List.nil_append]
 refine (hF E3 ha hx).mono ?_
 rintro _ _ ⟨rfl,rfl⟩
 simp only[sR,sA,sB,seval,fld0,fldA,p1,q1,hf,List.nil_append]
 refine (hF E3 hb hy).mono ?_
 rintro _ _ ⟨rfl,rfl⟩
 simp only[sR,sA,sB,seval,fld0,fldA,p2,q2,hf,List.nil_append]
 refine (hF E3 hc hz).mono ?_
 rintro _ _ ⟨rfl,rfl⟩
 simp only[sR,sA,sB,seval,bl3,m4]
 simp only[ck_nil',ck_cons,ckP_load,ckP_nil,ck_end,and_true,true_and,List.map_cons,List.map_nil,sA,sB,seval,fin_cc,OptP_some,w]
 refine⟨?_,⟨om,fun c hc=>by rw[k4 c om,E3.old c hc]⟩⟩
 and_intros <;> first | rfl | exact⟨_,rfl,fun _=>⟨_,by first | exact p1 | exact q1 | exact p2 | exact q2,aeq_int _ _⟩⟩
theorem vadd_spec{v u:V}(hv:v.j)(hu:u.j){H:AHeap}:ACalls Tryz.prog noNat 186 [.agg v.cells,.agg u.cells] H fun r H'=>r=.agg (vAdd v u).cells∧Ext H.next H H':=by
 obtain⟨H1,m1,r1,n1,k1⟩:=row_newL H v.cells (n:=3) rfl
 obtain⟨H2,m2,r2,n2,k2⟩:=row_newL H1 u.cells (n:=3) rfl
 obtain⟨H3,m3,r3,n3,k3⟩:=row_newL H2 (v3 0 0 0) (n:=3) rfl
 obtain⟨_,_,_,p⟩:=ld3 ((r1.same (k2 _ om)).same (k3 _ om))
 obtain⟨_,_,_,q⟩:=ld3 (r2.same (k3 _ om))
 refine acalls_ofN rfl za186 rfl ?_
 simp only[c186,sA,sB,seval,cells_agg,m1,m2,m3,p,q]
 refine (each_spec (v:=v) (u:=u) om (F:=fAdd) hv hu (caps:=[]) fun {_ _ _} _ h k=>add_spec h k).mono ?_
 rintro _ H4 ⟨rfl,E4⟩
 obtain⟨H5,m5,r5,n5,k5⟩:=row_storeN (r3.same (E4.old _ om)) (n:=3) rfl (xs:=(vAdd v u).cells) rfl rfl
 obtain⟨_,_,_,w⟩:=ld3 r5
 have m5':oStore 3 H4 (cellR H2.next 3 0) (.agg (vmap fAdd v u).cells)=some H5:=m5
 simp only[sA,sB,seval,m5',fin_cc,OptP_some,w]
 exact⟨rfl,⟨by have:=E4.next; omega,fun c hc=>by rw[k5 c om,E4.old c om,k3 c om,k2 c om,k1 c om]⟩⟩
theorem vsub_spec{v u:V}(hv:v.j)(hu:u.j){H:AHeap}:ACalls Tryz.prog noNat 190 [.agg v.cells,.agg u.cells] H fun r H'=>r=.agg (vSub v u).cells∧Ext H.next H H':=by
 obtain⟨H1,m1,r1,n1,k1⟩:=row_newL H v.cells (n:=3) rfl
 obtain⟨H2,m2,r2,n2,k2⟩:=row_newL H1 u.cells (n:=3) rfl
 obtain⟨H3,m3,r3,n3,k3⟩:=row_newL H2 (v3 0 0 0) (n:=3) rfl
 obtain⟨_,_,_,p⟩:=ld3 ((r1.same (k2 _ om)).same (k3 _ om))
 obtain⟨_,_,_,q⟩:=ld3 (r2.same (k3 _ om))
 refine acalls_ofN rfl za190 rfl ?_
 simp only[c190,sA,sB,seval,cells_agg,m1,m2,m3,p,q]
 refine (each_spec (v:=v) (u:=u) om (F:=fSub) hv hu (caps:=[]) fun {_ _ _} _ h k=>sub_spec h k).mono ?_
 rintro _ H4 ⟨rfl,E4⟩
 obtain⟨H5,m5,r5,n5,k5⟩:=row_storeN (r3.same (E4.old _ om)) (n:=3) rfl (xs:=(vSub v u).cells) rfl rfl
 obtain⟨_,_,_,w⟩:=ld3 r5
 have m5':oStore 3 H4 (cellR H2.next 3 0) (.agg (vmap fSub v u).cells)=some H5:=m5
 simp only[sA,sB,seval,m5',fin_cc,OptP_some,w]
 exact⟨rfl,⟨by have:=E4.next; omega,fun c hc=>by rw[k5 c om,E4.old c om,k3 c om,k2 c om,k1 c om]⟩⟩
theorem vmul_spec{v u:V}(hv:v.j)(hu:u.j){H:AHeap}:ACalls Tryz.prog noNat 126 [.agg v.cells,.agg u.cells] H fun r H'=>r=.agg (vMul v u).cells∧Ext H.next H H':=by
 obtain⟨H1,m1,r1,n1,k1⟩:=row_newL H v.cells (n:=3) rfl
 obtain⟨H2,m2,r2,n2,k2⟩:=row_newL H1 u.cells (n:=3) rfl
 obtain⟨H3,m3,r3,n3,k3⟩:=row_newL H2 (v3 0 0 0) (n:=3) rfl
 obtain⟨_,_,_,p⟩:=ld3 ((r1.same (k2 _ om)).same (k3 _ om))
 obtain⟨_,_,_,q⟩:=ld3 (r2.same (k3 _ om))
 refine acalls_ofN rfl za126 rfl ?_
 simp only[c126,sA,sB,seval,cells_agg,m1,m2,m3,p,q]
 refine (each_spec (v:=v) (u:=u) om (F:=fMul) hv hu (caps:=[]) fun {_ _ _} _ h k=>mul_spec h k).mono ?_
 rintro _ H4 ⟨rfl,E4⟩
 obtain⟨H5,m5,r5,n5,k5⟩:=row_storeN (r3.same (E4.old _ om)) (n:=3) rfl (xs:=(vMul v u).cells) rfl rfl
 obtain⟨_,_,_,w⟩:=ld3 r5
 have m5':oStore 3 H4 (cellR H2.next 3 0) (.agg (vmap fMul v u).cells)=some H5:=m5
 simp only[sA,sB,seval,m5',fin_cc,OptP_some,w]
 exact⟨rfl,⟨by have:=E4.next; omega,fun c hc=>by rw[k5 c om,E4.old c om,k3 c om,k2 c om,k1 c om]⟩⟩
theorem neg1_spec{a b:Int}(ha:J64 a){H:AHeap}:ACalls Tryz.prog noNat 257 [.int .i64 a,.int .i64 b] H fun r H'=>r=.int .i64 (fNeg a)∧H=H':=by
 refine acalls_ofN rfl za257 rfl ?_
 simp only[c257,sA,sB,seval]
 refine (neg_spec ha).mono ?_
 rintro _ _ ⟨rfl,rfl⟩
 simp only[sA,sB,seval]; exact⟨tt,tt⟩
theorem scale1_spec{a b s:Int}(ha:J64 a)(hs:J64 s){cb:Nat}{H:AHeap}(r:Row H cb [.int .i64 s]):ACalls Tryz.prog noNat 256 [.int .i64 a,.int .i64 b,cellR cb 1 0] H fun r H'=>r=.int .i64 (fMul a s)∧H=H':=by
 refine acalls_ofN rfl za256 rfl ?_
 have l:oLoad false 1 H (cellR cb 1 0)=some (.int .i64 s):=row_load r rfl rfl
 simp only[c256,sA,sB,seval,l]
 refine (mul_spec ha hs).mono ?_
 rintro _ _ ⟨rfl,rfl⟩
 simp only[sA,sB,seval]; exact⟨tt,tt⟩
theorem unit1_spec{a b s:Int}(ha:J64 a)(hs:J64 s){cb:Nat}{H:AHeap}(r:Row H cb [.int .i64 s]):ACalls Tryz.prog noNat 255 [.int .i64 a,.int .i64 b,cellR cb 1 0] H fun r H'=>r=.int .i64 (fDiv a s)∧H=H':=by
 refine acalls_ofN rfl za255 rfl ?_
 have l:oLoad false 1 H (cellR cb 1 0)=some (.int .i64 s):=row_load r rfl rfl
 simp only[c255,sA,sB,seval,l]
 refine (div_spec ha hs).mono ?_
 rintro _ _ ⟨rfl,rfl⟩
 simp only[sA,sB,seval]; exact⟨tt,tt⟩
theorem vneg_spec{v:V}(hv:v.j){H:AHeap}:ACalls Tryz.prog noNat 193 [.agg v.cells] H fun r H'=>r=.agg (vNeg v).cells∧Ext H.next H H':=by
 obtain⟨H1,m1,r1,n1,k1⟩:=row_newL H v.cells (n:=3) rfl
 obtain⟨H2,m2,r2,n2,k2⟩:=row_newL H1 (v3 0 0 0) (n:=3) rfl
 obtain⟨_,_,_,p⟩:=ld3 (r1.same (k2 _ om))
 refine acalls_ofN rfl za193 rfl ?_
 simp only[c193,sA,sB,seval,cells_agg,m1,m2,p]
 refine (each_spec (v:=v) (u:=v) om (F:=fun a _=>fNeg a) hv hv (caps:=[]) fun {_ _ _} _ h _=>neg1_spec h).mono ?_
 rintro _ H4 ⟨rfl,E4⟩
 obtain⟨H5,m5,r5,n5,k5⟩:=row_storeN (r2.same (E4.old _ om)) (n:=3) rfl (xs:=(vNeg v).cells) rfl rfl
 obtain⟨_,_,_,w⟩:=ld3 r5
 have m5':oStore 3 H4 (cellR H1.next 3 0) (.agg (vmap (fun a _=>fNeg a) v v).cells)=some H5:=m5
 simp only[sA,sB,seval,m5',fin_cc,OptP_some,w]
 exact⟨rfl,⟨by have:=E4.next; omega,fun c hc=>by rw[k5 c om,E4.old c om,k2 c om,k1 c om]⟩⟩
theorem vscale_spec{v:V}{s:Int}(hv:v.j)(hs:J64 s){H:AHeap}:ACalls Tryz.prog noNat 191 [.agg v.cells,.int .i64 s] H fun r H'=>r=.agg (vScale v s).cells∧Ext H.next H H':=by
 obtain⟨H1,m1,r1,n1,k1⟩:=row_newL H v.cells (n:=3) rfl
 obtain⟨H2,m2,r2,n2,k2⟩:=row_newL H1 [.int .i64 s] (n:=1) rfl
 obtain⟨H3,m3,r3,n3,k3⟩:=row_newL H2 (v3 0 0 0) (n:=3) rfl
 obtain⟨_,_,_,p⟩:=ld3 ((r1.same (k2 _ om)).same (k3 _ om))
 have q:=r2.same (k3 _ om)
 refine acalls_ofN rfl za191 rfl ?_
 simp only[c191,sA,sB,seval,cells_agg,i_cells,m1,m2,m3,p]
 refine (each_spec (v:=v) (u:=v) om (F:=fun a _=>fMul a s) hv hv (caps:=[cellR H1.next 1 0]) fun {_ _ _} e h _=>scale1_spec h hs (q.same (e.old _ om))).mono ?_
 rintro _ H4 ⟨rfl,E4⟩
 obtain⟨H5,m5,r5,n5,k5⟩:=row_storeN (r3.same (E4.old _ om)) (n:=3) rfl (xs:=(vScale v s).cells) rfl rfl
 obtain⟨_,_,_,w⟩:=ld3 r5
 have m5':oStore 3 H4 (cellR H2.next 3 0) (.agg (vmap (fun a _=>fMul a s) v v).cells)=some H5:=m5
 simp only[sA,sB,seval,m5',fin_cc,OptP_some,w]
 exact⟨rfl,⟨by have:=E4.next; omega,fun c hc=>by rw[k5 c om,E4.old c om,k3 c om,k2 c om,k1 c om]⟩⟩
theorem vdot_spec{v u:V}(hv:v.j)(hu:u.j){H:AHeap}:ACalls Tryz.prog noNat 192 [.agg v.cells,.agg u.cells] H fun r H'=>r=.int .i64 (vDot v u)∧Ext H.next H H':=by
 obtain⟨H1,m1,r1,n1,k1⟩:=row_newL H v.cells (n:=3) rfl
 obtain⟨H2,m2,r2,n2,k2⟩:=row_newL H1 u.cells (n:=3) rfl
 obtain⟨_,_,_,p⟩:=ld3 (r1.same (k2 _ om))
 obtain⟨_,_,_,q⟩:=ld3 r2
 refine acalls_ofN rfl za192 rfl ?_
 simp only[c192,sA,sB,seval,cells_agg,m1,m2,p,q]
 refine (vmul_spec hv hu).mono ?_
 rintro _ H3 ⟨rfl,E3⟩
 have e3:=E3.next
 obtain⟨H4,m4,r4,n4,k4⟩:=row_newL H3 (v3 0 0 0) (n:=3) rfl
 obtain⟨H5,m5,r5,n5,k5⟩:=row_storeN r4 (n:=3) rfl (xs:=(vMul v u).cells) rfl rfl
 obtain⟨l0,l1,l2,_⟩:=ld3 r5
 simp only[sA,sB,seval,m4,m5]
 refine aw_drawC rfl ?_
 simp only[sR,sA,sB,seval,fld0,fldA,l0,l1]
 refine (add_spec (fMul_j ..) (fMul_j ..)).mono ?_
 rintro _ _ ⟨rfl,rfl⟩
 simp only[sR,sA,sB,seval,fld0,fldA,l2]
 refine (add_spec (fAdd_j (fMul_j ..) (fMul_j ..)) (fMul_j ..)).mono ?_
 rintro _ _ ⟨rfl,rfl⟩
 simp only[sR,sA,sB,seval]
 simp only[ck_nil',ck_cons,ckP_load,ckP_nil,ck_end,and_true,true_and,List.map_cons,List.map_nil,sA,sB,seval]
 refine⟨?_,rfl,⟨om,fun c hc=>by rw[k5 c om,k4 c om,E3.old c om,k2 c om,k1 c om]⟩⟩
 and_intros <;> first | rfl | exact⟨_,rfl,fun _=>⟨_,by first | exact l0 | exact l1 | exact l2,aeq_int _ _⟩⟩
theorem vlen_spec{v:V}(hv:v.j){H:AHeap}:ACalls Tryz.prog noNat 254 [.agg v.cells] H fun r H'=>r=.int .i64 (vLen v)∧Ext H.next H H':=by
 obtain⟨H1,m1,r1,n1,k1⟩:=row_newL H v.cells (n:=3) rfl
 obtain⟨_,_,_,p⟩:=ld3 r1
 refine acalls_ofN rfl za254 rfl ?_
 simp only[c254,sA,sB,seval,cells_agg,m1,p]
 refine (vdot_spec hv hv).mono ?_
 rintro _ H2 ⟨rfl,E2⟩
 simp only[sA,sB,seval]
 refine (sqrt_spec (vDot_j v v)).mono ?_
 rintro _ _ ⟨rfl,rfl⟩
 simp only[sA,sB,seval]
 exact⟨rfl,⟨by have:=E2.next; omega,fun c hc=>by rw[E2.old c om,k1 c om]⟩⟩
theorem vunit_spec{v:V}(hv:v.j){H:AHeap}:ACalls Tryz.prog noNat 188 [.agg v.cells] H fun r H'=>r=.agg (vUnit v).cells∧Ext H.next H H':=by
 obtain⟨H1,m1,r1,n1,k1⟩:=row_newL H v.cells (n:=3) rfl
 obtain⟨H2,m2,r2,n2,k2⟩:=row_newL H1 (v3 0 0 0) (n:=3) rfl
 obtain⟨_,_,_,p⟩:=ld3 (r1.same (k2 _ om))
 refine acalls_ofN rfl za188 rfl ?_
 simp only[c188,sA,sB,seval,cells_agg,m1,m2,p]
 refine (vlen_spec hv).mono ?_
 rintro _ H3 ⟨rfl,E3⟩
 have e3:=E3.next
 obtain⟨H4,m4,r4,n4,k4⟩:=row_newL H3 [.int .i64 0] (n:=1) rfl
 obtain⟨H5,m5,r5,n5,k5⟩:=row_st r4 (n:=1) rfl (i:=0) om (x:=.int .i64 (vLen v)) rfl (l':=[.int .i64 (vLen v)]) rfl
 have l5:oLoad false 1 H5 (cellR H3.next 1 0)=some (.int .i64 (vLen v)):=row_load r5 rfl rfl
 have k35:∀c,c<H3.next→H5.get c=H3.get c:=fun c hc=>by rw[k5 c om,k4 c om]
 have old:∀c,c<H.next→H5.get c=H.get c:=fun c hc=>by rw[k35 c om,E3.old c om,k2 c om,k1 c om]
 by_cases hz:vLen v=0
 ·obtain⟨H6,m6,r6,n6,k6⟩:=row_storeN (r2.same (H':=H5) (by rw[k35 _ om,E3.old _ om])) (n:=3) rfl (xs:=v3 0 0 0) rfl rfl
  obtain⟨_,_,_,w⟩:=ld3 r6
  simp only[sA,sB,seval,m4,m5,l5,eq_true hz,bl30,m6,fin_cc,OptP_some,w]
  have e:vUnit v=V0:=by unfold vUnit; rw[if_pos hz]
  rw[e]
  exact⟨rfl,⟨om,fun c hc=>by rw[k6 c om,old c hc]⟩⟩
 ·obtain⟨_,_,_,p5⟩:=ld3 ((r1.same (k2 _ om)).same (H':=H5) (by rw[k35 _ om,E3.old _ om]))
  have hj:J64 (vLen v):=(fSqrt_j _).1
  simp only[sA,sB,seval,m4,m5,l5,hz,p5]
  refine (each_spec (v:=v) (u:=v) om (F:=fun a _=>fDiv a (vLen v)) hv hv (caps:=[cellR H3.next 1 0]) fun {_ _ _} e h _=>unit1_spec h hj (r5.same (e.old _ om))).mono ?_
  rintro _ H6 ⟨rfl,E6⟩
  have e6:=E6.next
  obtain⟨H7,m7,r7,n7,k7⟩:=row_storeN (r2.same (H':=H6) (by rw[E6.old _ om,k35 _ om,E3.old _ om])) (n:=3) rfl (xs:=(vOver v (vLen v)).cells) rfl rfl
  obtain⟨_,_,_,w⟩:=ld3 r7
  have m7':oStore 3 H6 (cellR H1.next 3 0) (.agg (vmap (fun a _=>fDiv a (vLen v)) v v).cells)=some H7:=m7
  simp only[sA,sB,seval,m7',fin_cc,OptP_some,w]
  have e:vUnit v=vOver v (vLen v):=by unfold vUnit; rw[if_neg hz]
  rw[e]
  exact⟨rfl,⟨om,fun c hc=>by rw[k7 c om,E6.old c om,old c hc]⟩⟩
theorem vcross_spec{v u:V}(hv:v.j)(hu:u.j){H:AHeap}:ACalls Tryz.prog noNat 189 [.agg v.cells,.agg u.cells] H fun r H'=>r=.agg (vCross v u).cells∧Ext H.next H H':=by
 obtain⟨a,b,c⟩:=v
 obtain⟨x,y,z⟩:=u
 obtain⟨ha,hb,hc⟩:=hv
 obtain⟨hx,hy,hz⟩:=hu
 show ACalls Tryz.prog noNat 189 [.agg (v3 a b c),.agg (v3 x y z)] H _
 obtain⟨H1,m1,r1,n1,k1⟩:=row_newL H (v3 a b c) (n:=3) rfl
 obtain⟨H2,m2,r2,n2,k2⟩:=row_newL H1 (v3 x y z) (n:=3) rfl
 obtain⟨H3,m3,r3,n3,k3⟩:=row_newL H2 (v3 0 0 0) (n:=3) rfl
 obtain⟨p0,p1,p2,_⟩:=ld3 ((r1.same (k2 _ om)).same (k3 _ om))
 obtain⟨q0,q1,q2,_⟩:=ld3 (r2.same (k3 _ om))
 obtain⟨H4,m4,r4,n4,k4⟩:=row_storeN r3 (n:=3) rfl (xs:=v3 (fSub (fMul b z) (fMul c y)) (fSub (fMul c x) (fMul a z)) (fSub (fMul a y) (fMul b x))) rfl rfl
 obtain⟨_,_,_,w⟩:=ld3 r4
 refine acalls_ofN rfl za189 rfl ?_
 simp only[c189,sA,sB,seval,cells_agg,m1,m2,m3]
 refine aw_drawC rfl ?_
 simp only[sR,sA,sB,seval,fld0,fldA,p1,q2]
 refine (mul_spec hb hz).mono ?_
 rintro _ _ ⟨rfl,rfl⟩
 simp only[sR,sA,sB,seval,fld0,fldA,p2,q1]
 refine (mul_spec hc hy).mono ?_
 rintro _ _ ⟨rfl,rfl⟩
 simp only[sR,sA,sB,seval]
 refine (sub_spec (fMul_j ..) (fMul_j ..)).mono ?_
 rintro _ _ ⟨rfl,rfl⟩
 simp only[sR,sA,sB,seval,fld0,fldA,p2,q0]
 refine (mul_spec hc hx).mono ?_
 rintro _ _ ⟨rfl,rfl⟩
 simp only[sR,sA,sB,seval,fld0,fldA,p0,q2]
 refine (mul_spec ha hz).mono ?_
 rintro _ _ ⟨rfl,rfl⟩
 simp only[sR,sA,sB,seval]
 refine (sub_spec (fMul_j ..) (fMul_j ..)).mono ?_
 rintro _ _ ⟨rfl,rfl⟩
 simp only[sR,sA,sB,seval,fld0,fldA,p0,q1]
 refine (mul_spec ha hy).mono ?_
 rintro _ _ ⟨rfl,rfl⟩
 simp only[sR,sA,sB,seval,fld0,fldA,p1,q0]
 refine (mul_spec hb hx).mono ?_
 rintro _ _ ⟨rfl,rfl⟩
 simp only[sR,sA,sB,seval]
 refine (sub_spec (fMul_j ..) (fMul_j ..)).mono ?_
 rintro _ _ ⟨rfl,rfl⟩
 simp only[sR,sA,sB,seval,bl3,m4]
 simp only[ck_nil',ck_cons,ckP_load,ckP_nil,ck_end,and_true,true_and,List.map_cons,List.map_nil,sA,sB,seval,fin_cc,OptP_some,w]
 refine⟨?_,rfl,⟨om,fun c hc=>by rw[k4 c om,k3 c om,k2 c om,k1 c om]⟩⟩
 and_intros <;> first | rfl | exact⟨_,rfl,fun _=>⟨_,by first | exact p0 | exact p1 | exact q1 | exact p2 | exact q2 | exact q0,aeq_int _ _⟩⟩
open Go.Abs Go.Abs.S
open Go.Proofs.Tx (and32 shr32 shl32 shl32w ishl32 ishr32 uw wmul wmulw wadd wsub orU64 lt32_mul halves)
theorem aw_seq_cut{C:CS}(hC:CMono C){a b:ACode}{Q:Post}{T:Env}{H:AHeap}(F:Env→AHeap→Prop)(h:wp C a (inSeq Q F) T H)(k:∀T H,F T H→wp C b Q T H):wp C (.seq a b) Q T H:=
 wp_mono' hC a (inSeq_mono (fun _ _ _ h=>h) fun T H hk=>k T H hk) h
theorem min_if(a b:Int):(if b<a then b else a)=min a b:=om
theorem max_if(a b:Int):(if a<b then b else a)=max a b:=om
theorem pf_maxI(a b:Int):aPf (.mm true) [.int .i64 a,.int .i64 b]=some (.int .i64 (if a<b then b else a)):=by
 simp only[aPf,aMMs,aMM,aMM1,cond_true,ltF_eq]
 by_cases h:a<b <;> simp[h]
open Go.Abs Go.Abs.S
noncomputable section
def c183:AFn:=⟨89,zq [zo 5 (.box (.t 0)),zo 10 (.new [zI 0,zI 0,zI 0,zI 0,zI 0,zI 0])] (.seq (.draw [zf 22 0 5,zl 23 22,zo 24 (.pf (.mm true) [.t 23,zi 1]),zx 25 201 [.t 24],zf 26 1 5,zl 27 26,zo 28 (.pf (.mm true) [.t 27,zi 1]),zx 29 201 [.t 28],zm 11 25,zm 12 29] [[],[],[],[],[],[3],[],[],[],[]]) (zq [zf 30 8 5,zt 31 3 30,zf 32 5 5,zt 33 3 32,zx 34 190 [.t 31,.t 33],zx 35 188 [.t 34],zo 13 (.new [zI 0,zI 0,zI 0]),zp (.store 3 (.t 13) (.t 35))] (zq [zt 36 3 13,zf 37 11 5,zt 38 3 37,zx 39 189 [.t 36,.t 38],zx 40 188 [.t 39],zo 14 (.new [zI 0,zI 0,zI 0]),zp (.store 3 (.t 14) (.t 40))] (zq [zt 41 3 14,zt 42 3 13,zx 43 189 [.t 41,.t 42],zo 15 (.new [zI 0,zI 0,zI 0]),zp (.store 3 (.t 15) (.t 43))] (zq [zm 44 1,zx 45 201 [.t 44],zm 46 3,zx 47 205 [.t 45,.t 46],zm 48 11,zx 49 199 [.t 47,.t 48],zm 16 49] (zq [zm 50 2,zx 51 201 [.t 50],zm 52 4,zx 53 205 [.t 51,.t 52],zm 54 12,zx 55 199 [.t 53,.t 54],zm 17 55] (.seq (.draw [zm 56 16,zm 57 16,zx 58 205 [.t 56,.t 57],zx 59 211 [.t 58,zi 4294967296],zf 60 14 5,zl 61 60,zx 62 196 [.t 59,.t 61],zm 18 62] [[],[],[],[],[],[2,3],[],[]]) (zq [zf 63 14 5,zl 64 63,zm 65 12,zx 66 196 [.t 64,.t 65],zm 67 11,zx 68 199 [.t 66,.t 67],zm 19 68] (zq [zm 69 17,zm 70 17,zx 71 205 [.t 69,.t 70],zx 72 211 [zi 4294967296,.t 71],zm 73 19,zx 74 196 [.t 72,.t 73],zm 20 74] (.seq (.draw [zt 75 3 13,zt 76 3 14,zm 77 18,zx 78 191 [.t 76,.t 77],zt 79 3 15,zm 80 20,zx 81 191 [.t 79,.t 80],zx 82 186 [.t 78,.t 81],zx 83 186 [.t 75,.t 82],zo 21 (.new [zI 0,zI 0,zI 0]),zp (.store 3 (.t 21) (.t 83))] [[6,7,8],[],[],[],[3],[],[],[],[],[3,6,7,8],[]]) (.seq (.draw [zf 84 5 5,zt 85 3 84,zt 86 3 21,zx 87 188 [.t 86],zo 88 (.build [zI 0,zI 0,zI 0,zI 0,zI 0,zI 0] [(0,3,.t 85),(3,3,.t 87)]),zp (.store 6 (.t 10) (.t 88))] [[],[5],[],[],[],[]]) .ret))))))))))),[.cell true 6 10]⟩
theorem za183:cN Tryz.prog 183=some c183:=by kernel_rfl
def c127:AFn:=⟨5,zq [zo 1 (.box (.t 0)),zo 2 (.new [zI 0,zI 0,zI 0])] (zq [zt 3 3 1,zx 4 197 [.t 3,.f 198],zp (.store 3 (.t 2) (.t 4))] .ret),[.cell true 3 2]⟩
theorem za127:cN Tryz.prog 127=some c127:=by kernel_rfl
def c197:AFn:=⟨18,zq [zo 2 (.box (.t 0)),zo 4 (.new [zI 0,zI 0,zI 0])] (.seq (.draw [zm 5 1,zf 6 0 2,zl 7 6,zo 8 (.callv (.t 5) [.t 7]),zm 9 1,zf 10 1 2,zl 11 10,zo 12 (.callv (.t 9) [.t 11]),zm 13 1,zf 14 2 2,zl 15 14,zo 16 (.callv (.t 13) [.t 15]),zo 17 (.build [zI 0,zI 0,zI 0] [(0,1,.t 8),(1,1,.t 12),(2,1,.t 16)]),zp (.store 3 (.t 4) (.t 17))] [[],[],[],[],[],[],[3],[],[],[],[3,7],[],[],[]]) .ret),[.cell true 3 4]⟩
theorem za197:cN Tryz.prog 197=some c197:=by kernel_rfl
def c198:AFn:=⟨6,zq [zo 2 (.mv (zi 0))] (zq [zm 3 0,zo 4 (.pf (.mm true) [.t 3,zi 0]),zo 5 (.pf (.mm false) [.t 4,zi 4294967296]),zm 2 5] .ret),[.t 2]⟩
theorem za198:cN Tryz.prog 198=some c198:=by kernel_rfl
def c130:AFn:=⟨27,zq [zo 2 (.box (.t 0)),zo 4 (.new [zU 0,zU 0,zU 0,zU 0])] (zq [zm 8 1,zo 9 (.pf (.mm true) [.t 8,zi 1]),zx 10 201 [.t 9],zo 5 (.new [zI 0]),zs 5 10] (zq [zt 11 3 2,zo 12 (.mkFunc (.func 202) [] [.t 5]),zx 13 197 [.t 11,.t 12],zo 6 (.new [zI 0,zI 0,zI 0]),zp (.store 3 (.t 6) (.t 13))] (zq [zt 14 3 6,zx 15 127 [.t 14],zx 16 197 [.t 15,.f 203],zo 7 (.new [zI 0,zI 0,zI 0]),zp (.store 3 (.t 7) (.t 16))] (zq [zf 17 0 7,zl 18 17,zv 19 .u8 18,zf 20 1 7,zl 21 20,zv 22 .u8 21,zf 23 2 7,zl 24 23,zv 25 .u8 24,zo 26 (.build [zU 0,zU 0,zU 0,zU 0] [(0,1,.t 19),(1,1,.t 22),(2,1,.t 25),(3,1,zu 255)]),zp (.store 4 (.t 4) (.t 26))] .ret)))),[.cell true 4 4]⟩
theorem za130:cN Tryz.prog 130=some c130:=by kernel_rfl
def c202:AFn:=⟨7,zq [zo 3 (.mv (zi 0))] (zq [zm 4 0,zl 5 1,zx 6 199 [.t 4,.t 5],zm 3 6] .ret),[.t 3]⟩
theorem za202:cN Tryz.prog 202=some c202:=by kernel_rfl
def c203:AFn:=⟨8,zq [zo 2 (.mv (zi 0))] (zq [zm 3 0,zx 4 201 [zi 255],zx 5 196 [.t 3,.t 4],zx 6 205 [.t 5,zi 2147483648],zx 7 204 [.t 6],zm 2 7] .ret),[.t 2]⟩
theorem za203:cN Tryz.prog 203=some c203:=by kernel_rfl
end
open Go.Abs Go.Abs.S
open Go.Proofs.Tx (and32 shr32 shl32 shl32w ishl32 ishr32 uw wmul wmulw wadd wsub orU64 lt32_mul halves)
theorem xorU{a b:Nat}(ha:a<18446744073709551616)(hb:b<18446744073709551616):aBin .xor (.int .u64 (a:Int)) (.int .u64 (b:Int))=some (.int .u64 ((a ^^^ b:Nat):Int)):=bin_xorU .u64 (by simp) (by simpa[IntKind.bits] using ha) (by simpa[IntKind.bits] using hb)
theorem xor_lt{a b:Nat}(ha:a<18446744073709551616)(hb:b<18446744073709551616):a ^^^ b<18446744073709551616:=Nat.xor_lt_two_pow (n:=64) ha hb
theorem mix_lt(x:Nat):mixN x<18446744073709551616:=by
 unfold mixN
 simp only
 have h:∀y z,(y*z) % 18446744073709551616<18446744073709551616:=fun y z=>Nat.mod_lt _ dD
 exact xor_lt (h _ _) (Nat.lt_of_le_of_lt (Nat.div_le_self _ _) (h _ _))
theorem mix_spec{x:Nat}(hx:x<18446744073709551616){H:AHeap}:ACalls Tryz.prog noNat 332 [.int .u64 (x:Int)] H fun v H'=>v=.int .u64 (mixN x:Int)∧H=H':=by
 refine acalls_ofN rfl za332 rfl ?_
 have e30:=fun x=>shrN .u64 .u64 x (b:=30) dD
 have e27:=fun x=>shrN .u64 .u64 x (b:=27) dD
 have e31:=fun x=>shrN .u64 .u64 x (b:=31) dD
 simp only[Int.cast_ofNat_Int]at e30 e27 e31
 have hd:∀{y:Nat} (k:Nat),y<18446744073709551616→y / 2 ^ k<18446744073709551616:=fun k h=>Nat.lt_of_le_of_lt (Nat.div_le_self _ _) h
 have m1:∀y:Nat,IntKind.u64.wrap ((y:Int)*13787848793156543929)=((y*13787848793156543929 % 18446744073709551616:Nat):Int):=fun y=>wmulw y 13787848793156543929
 have m2:∀y:Nat,IntKind.u64.wrap ((y:Int)*10723151780598845931)=((y*10723151780598845931 % 18446744073709551616:Nat):Int):=fun y=>wmulw y 10723151780598845931
 obtain⟨x1,h1⟩:∃y,y=(x ^^^ x / 2 ^ 30)*13787848793156543929 % 18446744073709551616:=⟨_,rfl⟩
 have l1:x1<18446744073709551616:=by rw[h1]; exact Nat.mod_lt _ dD
 obtain⟨x2,h2⟩:∃y,y=(x1 ^^^ x1 / 2 ^ 27)*10723151780598845931 % 18446744073709551616:=⟨_,rfl⟩
 have l2:x2<18446744073709551616:=by rw[h2]; exact Nat.mod_lt _ dD
 have a1:=xorU hx (hd 30 hx)
 have a2:=xorU l1 (hd 27 l1)
 have a3:=xorU l2 (hd 31 l2)
 have e:mixN x=x2 ^^^ x2 / 2 ^ 31:=by unfold mixN; subst h2 h1; rfl
 simp only[c332,sA,sB,Int.reduceNegSucc,reduceCtorEq,Nat.reduceEqDiff,↓reduceIte,Nat.reduceAdd,Int.reduceEq,Int.reduceLT,Int.reduceLE,Nat.reduceLT,e30,a1,m1,← h1,e27,a2,m2,← h2,e31,a3,e]
 exact⟨tt,tt⟩
def mixG(x:Nat)(n:Int):Nat:=mixN ((x+u64 n+11400714819323198485) % 18446744073709551616)
theorem u64_wrap(n:Int):IntKind.u64.wrap n=(u64 n:Int):=by unfold u64; rw[IntKind.wrap_u64]; omega
theorem mixed_spec{seed:Nat}(hs:seed<18446744073709551616){l:List Int}(hl:l.length≤100){s:AVal}{H:AHeap}(c:Cel H.next H s (l.map (AVal.int .i64))) :
  ACalls Tryz.prog noNat 295 [.int .u64 (seed:Int),s] H fun v H'=>v=.int .u64 (mixedN seed l:Int)∧H=H':=by
 refine acalls_ofN rfl za295 rfl ?_
 have w0:IntKind.u64.wrap ((seed:Int)+11400714819323198485)=((( seed+11400714819323198485) % 18446744073709551616:Nat):Int):=by rw[IntKind.wrap_u64]; omega
 simp only[c295,sW,sL,sXs,sXO,sXP,sB,seval,w0]
 refine (mix_spec (Nat.mod_lt _ dD)).mono ?_
 rintro _ _ ⟨rfl,rfl⟩
 obtain⟨x0,hx0⟩:∃x,x=mixN ((seed+11400714819323198485) % 18446744073709551616):=⟨_,rfl⟩
 have l0:x0<18446744073709551616:=by rw[hx0]; exact mix_lt _
 have ef:mixedN seed l=l.foldl mixG x0:=by rw[hx0]; rfl
 have hlen:=c.len
 simp only[List.length_map]at hlen
 rw[← hx0,ef]
 simp only[sW,sL,sXs,sXO,sXP,sB,seval,hlen]
 rw[aw_block]
 refine aw_cut (fun (T:Env) H'=>T 5=.int .u64 (l.foldl mixG x0:Nat)∧H=H') (calls_mono _ _) ?_ ?_
 rotate_left
 ·rintro T _ ⟨t5,rfl⟩
  simp only[sA,sB,seval,t5]; exact⟨tt,tt⟩
 refine aw_loop (fun m (T:Env) H'=>H=H'∧∃(i x:Nat),m=l.length-i∧i≤l.length∧T 5=.int .u64 (x:Int)∧T 11=s∧T 12=.int .i64 (l.length:Int)∧T 13=.int .i64 (i:Int)∧x<18446744073709551616∧(l.drop i).foldl mixG x=l.foldl mixG x0) l.length ⟨rfl,0,x0,rfl,Nat.zero_le _,tt,tt,tt,tt,l0,rfl⟩ ?_
 rintro m T _ ⟨rfl,i,x,rfl,hi,t5,t11,t12,t13,hx,hf⟩
 by_cases hlt:i<l.length
 ·have hlt':(i:Int)<(l.length:Int):=om
  have hg:l[i]?=some l[i]:=List.getElem?_eq_getElem hlt
  have ip:=c.idx .i64 (i:=i) (by simpa using hlt)
  have lp:=c.load (i:=i) (x:=.int .i64 l[i]) (by simp[hg])
  have w1:IntKind.u64.wrap (((x:Int))+(u64 l[i]:Int))=((W (x+u64 l[i]):Nat):Int):=waddw
  have w2:IntKind.u64.wrap (((W (x+u64 l[i]):Nat):Int)+11400714819323198485)=((( x+u64 l[i]+11400714819323198485) % 18446744073709551616:Nat):Int):=by unfold W; rw[IntKind.wrap_u64]; omega
  have w3:IntKind.i64.wrap ((i:Int)+1)=((i+1:Nat):Int):=wrap1 i om
  simp only[sA,sB,seval,t5,t11,t12,t13,hlt',ip,lp,u64_wrap,w1,w2]
  refine (mix_spec (Nat.mod_lt _ dD)).mono ?_
  rintro _ _ ⟨rfl,rfl⟩
  simp only[sA,sB,seval,t11,t12,t13,w3]
  refine⟨l.length-(i+1),om,tt,i+1,mixG x l[i],rfl,om,tt,tt,tt,tt,mix_lt _,?_⟩
  rw[← hf,List.drop_eq_getElem_cons hlt,List.foldl_cons]
 ·have hlt':¬(i:Int)<(l.length:Int):=om
  simp only[sA,sB,seval,t5,t12,t13,hlt']
  rw[List.drop_eq_nil_of_le om]at hf
  rw[← hf]; exact⟨tt,tt⟩
open Go.Abs Go.Abs.S
open Go.Proofs.Tx (and32 shr32 shl32 shl32w ishl32 ishr32 uw wmul wmulw wadd wsub orU64 lt32_mul halves)
theorem foldl_lt:∀(l:List Int) (x:Nat),x<18446744073709551616→l.foldl mixG x<18446744073709551616
 | [],x,h=>h
 | n::l,x,_=>foldl_lt l (mixG x n) (mix_lt _)
theorem mixed_lt(seed:Nat)(l:List Int):mixedN seed l<18446744073709551616:=foldl_lt l _ (mix_lt _)
theorem drawF_j(seed:Nat)(a b c:Int):J64 (drawF seed a b c)∧0≤drawF seed a b c∧drawF seed a b c<4294967296:=by
 have:=mixed_lt seed [a,b,c]
 unfold drawF J64
 omega
theorem sls3(H:AHeap)(a b c:Int):aBuildSl 3 [.int .i64 0] H [(0,1,.int .i64 a),(1,1,.int .i64 b),(2,1,.int .i64 c)]=some (slR H.next 3 (.known 3),H.push (.cells [.int .i64 a,.int .i64 b,.int .i64 c] 0 false)):=_root_.id rfl
theorem draw_spec{seed:Nat}(hs:seed<18446744073709551616){a b c:Int}{H:AHeap}:ACalls Tryz.prog noNat 250 [.int .u64 (seed:Int),.int .i64 a,.int .i64 b,.int .i64 c] H fun v H'=>v=.int .i64 (drawF seed a b c)∧Ext H.next H H':=by
 refine acalls_ofN rfl za250 rfl ?_
 have cl:Cel (H.push (.cells [.int .i64 a,.int .i64 b,.int .i64 c] 0 false)).next (H.push (.cells [.int .i64 a,.int .i64 b,.int .i64 c] 0 false)) (slR H.next 3 (.known 3)) ([a,b,c].map (AVal.int .i64)):=(row_push H [.int .i64 a,.int .i64 b,.int .i64 c]).cel rfl (Nat.lt_succ_self _)
 simp only[c250,sA,sB,seval,sls3]
 refine (mixed_spec hs (by simp) cl).mono ?_
 rintro _ _ ⟨rfl,rfl⟩
 have hm:=mixed_lt seed [a,b,c]
 have w:IntKind.i64.wrap ((mixedN seed [a,b,c] / 4294967296:Nat):Int)=((mixedN seed [a,b,c] / 4294967296:Nat):Int):=wrap64 om om
 simp only[sA,sB,seval,shr32,w]
 exact⟨rfl,(Ext.refl _ _).push rL _⟩
theorem leach_spec{f:Nat}(hf:f<1024){F:Int→Int}{caps:List AVal}{v:V}(hv:v.j){H:AHeap}
  (hF:∀{a:Int} {K:AHeap},Ext H.next H K→J64 a→ACalls Tryz.prog noNat f ([.int .i64 a]++caps) K fun r K'=>r=.int .i64 (F a)∧K=K') :
  ACalls Tryz.prog noNat 197 [.agg v.cells,.func (.func f) [] caps] H fun r H'=>r=.agg (V.mk (F v.x) (F v.y) (F v.z)).cells∧Ext H.next H H':=by
 obtain⟨a,b,c⟩:=v
 obtain⟨ha,hb,hc⟩:=hv
 show ACalls Tryz.prog noNat 197 [.agg (v3 a b c),.func (.func f) [] caps] H fun r H'=>r=.agg (v3 (F a) (F b) (F c))∧Ext H.next H H'
 obtain⟨H1,m1,r1,n1,k1⟩:=row_newL H (v3 a b c) (n:=3) rfl
 obtain⟨H3,m3,r3,n3,k3⟩:=row_newL H1 (v3 0 0 0) (n:=3) rfl
 have E3:Ext H.next H H3:=⟨om,fun c hc=>by rw[k3 c om,k1 c om]⟩
 obtain⟨p0,p1,p2,_⟩:=ld3 (r1.same (k3 _ om))
 obtain⟨H4,m4,r4,n4,k4⟩:=row_storeN r3 (n:=3) rfl (xs:=v3 (F a) (F b) (F c)) rfl rfl
 obtain⟨_,_,_,w⟩:=ld3 r4
 refine acalls_ofN rfl za197 rfl ?_
 simp only[c197,sA,sB,seval,cells_agg,m1,m3]
 refine aw_drawC rfl ?_
 simp only[sR,sA,sB,seval,fld0,fldA,p0,hf,List.nil_append]
 refine (hF E3 ha).mono ?_
 rintro _ _ ⟨rfl,rfl⟩
 simp only[sR,sA,sB,seval,fld0,fldA,p1,hf,List.nil_append]
 refine (hF E3 hb).mono ?_
 rintro _ _ ⟨rfl,rfl⟩
 simp only[sR,sA,sB,seval,fld0,fldA,p2,hf,List.nil_append]
 refine (hF E3 hc).mono ?_
 rintro _ _ ⟨rfl,rfl⟩
 simp only[sR,sA,sB,seval,bl3,m4]
 simp only[ck_nil',ck_cons,ckP_load,ckP_nil,ck_end,and_true,true_and,List.map_cons,List.map_nil,sA,sB,seval,fin_cc,OptP_some,w]
 refine⟨?_,⟨om,fun c hc=>by rw[k4 c om,E3.old c hc]⟩⟩
 and_intros <;> first | rfl | exact⟨_,rfl,fun _=>⟨_,by first | exact p1 | exact p2,aeq_int _ _⟩⟩
theorem clamp1_spec{a:Int}{H:AHeap}:ACalls Tryz.prog noNat 198 [.int .i64 a] H fun r H'=>r=.int .i64 (clampI a)∧H=H':=by
 refine acalls_ofN rfl za198 rfl ?_
 simp only[c198,sA,sB,seval,pf_maxI,min_if,max_if]; exact⟨tt,tt⟩
theorem clampI_j(x:Int):J64 (clampI x):=by unfold clampI J64; omega
theorem vClamp_j(v:V):(vClamp v).j:=⟨clampI_j _,clampI_j _,clampI_j _⟩
theorem clamp_spec{v:V}(hv:v.j){H:AHeap}:ACalls Tryz.prog noNat 127 [.agg v.cells] H fun r H'=>r=.agg (vClamp v).cells∧Ext H.next H H':=by
 obtain⟨H1,m1,r1,n1,k1⟩:=row_newL H v.cells (n:=3) rfl
 obtain⟨H2,m2,r2,n2,k2⟩:=row_newL H1 (v3 0 0 0) (n:=3) rfl
 obtain⟨_,_,_,p⟩:=ld3 (r1.same (k2 _ om))
 refine acalls_ofN rfl za127 rfl ?_
 simp only[c127,sA,sB,seval,cells_agg,m1,m2,p]
 refine (leach_spec (v:=v) om (F:=clampI) hv (caps:=[]) fun {_ _} _ _=>clamp1_spec).mono ?_
 rintro _ H4 ⟨rfl,E4⟩
 obtain⟨H5,m5,r5,n5,k5⟩:=row_storeN (r2.same (E4.old _ om)) (n:=3) rfl (xs:=(vClamp v).cells) rfl rfl
 obtain⟨_,_,_,w⟩:=ld3 r5
 have m5':oStore 3 H4 (cellR H1.next 3 0) (.agg (V.mk (clampI v.x) (clampI v.y) (clampI v.z)).cells)=some H5:=m5
 simp only[sA,sB,seval,m5',fin_cc,OptP_some,w]
 exact⟨rfl,⟨by have:=E4.next; omega,fun c hc=>by rw[k5 c om,E4.old c om,k2 c om,k1 c om]⟩⟩
theorem pixel1_spec{a s:Int}(ha:J64 a)(hs:J64 s){cb:Nat}{H:AHeap}(r:Row H cb [.int .i64 s]):ACalls Tryz.prog noNat 202 [.int .i64 a,cellR cb 1 0] H fun r H'=>r=.int .i64 (fDiv a s)∧H=H':=by
 refine acalls_ofN rfl za202 rfl ?_
 have l:oLoad false 1 H (cellR cb 1 0)=some (.int .i64 s):=row_load r rfl rfl
 simp only[c202,sA,sB,seval,l]
 refine (div_spec ha hs).mono ?_
 rintro _ _ ⟨rfl,rfl⟩
 simp only[sA,sB,seval]; exact⟨tt,tt⟩
def byteF(x:Int):Int:=fFloor (fAdd (fMul x (fOf 255)) 2147483648)
theorem pixel2_spec{a:Int}(ha:J64 a){H:AHeap}:ACalls Tryz.prog noNat 203 [.int .i64 a] H fun r H'=>r=.int .i64 (byteF a)∧H=H':=by
 refine acalls_ofN rfl za203 rfl ?_
 simp only[c203,sA,sB,seval]
 refine of_spec.mono ?_
 rintro _ _ ⟨rfl,rfl⟩
 simp only[sA,sB,seval]
 refine (mul_spec ha (fOf_j 255)).mono ?_
 rintro _ _ ⟨rfl,rfl⟩
 simp only[sA,sB,seval]
 refine (add_spec (fMul_j ..) ⟨by decide,by decide⟩).mono ?_
 rintro _ _ ⟨rfl,rfl⟩
 simp only[sA,sB,seval]
 refine floor_spec.mono ?_
 rintro _ _ ⟨rfl,rfl⟩
 simp only[sA,sB,seval]; exact⟨rfl,tt⟩
def pixC(p:Int×Int×Int):List AVal:=[.int .u8 p.1,.int .u8 p.2.1,.int .u8 p.2.2,.int .u8 255]
theorem pixel_spec{v:V}(hv:v.j){n:Int}{H:AHeap}:ACalls Tryz.prog noNat 130 [.agg v.cells,.int .i64 n] H fun r H'=>r=.agg (pixC (pixelF v n))∧Ext H.next H H':=by
 obtain⟨H1,m1,r1,n1,k1⟩:=row_newL H v.cells (n:=3) rfl
 obtain⟨H2,m2,r2,n2,k2⟩:=row_newL H1 [.int .u8 0,.int .u8 0,.int .u8 0,.int .u8 0] (n:=4) rfl
 refine acalls_ofN rfl za130 rfl ?_
 simp only[c130,sA,sB,seval,cells_agg,m1,m2,pf_maxI,max_if]
 refine of_spec.mono ?_
 rintro _ _ ⟨rfl,rfl⟩
 have js:J64 (fOf (max n 1)):=fOf_j _
 obtain⟨s,hs⟩:∃s,s=fOf (max n 1):=⟨_,rfl⟩
 rw[← hs]at js ⊢
 obtain⟨H3,m3,r3,n3,k3⟩:=row_newL H2 [.int .i64 0] (n:=1) rfl
 obtain⟨H4,m4,r4,n4,k4⟩:=row_st r3 (n:=1) rfl (i:=0) om (x:=.int .i64 s) rfl (l':=[.int .i64 s]) rfl
 obtain⟨_,_,_,p4⟩:=ld3 (r1.same (H':=H4) (by rw[k4 _ om,k3 _ om,k2 _ om]))
 simp only[sA,sB,seval,m3,m4,p4]
 refine (leach_spec (v:=v) om (F:=fun a=>fDiv a s) hv (caps:=[cellR H2.next 1 0]) fun {_ _} e h=>pixel1_spec h js (r4.same (e.old _ om))).mono ?_
 rintro _ H5 ⟨rfl,E5⟩
 have e5:=E5.next
 obtain⟨H6,m6,r6,n6,k6⟩:=row_newL H5 (v3 0 0 0) (n:=3) rfl
 obtain⟨H7,m7,r7,n7,k7⟩:=row_storeN r6 (n:=3) rfl (xs:=(vOver v s).cells) rfl rfl
 obtain⟨_,_,_,p7⟩:=ld3 r7
 have m7':oStore 3 H6 (cellR H5.next 3 0) (.agg (V.mk (fDiv v.x s) (fDiv v.y s) (fDiv v.z s)).cells)=some H7:=m7
 simp only[sA,sB,seval,m6,m7',p7]
 refine (clamp_spec (v:=vOver v s) (vOver_j v s)).mono ?_
 rintro _ H8 ⟨rfl,E8⟩
 have e8:=E8.next
 simp only[sA,sB,seval]
 refine (leach_spec (v:=vClamp (vOver v s)) om (F:=byteF) (vClamp_j _) (caps:=[]) fun {_ _} _ h=>pixel2_spec h).mono ?_
 rintro _ H9 ⟨rfl,E9⟩
 have e9:=E9.next
 obtain⟨Ha,ma,ra,na,ka⟩:=row_newL H9 (v3 0 0 0) (n:=3) rfl
 obtain⟨Hb,mb,rb,nb,kb⟩:=row_storeN ra (n:=3) rfl (xs:=v3 (byteF (vClamp (vOver v s)).x) (byteF (vClamp (vOver v s)).y) (byteF (vClamp (vOver v s)).z)) rfl rfl
 obtain⟨q0,q1,q2,_⟩:=ld3 rb
 have mb':oStore 3 Ha (cellR H9.next 3 0) (.agg (V.mk (byteF (vClamp (vOver v s)).x) (byteF (vClamp (vOver v s)).y) (byteF (vClamp (vOver v s)).z)).cells)=some Hb:=mb
 have old:∀c,c<H4.next→Hb.get c=H4.get c:=fun c hc=>by rw[kb c om,ka c om,E9.old c om,E8.old c om,k7 c om,k6 c om,E5.old c om]
 have w8:∀x:Int,IntKind.u8.wrap x=x % 256:=fun x=>by rw[IntKind.wrap_u8]
 have bd:∀a b c:Int,aBuild [.int .u8 0,.int .u8 0,.int .u8 0,.int .u8 0] [(0,1,.int .u8 a),(1,1,.int .u8 b),(2,1,.int .u8 c),(3,1,.int .u8 255)]=some (.agg [.int .u8 a,.int .u8 b,.int .u8 c,.int .u8 255]):=fun _ _ _=>rfl
 obtain⟨Hc,mc,rc,nc,kc⟩:=row_storeN (r2.same (H':=Hb) (by rw[old _ om,k4 _ om,k3 _ om])) (n:=4) rfl (xs:=pixC (byteF (vClamp (vOver v s)).x % 256,byteF (vClamp (vOver v s)).y % 256,byteF (vClamp (vOver v s)).z % 256)) rfl rfl
 have lc:=row_loadN rc (n:=4) rfl
 unfold pixC at mc lc
 simp only[sA,sB,seval,ma,mb',fld0,fldA,q0,q1,q2,w8,bd,mc,fin_cc,OptP_some,lc]
 refine⟨?_,⟨om,fun c hc=>by rw[kc c om,old c om,k4 c om,k3 c om,k2 c om,k1 c om]⟩⟩
 subst hs
 rfl
open Go.Abs Go.Abs.S
theorem aeq_V(v:V):aeq (.agg v.cells) (.agg v.cells)=true:=aeq_v3 ..
theorem ld3V{H:AHeap}{b:Nat}{v:V}(r:Row H b v.cells):oLoad true 3 H (cellR b 3 0)=some (.agg v.cells):=row_loadN r rfl
theorem resO_0(z:List AVal):resO z none=.cells z 0 false:=_root_.id rfl
theorem clOp_new(b:Nat)(z z':List AVal)(s:Option (Nat×Nat)):clOp b z s (.new z')=.claim b z s:=_root_.id rfl
end Go.Proofs.Tc
