/- Part of a proof (W0 W1 YW2 YW3 YW4 YW5 YW6 YW7 YW8 YW9 YWA YWB YWD YWE YWF); no condition. -/
import Derived.Test.YtfleblkgifoeaaaGreatDoorP7
set_option linter.unusedSimpArgs false
set_option linter.unusedVariables false
set_option linter.unnecessarySimpa false
namespace Go.Proofs.Wo
open Go.Abs Go.Abs.S
abbrev Bs:=List UInt8
def dq(b:UInt8):Bool:=decide (48<=b.toNat)&&decide (b.toNat<=57)
def beg(b:UInt8):Bool:=((decide (97<=b.toNat)&&decide (b.toNat<=122))||(decide (65<=b.toNat)&&decide (b.toNat<=90)))||decide (b.toNat=95)
def iE(b:UInt8):Bool:=beg b||dq b
def blk(b:UInt8):Bool:=((decide (b.toNat=9)||decide (b.toNat=10))||decide (b.toNat=13))||decide (b.toNat=32)
def nZ(b:UInt8):Bool:=!decide (b.toNat=10)
def bk(p:UInt8->Bool)(s:Bs)(at_:Nat):Nat:=at_+((s.drop at_).takeWhile p).length
theorem dR{s:Bs}{i:Nat}{c:UInt8}(h:s[i]?=some c):s.drop i=c::s.drop (i+1):=by
 have hlt:=(QR.1 h).1
 rw[List.drop_eq_getElem_cons hlt]
 congr 1
 rw[QQ hlt]at h
 simpa using h
theorem fJ{p:UInt8->Bool}{s:Bs}{i:Nat}{c:UInt8}(h:s[i]?=some c)(hp:p c=true):bk p s i=bk p s (i+1):=by
 unfold bk
 rw[dR h,List.takeWhile_cons_of_pos hp,QU]
 omega
theorem kC{p:UInt8->Bool}{s:Bs}{i:Nat}{c:UInt8}(h:s[i]?=some c)(hp:p c=false):bk p s i=i:=by
 unfold bk
 rw[dR h,List.takeWhile_cons_of_neg (by simp[hp])]
 simp
theorem lB{p:UInt8->Bool}{s:Bs}{i:Nat}(h:s.length<=i):bk p s i=i:=by
 unfold bk
 rw[List.drop_eq_nil_of_le h]
 simp
theorem fd(p:UInt8->Bool)(s:Bs)(i:Nat):i<=bk p s i:=Nat.le_add_right _ _
theorem eZ{p:UInt8->Bool}{s:Bs}{i:Nat}(h:i<=s.length):bk p s i<=s.length:=by
 unfold bk
 have:=(List.takeWhile_sublist (p:=p) (l:=s.drop i)).length_le
 simp only[Ra]at this
 omega
theorem B9{p:UInt8->Bool}{s:Bs}{i j:Nat}(h1:i<=j)(h2:j<bk p s i):∃c,s[j]?=some c/\p c=true:=by
 unfold bk at h2
 have hj:j-i<((s.drop i).takeWhile p).length:=om
 have hm:=List.getElem_mem hj
 have hp:=List.all_takeWhile (p:=p) (l:=s.drop i)
 refine⟨((s.drop i).takeWhile p)[j-i],?_,List.all_eq_true.1 hp _ hm⟩
 obtain⟨t,ht⟩:=List.takeWhile_prefix p (l:=s.drop i)
 have:(s.drop i)[j-i]?=some ((s.drop i).takeWhile p)[j-i]:=by
  conv=>lhs; rw[<- ht]
  rw[Q6 hj,QQ hj]
 rw[List.getElem?_drop,show i+(j-i)=j by omega]at this
 exact this
theorem rU{p:UInt8->Bool}{s:Bs}{i:Nat}{c:UInt8}(h:s[bk p s i]?=some c):p c=false:=by
 unfold bk at h
 rw[<- List.getElem?_drop]at h
 generalize s.drop i=l at h
 induction l with
 | nil=>simp at h
 | cons a l ih=>
  cases ha:p a with
  | true=>
   rw[List.takeWhile_cons_of_pos ha]at h
   simp only[QU,Q0]at h
   exact ih h
  | false=>
   rw[List.takeWhile_cons_of_neg (by simp[ha])]at h
   simp only[QV,QZ,sJ]at h
   rw[<- h]; exact ha
def dk(s:Bs)(i:Nat):Nat:=
 if bk dq s i=i∨s[bk dq s i]?≠some 46 then bk dq s i
 else if bk dq s i+1<bk dq s (bk dq s i+1) then bk dq s (bk dq s i+1) else bk dq s i
theorem Cq(s:Bs)(i:Nat):i<=dk s i:=by
 unfold dk
 have h1:=fd dq s i
 have h2:=fd dq s (bk dq s i+1)
 split
 ·exact h1
 ·split <;> omega
theorem oO{s:Bs}{i:Nat}(h:i<=s.length):dk s i<=s.length:=by
 unfold dk
 have h1:=eZ (p:=dq) h
 split
 ·exact h1
 ·rename_i hn
  have hs:s[bk dq s i]?=some 46:=by
   by_cases c:s[bk dq s i]?=some 46
   ·exact c
   ·exact absurd (.inr c) hn
  have hlt:=(QR.1 hs).1
  split
  ·exact eZ om
  ·exact h1
mutual
def bl:Bs->Bs
 | []=>[]
 | c::r=>if blk c then bl r else if c.toNat=35 then rm r else c::r
def rm:Bs->Bs
 | []=>[]
 | c::r=>if c.toNat=10 then bl r else rm r
end
def ba(s:Bs)(i:Nat):Nat:=s.length-(bl (s.drop i)).length
mutual
theorem HT:∀l:Bs,(bl l).length<=l.length
 | []=>by simp[bl]
 | c::r=>by
  have h1:=HT r
  have h2:=KM r
  simp only[bl]
  split
  ·simp; omega
  ·split
   ·simp; omega
   ·simp
theorem KM:∀l:Bs,(rm l).length<=l.length
 | []=>by simp[rm]
 | c::r=>by
  have h1:=HT r
  have h2:=KM r
  simp only[rm]
  split
  ·simp; omega
  ·simp; omega
end
theorem FW{s:Bs}{i:Nat}(h:i<=s.length):i<=ba s i:=by
 unfold ba
 have:=HT (s.drop i)
 simp only[Ra]at this
 omega
theorem lr(s:Bs)(i:Nat):ba s i<=s.length:=by unfold ba; omega
theorem Ak{s:Bs}{i:Nat}{c:UInt8}(h:s[i]?=some c)(hb:blk c=true):ba s i=ba s (i+1):=by
 unfold ba
 rw[dR h,bl,if_pos hb]
theorem pH{s:Bs}{i:Nat}{c:UInt8}(h:s[i]?=some c)(hb:blk c=false)(hc:c.toNat≠35):ba s i=i:=by
 have hlt:=(QR.1 h).1
 unfold ba
 rw[dR h,bl,if_neg (by simp[hb]),if_neg hc,<- dR h,Ra]
 omega
theorem xM{s:Bs}{i:Nat}(h:s.length=i):ba s i=i:=by
 unfold ba
 rw[List.drop_eq_nil_of_le om,bl]
 simp; omega
theorem FV(s:Bs)(i:Nat):ba s (bk blk s i)=ba s i:=by
 have key:∀l:Bs,bl (l.drop (l.takeWhile blk).length)=bl l:=by
  intro l
  induction l with
  | nil=>simp
  | cons a l ih=>
   cases ha:blk a with
   | true=>rw[List.takeWhile_cons_of_pos ha,QU,List.drop_succ_cons,ih,bl,if_pos ha]
   | false=>rw[List.takeWhile_cons_of_neg (by simp[ha])]; simp
 unfold ba bk
 rw[<- List.drop_drop,key]
theorem Ge:∀l:Bs,rm l=bl (l.drop (l.takeWhile nZ).length)
 | []=>by simp[rm,bl]
 | c::r=>by
  by_cases h:c.toNat=10
  ·have hn:nZ c=false:=by simp[nZ,h]
   have hb:blk c=true:=by simp[blk,h]
   rw[rm,if_pos h,List.takeWhile_cons_of_neg (by simp[hn]),QV,List.drop_zero,bl,if_pos hb]
  ·have hn:nZ c=true:=by simp[nZ,h]
   rw[rm,if_neg h,List.takeWhile_cons_of_pos hn,QU,List.drop_succ_cons,Ge r]
theorem qo{s:Bs}{i:Nat}{c:UInt8}(h:s[i]?=some c)(hc:c.toNat=35):ba s i=ba s (bk nZ s i):=by
 have hb:blk c=false:=by simp[blk,hc]
 have hn:nZ c=true:=by simp[nZ,hc]
 rw[fJ h hn]
 unfold ba bk
 rw[dR h,bl,if_neg (by simp[hb]),if_pos hc,Ge,List.drop_drop]
def bz(s:Bs)(i:Nat):Nat:=1+(s.take i).count 10
theorem Ej{s:Bs}{i:Nat}{c:UInt8}(h:s[i]?=some c):bz s (i+1)=bz s i+if c.toNat=10 then 1 else 0:=by
 unfold bz
 rw[List.take_add_one,h,Option.toList_some,List.count_append,List.count_singleton]
 have e:(c==(10:UInt8))=decide (c.toNat=10):=by
  rw[Bool.eq_iff_iff,beq_iff_eq,Q2]
  constructor
  ·intro h; rw[h]; rfl
  ·intro h; exact UInt8.toNat_inj.1 h
 rw[e]
 by_cases hc:c.toNat=10
 ·simp[hc]; omega
 ·simp[hc]
def dv(c:UInt8):Nat:=c.toNat-48
def du(l:Bs):Nat:=l.foldl (fun n c=>n*10+dv c) 0
theorem Ep(l:Bs)(n:Nat):l.foldl (fun n c=>n*10+dv c) n=n*10 ^ l.length+du l:=by
 induction l generalizing n with
 | nil=>simp[du]
 | cons c l ih=>
  simp only[List.foldl_cons,du,QU]
  rw[ih,ih (0*10+dv c)]
  rw[Nat.pow_succ]
  have:(n*10+dv c)*10 ^ l.length=n*(10 ^ l.length*10)+(0*10+dv c)*10 ^ l.length:=by
   rw[Nat.add_mul,Nat.zero_mul,Nat.zero_add,Nat.mul_assoc,Nat.mul_comm 10]
  omega
theorem xq(l:Bs)(c:UInt8):du (l++[c])=du l*10+dv c:=by simp[du]
open Go.Abs Go.Abs.S
def fB(l:List Nat):Nat:=l.foldl (fun n d=>n*10+d) 0
theorem uu(l:List Nat)(n:Nat):l.foldl (fun n d=>n*10+d) n=n*10 ^ l.length+fB l:=by
 induction l generalizing n with
 | nil=>simp[fB]
 | cons c l ih=>
  simp only[List.foldl_cons,fB,QU]
  rw[ih,ih (0*10+c),Nat.pow_succ]
  have:(n*10+c)*10 ^ l.length=n*(10 ^ l.length*10)+(0*10+c)*10 ^ l.length:=by
   rw[Nat.add_mul,Nat.zero_mul,Nat.zero_add,Nat.mul_assoc,Nat.mul_comm 10]
  omega
theorem pC(d:Nat)(l:List Nat):fB (d::l)=d*10 ^ l.length+fB l:=by
 have:=uu l (0*10+d)
 simp only[Nat.zero_mul,Nat.zero_add]at this
 rw[<- this]; simp[fB]
theorem mJ:∀{l:List Nat},(∀d∈l,d<=9)->fB l<10 ^ l.length
 | [],_=>by simp[fB]
 | d::l,h=>by
  have h1:=h d (by simp)
  have h2:=mJ (l:=l) fun x hx=>h x (by simp[hx])
  rw[pC,QU,Nat.pow_succ]
  have:d*10 ^ l.length<=9*10 ^ l.length:=Nat.mul_le_mul_right _ h1
  omega
def jm:List Nat->Nat×List Nat
 | []=>(0,[])
 | d::r=>((d*2+(jm r).1) / 10,(d*2+(jm r).1) % 10::(jm r).2)
theorem rj:∀l:List Nat,(jm l).2.length=l.length
 | []=>rfl
 | d::r=>by simp only[jm,QU,rj r]
theorem mq:∀{l:List Nat},(∀d∈l,d<=9)->(jm l).1<=1
 | [],_=>by simp[jm]
 | d::r,h=>by
  have h1:=h d (by simp)
  have h2:=mq (l:=r) fun x hx=>h x (by simp[hx])
  simp only[jm]; omega
theorem CL:∀(l:List Nat),∀d∈(jm l).2,d<=9
 | [],d,h=>by simp[jm]at h
 | a::r,d,h=>by
  simp only[jm,List.mem_cons]at h
  rcases h with rfl | h
  ·omega
  ·exact CL r d h
theorem CK:∀(l:List Nat),(jm l).1*10 ^ l.length+fB (jm l).2=2*fB l
 | []=>by simp[jm,fB]
 | d::r=>by
  have ih:=CK r
  simp only[jm,pC,rj,QU,Nat.pow_succ]
  generalize (jm r).1=o at *
  generalize fB (jm r).2=v at *
  generalize fB r=u at *
  generalize 10 ^ r.length=p at *
  have h1:=Nat.div_add_mod (d*2+o) 10
  have e1:(d*2+o) / 10*(p*10)=10*((d*2+o) / 10)*p:=by rw[Nat.mul_comm p,<- Nat.mul_assoc,Nat.mul_comm _ 10]
  have e2:(10*((d*2+o) / 10)+(d*2+o) % 10)*p=(d*2+o)*p:=by rw[h1]
  have e3:(d*2+o)*p=2*(d*p)+o*p:=by rw[Nat.add_mul,Nat.mul_comm d 2,Nat.mul_assoc]
  rw[Nat.add_mul]at e2
  rw[e1]
  omega
def bits(l:List Nat)(n:Nat):Nat->Nat×List Nat
 | 0=>(n,l)
 | k+1=>(2*(bits l n k).1+(jm (bits l n k).2).1,(jm (bits l n k).2).2)
theorem mw(l:List Nat)(n:Nat):∀k,(bits l n k).2.length=l.length
 | 0=>rfl
 | k+1=>by simp only[bits,rj,mw l n k]
theorem tv{l:List Nat}(h:∀d∈l,d<=9)(n:Nat):∀k,∀d∈(bits l n k).2,d<=9
 | 0=>h
 | k+1=>by simp only[bits]; exact CL _
theorem po(l:List Nat)(n:Nat):∀k,(bits l n k).1*10 ^ l.length+fB (bits l n k).2=2 ^ k*(n*10 ^ l.length+fB l)
 | 0=>by simp[bits]
 | k+1=>by
  have ih:=po l n k
  have h2:=CK (bits l n k).2
  rw[mw]at h2
  simp only[bits,Nat.pow_succ]
  rw[Nat.add_mul,Nat.mul_assoc,Nat.mul_right_comm (2 ^ k),<- ih]
  omega
theorem HU{l:List Nat}(h:∀d∈l,d<=9)(n k:Nat):(bits l n k).1=2 ^ k*(n*10 ^ l.length+fB l) / 10 ^ l.length:=by
 have h1:=po l n k
 have h2:=mJ (tv h n k)
 rw[mw]at h2
 rw[<- h1]
 have hp:0<10 ^ l.length:=Nat.pos_of_ne_zero (by simp)
 rw[Nat.mul_comm,Nat.mul_add_div hp,Nat.div_eq_of_lt h2,Nat.add_zero]
def lX(l:List Nat):Nat:=2 ^ 32*fB l / 10 ^ l.length
theorem vA{l:List Nat}(h:∀d∈l,d<=9)(n:Nat):(bits l n 32).1=2 ^ 32*n+lX l:=by
 rw[HU h,lX,Nat.mul_add]
 have hp:0<10 ^ l.length:=Nat.pos_of_ne_zero (by simp)
 rw[<- Nat.mul_assoc,Nat.mul_comm (2 ^ 32*n),Nat.mul_add_div hp]
theorem JL{l:List Nat}(h:∀d∈l,d<=9):lX l<2 ^ 32:=by
 have:=mJ h
 unfold lX
 have hp:0<10 ^ l.length:=Nat.pos_of_ne_zero (by simp)
 exact (Nat.div_lt_iff_lt_mul hp).2 (Nat.mul_lt_mul_of_pos_left this dD)
theorem qj(a b:List Nat):fB (a++b)=fB a*10 ^ b.length+fB b:=by
 have:=uu b (fB a)
 rw[<- this]; simp[fB]
theorem rE:∀k,fB (List.replicate k 0)=0
 | 0=>rfl
 | k+1=>by rw[List.replicate_succ,pC,rE k]; simp
theorem Hl(l:List Nat)(k:Nat):lX (l++List.replicate k 0)=lX l:=by
 unfold lX
 rw[qj,rE,lA,List.length_replicate,Nat.add_zero,Nat.pow_add,<- Nat.mul_assoc]
 exact Nat.mul_div_mul_right _ _ (Nat.pos_of_ne_zero (by simp))
theorem En{l:List Nat}(h:∀d∈l,d<=9)(hl:32<=l.length):lX (l.take 32)=lX l:=by
 have ht:(l.take 32).length=32:=by simp; omega
 have hd:(l.drop 32).length=l.length-32:=by simp
 have e:fB l=fB (l.take 32)*10 ^ (l.length-32)+fB (l.drop 32):=by
  rw[<- hd,<- qj,List.take_append_drop]
 have hlt:=mJ (l:=l.drop 32) fun d hd=>h d (List.mem_of_mem_drop hd)
 rw[hd]at hlt
 have e2:(10:Nat) ^ l.length=10 ^ (l.length-32)*10 ^ 32:=by rw[<- Nat.pow_add]; congr 1; omega
 unfold lX
 rw[ht,e,e2]
 generalize fB (l.take 32)=A
 generalize fB (l.drop 32)=B at *
 generalize hp:(10:Nat) ^ (l.length-32)=p at *
 have hpp:0<p:=by rw[<- hp]; exact Nat.pos_of_ne_zero (by simp)
 rw[<- Nat.div_div_eq_div_mul,Nat.mul_add,<- Nat.mul_assoc,Nat.mul_comm (2 ^ 32*A) p,Nat.mul_add_div hpp]
 have hc:2 ^ 32*B / p<2 ^ 32:=(Nat.div_lt_iff_lt_mul hpp).2 (Nat.mul_lt_mul_of_pos_left hlt dD)
 generalize 2 ^ 32*B / p=c at hc
 have e3:(10:Nat) ^ 32=2 ^ 32*5 ^ 32:=by decide
 rw[e3,<- Nat.div_div_eq_div_mul,<- Nat.div_div_eq_div_mul,Nat.mul_add_div dD,Nat.div_eq_of_lt hc,Nat.add_zero,Nat.mul_div_cancel_left _ dD]
open Go.Abs Go.Abs.S
abbrev Mp(c:UInt8):ab:=.int .u8 (c.toNat:Int)
def zV(N:gC)(g:Nat)(p:UInt8->Bool):Prop:=∀(c:UInt8) (H:aa),aq Tryz.prog N g [Mp c] H fun v H'=>v=.bool (p c)/\H=H'
theorem jj(hN:aA.is 103=false):zV aA 103 dq:=by
 intro c H
 refine af hN NZ rfl ?_
 by_cases h1:(48:Int)<=(c.toNat:Int)
 ·by_cases h2:(c.toNat:Int)<=57
  ·simp only[JU,sA,sB,seval,h1,h2]
   exact⟨by simp[dq]; omega,by trivial⟩
  ·simp only[JU,sA,sB,seval,h1,h2]
   exact⟨by simp[dq]; omega,by trivial⟩
 ·simp only[JU,sA,sB,seval,h1]
  exact⟨by simp[dq]; omega,by trivial⟩
theorem qG(hN:aA.is 106=false):zV aA 106 beg:=by
 intro c H
 refine af hN NW rfl ?_
 have e:beg c=(((decide ((97:Int)<=c.toNat)&&decide ((c.toNat:Int)<=122))||(decide ((65:Int)<=c.toNat)&&decide ((c.toNat:Int)<=90)))||decide ((c.toNat:Int)=95)):=by
  rw[Bool.eq_iff_iff]; simp[beg]; omega
 rw[e]
 by_cases h1:(97:Int)<=(c.toNat:Int) <;> by_cases h2:(c.toNat:Int)<=122 <;> by_cases h3:(65:Int)<=(c.toNat:Int) <;> by_cases h4:(c.toNat:Int)<=90 <;> by_cases h5:(c.toNat:Int)=95
 all_goals first
  | (exfalso; omega)
  | (simp only [O8, sA, sB, seval, h1, h2, h3, h4, h5]
     exact ⟨by simp, by trivial⟩)
theorem BC(hN:aA.is 146=false):zV aA 146 blk:=by
 intro c H
 refine af hN Nv rfl ?_
 have e:blk c=(((decide ((c.toNat:Int)=9)||decide ((c.toNat:Int)=10))||decide ((c.toNat:Int)=13))||decide ((c.toNat:Int)=32)):=by
  rw[Bool.eq_iff_iff]; simp[blk]; omega
 rw[e]
 by_cases h1:(c.toNat:Int)=9 <;> by_cases h2:(c.toNat:Int)=10 <;> by_cases h3:(c.toNat:Int)=13 <;> by_cases h4:(c.toNat:Int)=32
 all_goals first
  | (exfalso; omega)
  | (simp only [OT, sA, sB, seval, h1, h2, h3, h4]
     exact ⟨by simp, by trivial⟩)
theorem AF(hN:aA.is 147=false):zV aA 147 nZ:=by
 intro c H
 refine af hN Nu rfl ?_
 have e:nZ c=!decide ((c.toNat:Int)=10):=by
  rw[Bool.eq_iff_iff]; simp[nZ]; omega
 rw[e]
 by_cases h1:(c.toNat:Int)=10
 all_goals
  simp only[OS,sA,sB,seval,h1]
  exact⟨by trivial,by trivial⟩
theorem DZ(hN:aA.is 108=false)(h24:aA.is 106=false)(h22:aA.is 103=false):zV aA 108 iE:=by
 intro c H
 refine af hN NU rfl ?_
 simp only[O6,sA,sB,seval]
 refine (qG h24 c H).mono ?_
 rintro v _ ⟨rfl,rfl⟩
 cases hb:beg c with
 | true=>
  simp only[sA,sB,seval]
  exact⟨by simp[iE,hb],by trivial⟩
 | false=>
  simp only[sA,sB,seval]
  refine (jj h22 c H).mono ?_
  rintro v _ ⟨rfl,rfl⟩
  cases hd:dq c with
  | true=>simp only[sA,sB,seval]; exact⟨by simp[iE,hb,hd],by trivial⟩
  | false=>simp only[sA,sB,seval]; exact⟨by simp[iE,hb,hd],by trivial⟩
theorem lz(hN:aA.is 107=false){g:Nat}{p:UInt8->Bool}(hp:zV aA g p){H:aa}{s:Bs}{i:Nat}(hi:i<=s.length)(hs:s.length<=4611686018427387904)(hg:g<1024:=by decide) :
  aq Tryz.prog aA 107 [.str s,.int .i64 (i:Int),.func (.func g) [] []] H fun v H'=>v=.int .i64 (bk p s i:Int)/\H=H':=by
 refine af hN NV rfl ?_
 simp only[O7,hg,sA,sB,seval]
 refine aG (fun q (T:bG) H'=>∃j:Nat,j<=s.length/\q=s.length-j/\T 0=.str s/\T 1=.int .i64 (j:Int)/\T 2=.func (.func g) [] []/\bk p s i=bk p s j/\H=H') (s.length-i) ⟨i,hi,rfl,rfl,rfl,rfl,rfl,rfl⟩ ?_
 rintro q T _ ⟨j,hj,rfl,g0,g1,g2,hA,rfl⟩
 by_cases hlt:j<s.length
 ·have hlt':(j:Int)<(s.length:Int):=om
  obtain⟨c,hc⟩:=aN hlt
  simp only[sA,sB,seval,hg,g0,g1,g2,hlt',bq hc]
  refine (hp c H).mono ?_
  rintro v _ ⟨rfl,rfl⟩
  cases hb:p c with
  | true=>
   simp only[sA,sB,seval,hg,g0,g1,g2,de j om]
   exact⟨_,om,j+1,om,rfl,by trivial,rfl,by trivial,by rw[hA,fJ hc hb],by trivial⟩
  | false=>
   simp only[sA,sB,seval,hg,g0,g1,g2]
   exact⟨by rw[hA,kC hc hb],by trivial⟩
 ·have hlt':¬(j:Int)<(s.length:Int):=om
  simp only[sA,sB,seval,hg,g0,g1,g2,hlt']
  exact⟨by rw[hA,lB om],by trivial⟩
theorem DI(h20:aA.is 101=false)(h25:aA.is 107=false)(h45:aA.is 146=false)(h46:aA.is 147=false){H:aa}{s:Bs}{i:Nat}(hi:i<=s.length)(hs:s.length<=4611686018427387904) :
  aq Tryz.prog aA 101 [.str s,.int .i64 (i:Int)] H fun v H'=>v=.int .i64 (ba s i:Int)/\H=H':=by
 refine af h20 N2 rfl ?_
 simp only[Pb,sA,sB,seval]
 refine aG (fun q (T:bG) H'=>∃j:Nat,j<=s.length/\q=s.length-j/\T 0=.str s/\T 1=.int .i64 (j:Int)/\ba s i=ba s j/\H=H') (s.length-i) ⟨i,hi,rfl,rfl,rfl,rfl,rfl⟩ ?_
 rintro q T _ ⟨j,hj,rfl,g0,g1,hA,rfl⟩
 simp only[sA,sB,seval,g0,g1]
 refine (lz h25 (BC h45) hj hs).mono ?_
 rintro v _ ⟨rfl,rfl⟩
 have h1:=fd blk s j
 have h2:=eZ (p:=blk) hj
 rw[<- FV s j]at hA
 have hout:∀c,s[bk blk s j]?=some c->blk c=false:=fun c=>rU
 generalize bk blk s j=e at *
 by_cases he:e=s.length
 ·have he':(e:Int)=(s.length:Int):=om
  simp only[sA,sB,seval,g0,g1,he']
  exact⟨by rw[hA,xM he.symm,he],by trivial⟩
 have he':¬(e:Int)=(s.length:Int):=om
 obtain⟨c,hc⟩:=aN (l:=s) (i:=e) om
 by_cases h35:(c.toNat:Int)=35
 ·simp only[sA,sB,seval,g0,g1,he',bq hc,h35]
  refine (lz h25 (AF h46) h2 hs).mono ?_
  rintro v _ ⟨rfl,rfl⟩
  have h3:=eZ (p:=nZ) h2
  have hn:nZ c=true:=by simp[nZ]; omega
  have h4:e<bk nZ s e:=by rw[fJ hc hn]; have:=fd nZ s (e+1); omega
  simp only[sA,sB,seval,g0,g1]
  exact⟨_,om,bk nZ s e,h3,rfl,by trivial,by trivial,by rw[hA,qo hc om],by trivial⟩
 ·simp only[sA,sB,seval,g0,g1,he',bq hc,h35]
  exact⟨by rw[hA,pH hc (hout c hc) om],by trivial⟩
theorem oN(h23:aA.is 104=false)(h25:aA.is 107=false)(h22:aA.is 103=false){H:aa}{s:Bs}{i:Nat}(hi:i<=s.length)(hs:s.length<=4611686018427387904) :
  aq Tryz.prog aA 104 [.str s,.int .i64 (i:Int)] H fun v H'=>v=.int .i64 (dk s i:Int)/\H=H':=by
 refine af h23 NY rfl ?_
 simp only[O9,sA,sB,seval]
 refine (lz h25 (jj h22) hi hs).mono ?_
 rintro v _ ⟨rfl,rfl⟩
 have h1:=fd dq s i
 have h2:=eZ (p:=dq) hi
 unfold dk
 generalize bk dq s i=e at *
 by_cases he:(e:Int)=(i:Int)
 ·obtain rfl:e=i:=om
  simp only[sA,sB,seval]
  exact⟨by rw[if_pos (.inl (by trivial))],by trivial⟩
 by_cases hl:(e:Int)=(s.length:Int)
 ·obtain rfl:e=s.length:=om
  have hn:s[s.length]?=none:=Q8 om
  simp only[sA,sB,seval,he]
  exact⟨by rw[if_pos (.inr (by rw[hn]; simp))],by trivial⟩
 obtain⟨c,hc⟩:=aN (l:=s) (i:=e) om
 by_cases h46:(c.toNat:Int)=46
 ·have hc46:s[e]?=some 46:=by
   rw[hc]; congr 1; exact UInt8.toNat_inj.1 (by simpa using (show c.toNat=46 by omega))
  have hcond:¬(e=i∨s[e]?≠some 46):=by
   rintro (h | h)
   ·omega
   ·exact h hc46
  rw[if_neg hcond]
  simp only[sA,sB,seval,he,hl,bq hc,h46,de e om]
  refine (lz h25 (jj h22) (i:=e+1) om hs).mono ?_
  rintro v _ ⟨rfl,rfl⟩
  by_cases hm:((e+1:Nat):Int)<(bk dq s (e+1):Int)
  ·simp only[sA,sB,seval,de e om,hm]
   exact⟨by rw[if_pos om],by trivial⟩
  ·simp only[sA,sB,seval,de e om,hm]
   exact⟨by rw[if_neg om],by trivial⟩
 ·have hcond:e=i∨s[e]?≠some 46:=by
   right
   rw[hc]
   intro h
   simp only[sJ]at h
   subst h
   exact h46 rfl
  rw[if_pos hcond]
  simp only[sA,sB,seval,he,hl,bq hc,h46]
  exact⟨by trivial,by trivial⟩
open Go.Abs Go.Abs.S
def ji(s:Bs):List Nat:=s.map dv
theorem qZ{s:Bs}(h:∀c∈s,dq c=true):∀d∈ji s,d<=9:=by
 intro d hd
 obtain⟨c,hc,rfl⟩:=List.mem_map.1 hd
 have:=h c hc
 simp[dq]at this
 unfold dv; omega
def Cn(s:Bs)(i:Nat):List Nat:=ji (s.take i)++List.replicate (32-i) 0
theorem Cm(s:Bs){i:Nat}(h:i<=s.length)(h2:i<=32):(Cn s i).length=32:=by
 simp[Cn,ji]; omega
theorem Jh(s:Bs){i:Nat}{c:UInt8}(hc:s[i]?=some c)(h2:i<32):(Cn s i).set i (dv c)=Cn s (i+1):=by
 have hlt:=(QR.1 hc).1
 have hl:(ji (s.take i)).length=i:=by simp[ji]; omega
 unfold Cn
 rw[List.set_append_right _ _ om,hl,Nat.sub_self,show 32-i=(32-(i+1))+1 by omega,List.replicate_succ,List.set_cons_zero]
 rw[List.take_add_one,hc]
 simp[ji]
theorem Gp(s:Bs)(h:∀c∈s,dq c=true):lX (Cn s (min s.length 32))=lX (ji s):=by
 by_cases hl:s.length<=32
 ·rw[Nat.min_eq_left hl,Cn,List.take_length,Hl]
 ·rw[Nat.min_eq_right om]
  have e:Cn s 32=(ji s).take 32:=by simp[Cn,ji,List.map_take]
  rw[e,En (qZ h) (by simp[ji]; omega)]
def oX(l:List Nat)(m:Nat):List Nat:=l.take m++(jm (l.drop m)).2
theorem yD(l:List Nat):oX l l.length=l:=by simp[oX,jm]
theorem vg(l:List Nat):oX l 0=(jm l).2:=by simp[oX]
theorem sP(l:List Nat)(m:Nat):(oX l m).length=l.length:=by
 simp[oX,rj]; omega
theorem yC{l:List Nat}{m d:Nat}(h:l[m]?=some d):(oX l (m+1))[m]?=some d:=by
 have hlt:=(QR.1 h).1
 rw[oX,Q6 (by simp; omega),List.getElem?_take_of_lt om,h]
theorem wH{l:List Nat}{m d:Nat}(h:l[m]?=some d):l.drop m=d::l.drop (m+1):=by
 have hlt:=(QR.1 h).1
 rw[List.drop_eq_getElem_cons hlt]
 congr 1
 rw[QQ hlt]at h
 simpa using h
theorem yB{l:List Nat}{m d:Nat}(h:l[m]?=some d):(oX l (m+1)).set m ((d*2+(jm (l.drop (m+1))).1) % 10)=oX l m:=by
 have hlt:=(QR.1 h).1
 unfold oX
 rw[wH h,jm]
 rw[List.set_append_left _ _ (by simp; omega)]
 rw[List.take_add_one,h,Option.toList_some,List.set_append_right _ _ (by simp; omega),Q3]
 congr 1
 have:m-(l.take m).length=0:=by simp; omega
 rw[this]; rfl
theorem DS(h35:aA.is 152=false){H:aa}{s:Bs}(hd:∀c∈s,dq c=true)(hs:s.length<=4611686018427387904) :
  aq Tryz.prog aA 152 [.str s] H fun v H'=>v=.int .i64 (lX (ji s):Int)/\aS H.next H H':=by
 refine af h35 Ns rfl ?_
 obtain⟨H1,m1,r1,n1,k1⟩:=au H (pB (List.replicate 32 0)) (n:=32) rfl
 have hz:pB (List.replicate 32 0)=[.int .u8 0,.int .u8 0,.int .u8 0,.int .u8 0,.int .u8 0,.int .u8 0,.int .u8 0,.int .u8 0,.int .u8 0,.int .u8 0,.int .u8 0,.int .u8 0,.int .u8 0,.int .u8 0,.int .u8 0,.int .u8 0,.int .u8 0,.int .u8 0,.int .u8 0,.int .u8 0,.int .u8 0,.int .u8 0,.int .u8 0,.int .u8 0,.int .u8 0,.int .u8 0,.int .u8 0,.int .u8 0,.int .u8 0,.int .u8 0,.int .u8 0,.int .u8 0]:=rfl
 rw[hz]at m1
 have hmin:(if (32:Int)<(s.length:Int) then (32:Int) else (s.length:Int))=((min s.length 32:Nat):Int):=by
  split <;> omega
 simp only[OQ,sA,sB,seval,m1,hmin]
 have p0:Cn s 0=List.replicate 32 0:=by simp[Cn,ji]
 rw[<- p0]at r1
 generalize hb:H.next=b at *
 refine aG (fun q (T:bG) H'=>∃i:Nat,i<=min s.length 32/\q=min s.length 32-i/\T 0=.str s/\T 3=ae b 32 0/\T 11=.int .i64 ((min s.length 32:Nat):Int)/\T 12=.int .i64 (i:Int)/\aT H' b (pB (Cn s i))/\H'.next=b+1/\∀c,c<b->H'.get c=H.get c) (min s.length 32)
  ⟨0,Nat.zero_le _,rfl,rfl,by simp only[sA,sB,seval],by simp only[sA,sB,seval],by simp only[sA,sB,seval]; try rfl,r1,om,fun c hc=>k1 c om⟩ ?_
 clear m1 r1 k1 n1 H1
 rintro q T H1 ⟨i,hi,rfl,g0,g3,g11,g12,r1,n1,k1⟩
 by_cases hlt:i<min s.length 32
 ·have hlt':(i:Int)<((min s.length 32:Nat):Int):=om
  obtain⟨c,hc⟩:=aN (l:=s) (i:=i) om
  have hdc:=hd c (QY hc)
  have hdv:(c.toNat:Int)-48=((dv c:Nat):Int):=by simp[dq]at hdc; unfold dv; omega
  have hd9:dv c<=9:=by simp[dq]at hdc; unfold dv; omega
  have hw:IntKind.u8.wrap ((dv c:Nat):Int)=((dv c:Nat):Int):=fo om om
  have ia:=wU (b:=b) (n:=32) (i:=i) om .i64
  obtain⟨H2,m2,r2,n2,k2⟩:=ci r1 (n:=32) (by rw[kz,Cm s om om]) (i:=i) om (x:=.int .u8 ((dv c:Nat):Int)) rfl
  simp only[sA,sB,seval,g0,g3,g11,g12,hlt',bq hc,hdv,hw,ia,m2,de i om]
  refine⟨_,om,i+1,om,rfl,by trivial,by trivial,by trivial,rfl,?_,om,fun c hc=>(k2 c om).trans (k1 c hc)⟩
  rw[<- Jh s hc om,oj]
  exact r2
 obtain rfl:i=min s.length 32:=om
 simp only[sA,sB,seval,g0,g3,g11,g12,Int.lt_irrefl]
 have hl:=Cm s (i:=min s.length 32) om om
 have hp9:∀d∈Cn s (min s.length 32),d<=9:=by
  intro d hdm
  rcases List.mem_append.1 hdm with h | h
  ·exact qZ (s:=s.take (min s.length 32)) (fun c hc=>hd c (List.mem_of_mem_take hc)) d h
  ·have:=(List.mem_replicate.1 h).2; omega
 rw[<- Gp s hd]
 generalize Cn s (min s.length 32)=l at *
 refine aG (fun q (T:bG) H'=>∃k:Nat,k<=32/\q=32-k/\T 3=ae b 32 0/\T 5=.int .i64 ((bits l 0 k).1:Int)/\T 22=.int .i64 (k:Int)/\aT H' b (pB (bits l 0 k).2)/\H'.next=b+1/\∀c,c<b->H'.get c=H.get c) 32
  ⟨0,Nat.zero_le _,rfl,by simp only[sA,sB,seval,g3],by simp only[sA,sB,seval]; try rfl,by simp only[sA,sB,seval]; try rfl,r1,n1,k1⟩ ?_
 clear g0 g3 g11 g12 r1 n1 k1 T H1
 rintro q T H1 ⟨k,hk,rfl,g3,g5,g22,r1,n1,k1⟩
 by_cases hlt:k<32
 ·have hlt':(k:Int)<32:=om
  have hb9:=tv hp9 0 k
  have hbl:=mw l 0 k
  rw[hl]at hbl
  have hbv:(bits l 0 k).1<2 ^ 32:=by
   have h1:=po l 0 k
   have h2:=mJ hp9
   rw[Nat.zero_mul,Nat.zero_add,hl]at h1
   rw[hl]at h2
   have h3:2 ^ k<=2 ^ 32:=Nat.pow_le_pow_right om hk
   have h4:(bits l 0 k).1*10 ^ 32<2 ^ 32*10 ^ 32:=by
    calc (bits l 0 k).1*10 ^ 32<=2 ^ k*fB l:=om
     _<=2 ^ 32*fB l:=Nat.mul_le_mul_right _ h3
     _<2 ^ 32*10 ^ 32:=Nat.mul_lt_mul_of_pos_left h2 dD
   exact Nat.lt_of_mul_lt_mul_right h4
  simp only[sA,sB,seval,g3,g5,g22,hlt']
  have hbits:bits l 0 (k+1)=(2*(bits l 0 k).1+(jm (bits l 0 k).2).1,(jm (bits l 0 k).2).2):=rfl
  generalize hm:(bits l 0 k).2=m at *
  generalize hout:(bits l 0 k).1=out at *
  have hov:=mq hb9
  refine aG (fun q (T:bG) H'=>∃j:Nat,j<=32/\j=q/\T 3=ae b 32 0/\T 5=.int .i64 (out:Int)/\T 22=.int .i64 (k:Int)/\T 6=.int .u8 ((jm (m.drop j)).1:Int)/\T 7=.int .i64 ((j:Int)-1)/\aT H' b (pB (oX m j))/\H'.next=b+1/\∀c,c<b->H'.get c=H.get c) 32
   ⟨32,om,rfl,by simp only[sA,sB,seval,g3],by simp only[sA,sB,seval,g5],by simp only[sA,sB,seval,g22],by simp only[sA,sB,seval]; rw[List.drop_eq_nil_of_le om]; rfl,by simp only[sA,sB,seval]; try rfl,by rw[<- hbl,yD]; exact r1,n1,k1⟩ ?_
  clear g3 g5 g22 r1 n1 k1 T H1
  rintro q T H1 ⟨j,hj,rfl,g3,g5,g22,g6,g7,r1,n1,k1⟩
  cases j with
  | zero=>
   have c0:¬(0:Int)<=((0:Nat):Int)-1:=om
   rw[List.drop_zero]at g6
   rw[vg]at r1
   have hsh:out*2 ^ 1<2 ^ 63:=om
   have e1:=zC (k':=.u64) (a:=out) (b:=1) om hsh
   have e2:=CZ (a:=out*2 ^ 1) (b:=(jm m).1) hsh om
   rw[Gq 1 out om]at e2
   have hw:IntKind.i64.wrap ((jm m).1:Int)=((jm m).1:Int):=bj om om
   simp only[Int.cast_ofNat_Int]at e1
   simp only[sA,sB,seval,g3,g5,g22,g6,g7,c0,e1,e2,hw,de k om]
   refine⟨_,om,k+1,om,rfl,by trivial,?_,rfl,?_,n1,k1⟩
   ·rw[hbits]; simp only; congr 2; omega
   ·rw[hbits]; exact r1
  | succ j=>
   have c0:(0:Int)<=((j+1:Nat):Int)-1:=om
   have ej:((j+1:Nat):Int)-1=(j:Int):=om
   rw[ej]at g7 c0
   obtain⟨d,hdd⟩:=aN (l:=m) (i:=j) om
   have hd9:=hb9 d (QY hdd)
   have ho:=mq (l:=m.drop (j+1)) fun x hx=>hb9 x (List.mem_of_mem_drop hx)
   have hset:=yB hdd
   have hdr:jm (m.drop j)=((d*2+(jm (m.drop (j+1))).1) / 10,(d*2+(jm (m.drop (j+1))).1) % 10::(jm (m.drop (j+1))).2):=by rw[wH hdd]; rfl
   generalize (jm (m.drop (j+1))).1=o at *
   have ia:=wU (b:=b) (n:=32) (i:=j) om .i64
   have l1:=ah r1 (n:=32) (by rw[kz,sP,hbl]) (I1 (yC hdd))
   have w1:IntKind.u8.wrap ((d:Int)*2)=((d*2:Nat):Int):=by rw[fo om om]; omega
   have w2:IntKind.u8.wrap (((d*2:Nat):Int)+(o:Int))=((d*2+o:Nat):Int):=by rw[fo om om]; omega
   have e3:be .rem (.int .u8 ((d*2+o:Nat):Int)) (.int .u8 10)=some (.int .u8 (((d*2+o) % 10:Nat):Int)):=by
    rw[kR _ _ _ om]; rfl
   have e4:be .quo (.int .u8 ((d*2+o:Nat):Int)) (.int .u8 10)=some (.int .u8 (((d*2+o) / 10:Nat):Int)):=by
    rw[kS _ _ _ om]
    have:((d*2+o:Nat):Int).tdiv 10=(((d*2+o) / 10:Nat):Int):=rfl
    rw[this,fo om om]
   obtain⟨H2,m2,r2,n2,k2⟩:=ci r1 (n:=32) (by rw[kz,sP,hbl]) (i:=j) om (x:=.int .u8 (((d*2+o) % 10:Nat):Int)) rfl
   have hwj:IntKind.i64.wrap ((j:Int)-1)=(j:Int)-1:=bj om om
   simp only[sA,sB,seval,g3,g5,g22,g6,g7,c0,ia,l1,w1,w2,e3,e4,m2,hwj]
   refine⟨_,Nat.lt_succ_self j,j,om,rfl,by trivial,by trivial,by trivial,by rw[hdr],by trivial,?_,om,fun c hc=>(k2 c om).trans (k1 c hc)⟩
   rw[<- hset,oj]
   exact r2
 obtain rfl:k=32:=om
 have hlast:=vA hp9 0
 rw[Nat.mul_zero,Nat.zero_add]at hlast
 rw[hlast]at g5
 simp only[sA,sB,seval,g3,g5,g22,Int.cast_ofNat_Int,Int.lt_irrefl]
 exact⟨by trivial,⟨om,fun c hc=>k1 c om⟩⟩
open Go.Abs Go.Abs.S
def qW(c:UInt8):Bool:=!decide (c.toNat=46)
def bg(s:Bs):Bs:=s.takeWhile qW
def behind(s:Bs):Bs:=(s.dropWhile qW).drop 1
def jC(s:Bs):Bool:=!(s.all qW)
theorem rC(s:Bs):(bg s).length<=s.length:=(List.takeWhile_sublist (p:=qW) (l:=s)).length_le
theorem oh(s:Bs):bg s=s.take (bg s).length:=by
 exact (List.prefix_iff_eq_take.1 (List.takeWhile_prefix qW (l:=s)))
theorem Bj(s:Bs):s.drop (bg s).length=s.dropWhile qW:=by
 have h:bg s++s.dropWhile qW=s:=List.takeWhile_append_dropWhile (p:=qW) (l:=s)
 generalize hw:bg s=w at *
 conv=>lhs; rw[<- h]
 rw[List.drop_left]
theorem iU(s:Bs):behind s=s.drop ((bg s).length+1):=by
 rw[behind,<- Bj,List.drop_drop]
theorem Hj{s:Bs}(h:jC s=true):(bg s).length<s.length:=by
 rcases Nat.lt_or_ge (bg s).length s.length with hl | hl
 ·exact hl
 ·have e:bg s=s:=by rw[oh s,List.take_of_length_le hl]
  have:s.all qW=true:=by rw[<- e]; exact List.all_takeWhile
  simp[jC,this]at h
theorem LT(s:Bs)(n:Nat):xi 46 s n=if jC s then ((n+(bg s).length:Nat):Int) else -1:=by
 induction s generalizing n with
 | nil=>rfl
 | cons c r ih=>
  rw[xi]
  by_cases h:c.toNat=46
  ·have hc:c=46:=UInt8.toNat_inj.1 h
   subst hc
   simp[jC,qW,bg]
  ·have hc:¬c=46:=fun e=>h (by rw[e]; rfl)
   have hn:qW c=true:=by simp[qW,h]
   have e1:jC (c::r)=jC r:=by simp[jC,hn]
   have e2:(bg (c::r)).length=(bg r).length+1:=by rw[bg,List.takeWhile_cons_of_pos hn]; rfl
   have e3:Nat.beq c.toNat (UInt8.toNat 46)=false:=by
    cases hb:Nat.beq c.toNat (UInt8.toNat 46) with
    | false=>rfl
    | true=>exact absurd (QX hb) h
   rw[e1,e2,e3,cond_false,ih,show n+1+(bg r).length=n+((bg r).length+1) by omega]
theorem KQ{s:Bs}(h:jC s=false):bg s=s/\behind s=[]:=by
 have ha:s.all qW=true:=by simpa[jC] using h
 have hall:=List.all_eq_true.1 ha
 have e:bg s=s:=by
  rw[bg]
  have:=List.takeWhile_append_of_pos (p:=qW) (l₁:=s) (l₂:=[]) hall
  simpa using this
 exact⟨e,by rw[iU,e]; simp⟩
theorem GZ(h76:aA.is 184=false){H:aa}{s:Bs}:aq Tryz.prog aA 184 [.str s,.int .u8 46] H fun v H'=>v=.int .i64 (xi 46 s 0)/\H=H':=by
 refine af h76 Kk rfl ?_
 have e:jt .ibs [.str s,.int .u8 46]=some (.int .i64 (xi 46 s 0)):=rfl
 simp only[Mf,sA,sB,seval,e]
 exact⟨by trivial,by trivial⟩
theorem AU(h74:aA.is 181=false)(h76:aA.is 184=false){H:aa}{s:Bs}:aq Tryz.prog aA 181 [.str s,.str [46]] H fun v H'=>v=.int .i64 (xi 46 s 0)/\H=H':=by
 refine af h74 Nb rfl ?_
 have i0:kr (.str [46]) (.int .i64 0)=some (.int .u8 46):=rfl
 have hl1:((List.length [(46:UInt8)]:Nat):Int)=1:=rfl
 by_cases hs:[46]=s
 ·subst hs
  have e:xi 46 [46] 0=0:=rfl
  rw[e]
  simp only[Mh,sA,sB,seval,hl1]
  exact⟨by trivial,by trivial⟩
 ·simp only[Mh,sA,sB,seval,hl1,hs,i0]
  refine (GZ h76).mono ?_
  rintro v _ ⟨rfl,rfl⟩
  simp only[sA,sB,seval]
  exact⟨by trivial,by trivial⟩
theorem HG(h34:aA.is 151=false)(h57:aA.is 182=false)(h74:aA.is 181=false)(h76:aA.is 184=false){H:aa}{s:Bs}(hs:s.length<=4611686018427387904) :
  aq Tryz.prog aA 151 [.str s,.str [46]] H fun v H'=>v=.tuple [.str (bg s),.str (behind s),.bool (jC s)]/\H=H':=by
 refine af h34 Nt rfl ?_
 simp only[OR,sA,sB,seval]
 have key:aq Tryz.prog aA 182 [.str s,.str [46]] H fun v H'=>v=.tuple [.str (bg s),.str (behind s),.bool (jC s)]/\H=H':=by
  refine af h57 Na rfl ?_
  simp only[OH,sA,sB,seval]
  refine (AU h74 h76).mono ?_
  rintro v _ ⟨rfl,rfl⟩
  have hl1:((List.length [(46:UInt8)]:Nat):Int)=1:=rfl
  rw[LT]
  cases hp:jC s with
  | true=>
   have hlt:=Hj hp
   have hge:(0:Int)<=((0+(bg s).length:Nat):Int):=om
   rw[Nat.zero_add]at *
   have e1:=ov (s:=s) (h:=(bg s).length) (rC s)
   have e2:=B0 (s:=s) (l:=(bg s).length+1) om
   rw[<- oh]at e1
   rw[<- iU]at e2
   simp only[sA,sB,seval,hge,hl1,de (bg s).length om,e1,e2]
   exact⟨by trivial,by trivial⟩
  | false=>
   obtain⟨e1,e2⟩:=KQ hp
   simp only[sA,sB,seval,e1,e2]
   exact⟨by trivial,by trivial⟩
 refine key.mono ?_
 rintro v _ ⟨rfl,rfl⟩
 simp only[fH,QZ,Q0,sA,sB,seval]
 exact⟨by trivial,by trivial⟩
open Go.Abs Go.Abs.S
def lR(s:Bs):Bool:=(match s with | []=>false | c::_=>dq c)&&decide (dk s 0=s.length)
def fD(s:Bs):Option Nat:=if lR s=true/\du (bg s)<2147483648 then some (du (bg s)*2 ^ 32+lX (ji (behind s))) else none
def Ac:Option Nat->ab
 | some n=>.tuple [.int .i64 (n:Int),.bool true]
 | none=>.tuple [.int .i64 0,.bool false]
theorem CJ{c:UInt8}(h:dq c=true):qW c=true:=by
 simp[dq]at h; simp[qW]; omega
theorem uq(s:Bs):(bg s).length=bk qW s 0:=by simp[bk,bg]
theorem yp{s:Bs}(h:lR s=true):(∀c∈bg s,dq c=true)/\∀c∈behind s,dq c=true:=by
 simp only[lR,QT,Q2]at h
 obtain⟨h0,h1⟩:=h
 have hin:∀{a j:Nat} {c:UInt8},a<=j->j<bk dq s a->s[j]?=some c->dq c=true:=by
  intro a j c ha hj hc
  obtain⟨d,hd,hp⟩:=B9 ha hj
  rw[hc]at hd; cases hd; exact hp
 have hle:=eZ (p:=dq) (s:=s) (i:=0) (Nat.zero_le _)
 by_cases hd:s[bk dq s 0]?=some 46
 ·have hlt:=(QR.1 hd).1
  have hp0:bk dq s 0≠0:=by
   intro e
   cases s with
   | nil=>simp at hlt
   | cons c r=>
    simp only at h0
    rw[fJ (c:=c) rfl h0]at e
    have:=fd dq (c::r) (0+1)
    omega
  have hw:(bg s).length=bk dq s 0:=by
   rw[uq]
   rcases Nat.lt_trichotomy (bk qW s 0) (bk dq s 0) with hl | hl | hl
   ·obtain⟨c,hc⟩:=aN (l:=s) (i:=bk qW s 0) om
    have:=rU hc
    rw[CJ (hin (Nat.zero_le _) hl hc)]at this
    cases this
   ·exact hl
   ·obtain⟨c,hc,hp⟩:=B9 (Nat.zero_le _) hl
    rw[hd]at hc; cases hc
    simp[qW]at hp
  unfold dk at h1
  rw[if_neg (by rintro (e | e); exact hp0 e; exact e hd)]at h1
  split at h1
  ·constructor
   ·intro c hc
    rw[oh,hw]at hc
    obtain⟨j,hj⟩:=List.mem_iff_getElem?.1 hc
    have hjl:=(QR.1 hj).1
    simp only[Rd]at hjl
    rw[List.getElem?_take_of_lt om]at hj
    exact hin (Nat.zero_le _) om hj
   ·intro c hc
    rw[iU,hw]at hc
    obtain⟨j,hj⟩:=List.mem_iff_getElem?.1 hc
    rw[List.getElem?_drop]at hj
    have hjl:=(QR.1 hj).1
    exact hin (a:=bk dq s 0+1) om om hj
  ·omega
 ·unfold dk at h1
  rw[if_pos (.inr hd)]at h1
  have hall:∀c∈s,dq c=true:=by
   intro c hc
   obtain⟨j,hj⟩:=List.mem_iff_getElem?.1 hc
   have hjl:=(QR.1 hj).1
   exact hin (Nat.zero_le _) om hj
  have hp:jC s=false:=by
   simp only[jC,Bool.not_eq_false']
   exact List.all_eq_true.2 fun c hc=>CJ (hall c hc)
  obtain⟨e1,e2⟩:=KQ hp
  rw[e1,e2]
  exact⟨hall,by simp⟩
theorem qi(l:Bs)(i:Nat):du (l.take i)<=du l:=by
 have h:=Ep (l.drop i) (du (l.take i))
 have e:du l=List.foldl (fun n c=>n*10+dv c) (du (l.take i)) (l.drop i):=by
  unfold du
  rw[<- List.foldl_append,List.take_append_drop]
 rw[e,h]
 have:du (l.take i)*1<=du (l.take i)*10 ^ (l.drop i).length:=Nat.mul_le_mul_left _ (Nat.pos_of_ne_zero (by simp))
 omega
theorem yo(h12:aA.is 105=false)(h22:aA.is 103=false)(h23:aA.is 104=false)(h25:aA.is 107=false)(h34:aA.is 151=false)(h35:aA.is 152=false)(h57:aA.is 182=false)(h74:aA.is 181=false)(h76:aA.is 184=false)
  {H:aa} {s:Bs} (hs:s.length<=4611686018427387904):aq Tryz.prog aA 105 [.str s] H fun v H'=>v=Ac (fD s)/\aS H.next H H':=by
 refine af h12 NX rfl ?_
 cases s with
 | nil=>
  have e:fD []=none:=rfl
  rw[e]
  simp only[Mo,sA,sB,seval]
  exact⟨by trivial,aS.refl _ _⟩
 | cons c r=>
  have i0:kr (.str (c::r)) (.int .i64 0)=some (Mp c):=bq (s:=c::r) (i:=0) rfl .i64
  have hne:¬c::r=[]:=by simp
  simp only[Mo,sA,sB,seval,hne,i0]
  refine (jj h22 c H).mono ?_
  rintro v _ ⟨rfl,rfl⟩
  cases hd:dq c with
  | false=>
   have e:fD (c::r)=none:=by simp[fD,lR,hd]
   rw[e]
   simp only[sA,sB,seval]
   exact⟨by trivial,aS.refl _ _⟩
  | true=>
  simp only[sA,sB,seval]
  refine (oN h23 h25 h22 (Nat.zero_le _) hs).mono ?_
  rintro v _ ⟨rfl,rfl⟩
  have hle:=oO (s:=c::r) (Nat.zero_le _)
  by_cases hn:dk (c::r) 0=(c::r).length
  ·have hnum:lR (c::r)=true:=by simp only[lR,hd,hn,decide_true,Bool.and_self]
   have hn':((dk (c::r) 0:Nat):Int)=((c::r).length:Int):=by rw[hn]
   generalize c::r=s at *
   obtain⟨hw,hb⟩:=yp hnum
   simp only[sA,sB,seval,hn']
   refine (HG h34 h57 h74 h76 hs).mono ?_
   rintro v _ ⟨rfl,rfl⟩
   simp only[fH,QZ,Q0,sA,sB,seval]
   have hwl:=rC s
   have hbl:(behind s).length<=s.length:=by rw[iU]; simp
   have hsay:fD s=if du (bg s)<2147483648 then some (du (bg s)*2 ^ 32+lX (ji (behind s))) else none:=by simp[fD,hnum]
   rw[hsay]
   generalize bg s=w at *
   generalize behind s=t at *
   refine aG (fun q (T:bG) H'=>∃i:Nat,i<=w.length/\q=w.length-i/\T 4=.str w/\T 5=.str t/\T 7=.int .i64 (du (w.take i):Int)/\du (w.take i)<2147483648/\T 31=.int .i64 (w.length:Int)/\T 32=.int .i64 (i:Int)/\H=H') w.length
    ⟨0,Nat.zero_le _,rfl,rfl,rfl,rfl,by simp[du],rfl,rfl,rfl⟩ ?_
   rintro q T _ ⟨i,hi,rfl,g4,g5,g7,hv,g31,g32,rfl⟩
   by_cases hlt:i<w.length
   ·have hlt':(i:Int)<(w.length:Int):=om
    obtain⟨c,hc⟩:=aN hlt
    have hdc:=hw c (QY hc)
    have hdv:(c.toNat:Int)-48=((dv c:Nat):Int):=by simp[dq]at hdc; unfold dv; omega
    have hd9:dv c<=9:=by simp[dq]at hdc; unfold dv; omega
    have hw1:IntKind.u8.wrap ((dv c:Nat):Int)=((dv c:Nat):Int):=fo om om
    have hw2:IntKind.i64.wrap ((dv c:Nat):Int)=((dv c:Nat):Int):=bj om om
    have hw3:IntKind.i64.wrap ((du (w.take i):Int)*10)=((du (w.take i)*10:Nat):Int):=by rw[bj om om]; omega
    have hw4:IntKind.i64.wrap (((du (w.take i)*10:Nat):Int)+((dv c:Nat):Int))=((du (w.take (i+1)):Nat):Int):=by
     rw[bj om om,List.take_add_one,hc,Option.toList_some,xq]; omega
    simp only[sA,sB,seval,g4,g5,g7,g31,g32,hlt',bq hc,hdv,hw1,hw2,hw3,hw4]
    by_cases hbig:du (w.take (i+1))<2147483648
    ·have hbig':¬(2147483648:Int)<=((du (w.take (i+1)):Nat):Int):=om
     simp only[sA,sB,seval,g4,g5,g7,g31,g32,hbig',de i om]
     exact⟨_,om,i+1,om,rfl,by trivial,by trivial,rfl,hbig,by trivial,rfl,by trivial⟩
    ·have hbig':(2147483648:Int)<=((du (w.take (i+1)):Nat):Int):=om
     have:=qi w (i+1)
     simp only[sA,sB,seval,g4,g5,g7,g31,g32,hbig']
     exact⟨by rw[if_neg om]; rfl,aS.refl _ _⟩
   ·obtain rfl:i=w.length:=om
    rw[List.take_length]at g7 hv
    have e1:=zC (k':=.u64) (a:=du w) (b:=32) om om
    simp only[Int.cast_ofNat_Int]at e1
    simp only[sA,sB,seval,g4,g5,g7,g31,g32,Int.lt_irrefl,e1]
    refine (DS h35 hb om).mono ?_
    rintro v H' ⟨rfl,hx⟩
    have hf:=JL (qZ hb)
    have e2:=CZ (a:=du w*2 ^ 32) (b:=lX (ji t)) om om
    rw[Gq 32 _ hf]at e2
    simp only[sA,sB,seval,e2]
    exact⟨by rw[if_pos hv]; rfl,hx⟩
  ·have hn':¬((dk (c::r) 0:Nat):Int)=((c::r).length:Int):=om
   have e:fD (c::r)=none:=by simp only[fD,lR,hn,decide_false,Bool.and_false,Q1,false_and,if_false]
   rw[e]
   simp only[sA,sB,seval,hn']
   exact⟨by trivial,aS.refl _ _⟩
open Go.Abs Go.Abs.S
theorem lH(hN:aA.is 159=false):zV aA 159 dq:=by
 intro c H
 refine af hN Nk rfl ?_
 by_cases h1:(48:Int)<=(c.toNat:Int)
 ·by_cases h2:(c.toNat:Int)<=57
  ·simp only[JS,sA,sB,seval,h1,h2]
   exact⟨by simp[dq]; omega,by trivial⟩
  ·simp only[JS,sA,sB,seval,h1,h2]
   exact⟨by simp[dq]; omega,by trivial⟩
 ·simp only[JS,sA,sB,seval,h1]
  exact⟨by simp[dq]; omega,by trivial⟩
theorem nq(h36:aA.is 156=false)(h54:aA.is 159=false){H:aa}{s:Bs}{i:Nat}(hi:i<=s.length)(hs:s.length<=4611686018427387904) :
  aq Tryz.prog aA 156 [.str s,.int .i64 (i:Int)] H fun v H'=>v=.int .i64 ((dk s i-i:Nat):Int)/\H=H':=by
 refine af h36 Np rfl ?_
 simp only[ON,sA,sB,seval]
 refine fu (fun (T:bG) H'=>T 0=.str s/\T 1=.int .i64 (i:Int)/\T 5=.int .i64 (bk dq s i:Int)/\H=H') (bH _ _) ?_ ?_
 ·refine aG (fun q (T:bG) H'=>∃j:Nat,j<=s.length/\q=s.length-j/\T 0=.str s/\T 1=.int .i64 (i:Int)/\T 5=.int .i64 (j:Int)/\bk dq s i=bk dq s j/\H=H') (s.length-i) ⟨i,hi,rfl,rfl,rfl,rfl,rfl,rfl⟩ ?_
  rintro q T _ ⟨j,hj,rfl,g0,g1,g5,hA,rfl⟩
  by_cases hlt:j<s.length
  ·have hlt':(j:Int)<(s.length:Int):=om
   obtain⟨c,hc⟩:=aN hlt
   simp only[sA,sB,seval,g0,g1,g5,hlt',bq hc]
   refine (lH h54 c H).mono ?_
   rintro v _ ⟨rfl,rfl⟩
   cases hb:dq c with
   | true=>
    simp only[sA,sB,seval,g0,g1,g5,de j om]
    exact⟨_,om,j+1,om,rfl,by trivial,by trivial,rfl,by rw[hA,fJ hc hb],by trivial⟩
   | false=>
    simp only[sA,sB,seval,g0,g1,g5]
    exact⟨by trivial,by trivial,by rw[hA,kC hc hb],by trivial⟩
  ·have hlt':¬(j:Int)<(s.length:Int):=om
   simp only[sA,sB,seval,g0,g1,g5,hlt']
   exact⟨by trivial,by trivial,by rw[hA,lB om],by trivial⟩
 rintro T _ ⟨g0,g1,g5,rfl⟩
 have hle:=eZ (p:=dq) hi
 have hge:=fd dq s i
 have hdef:dk s i=if bk dq s i=i∨s[bk dq s i]?≠some 46 then bk dq s i else if bk dq s i+1<bk dq s (bk dq s i+1) then bk dq s (bk dq s i+1) else bk dq s i:=rfl
 rw[hdef]
 generalize bk dq s i=e at *
 by_cases he:e=i
 ·subst he
  simp only[sA,sB,seval,g0,g1,g5]
  exact⟨by rw[if_pos (.inl (by trivial))]; simp,by trivial⟩
 have he':¬(e:Int)=(i:Int):=om
 simp only[sA,sB,seval,g0,g1,g5,he',de e om]
 refine fu (fun (T:bG) H'=>∃m:Nat,m=(if s[e]?=some 46 then bk dq s (e+1) else e+1)/\T 0=.str s/\T 1=.int .i64 (i:Int)/\T 5=.int .i64 (e:Int)/\T 6=.int .i64 (m:Int)/\H=H') (bH _ _) ?_ ?_
 ·refine aG (fun q (T:bG) H'=>∃m:Nat,e+1<=m/\m<=s.length+1/\q=s.length+1-m/\T 0=.str s/\T 1=.int .i64 (i:Int)/\T 5=.int .i64 (e:Int)/\T 6=.int .i64 (m:Int)/\(s[e]?=some 46->bk dq s (e+1)=bk dq s m)/\(s[e]?≠some 46->m=e+1)/\H=H') (s.length+1-(e+1)) ⟨e+1,om,om,rfl,by simp only[sA,sB,seval,g0],by simp only[sA,sB,seval,g1],by simp only[sA,sB,seval,g5],by simp only[sA,sB,seval],fun _=>rfl,fun _=>rfl,rfl⟩ ?_
  clear g0 g1 g5
  rintro q T _ ⟨m,h1,h2,rfl,g0,g1,g5,g6,hA,hB,rfl⟩
  by_cases hlt:e<s.length
  ·have hlt':(e:Int)<(s.length:Int):=om
   obtain⟨c,hc⟩:=aN hlt
   by_cases hp:(c.toNat:Int)=46
   ·have hc46:s[e]?=some 46:=by
     rw[hc]; congr 1; exact UInt8.toNat_inj.1 (by simpa using (show c.toNat=46 by omega))
    by_cases hml:m<s.length
    ·have hml':(m:Int)<(s.length:Int):=om
     obtain⟨d,hd⟩:=aN hml
     simp only[sA,sB,seval,g0,g1,g5,g6,hlt',bq hc,hp,hml',bq hd]
     refine (lH h54 d H).mono ?_
     rintro v _ ⟨rfl,rfl⟩
     cases hb:dq d with
     | true=>
      simp only[sA,sB,seval,g0,g1,g5,g6,de m om]
      exact⟨_,om,m+1,om,om,rfl,by trivial,by trivial,by trivial,rfl,fun h=>by rw[hA h,fJ hd hb],fun h=>absurd hc46 h,by trivial⟩
     | false=>
      simp only[sA,sB,seval,g0,g1,g5,g6]
      exact⟨m,by rw[if_pos hc46,hA hc46,kC hd hb],by trivial,by trivial,by trivial,by trivial,by trivial⟩
    ·have hml':¬(m:Int)<(s.length:Int):=om
     simp only[sA,sB,seval,g0,g1,g5,g6,hlt',bq hc,hp,hml']
     exact⟨m,by rw[if_pos hc46,hA hc46,lB om],by trivial,by trivial,by trivial,by trivial,by trivial⟩
   ·have hc46:s[e]?≠some 46:=by
     rw[hc]; intro h; cases h; exact hp rfl
    simp only[sA,sB,seval,g0,g1,g5,g6,hlt',bq hc,hp]
    exact⟨m,by rw[if_neg hc46,hB hc46],by trivial,by trivial,by trivial,by trivial,by trivial⟩
  ·have hlt':¬(e:Int)<(s.length:Int):=om
   have hc46:s[e]?≠some 46:=by rw[Q8 om]; simp
   simp only[sA,sB,seval,g0,g1,g5,g6,hlt']
   exact⟨m,by rw[if_neg hc46,hB hc46],by trivial,by trivial,by trivial,by trivial,by trivial⟩
 clear g0 g1 g5
 rintro T _ ⟨m,hm,g0,g1,g5,g6,rfl⟩
 have hm1:m<=s.length+1:=by
  rw[hm]; split
  ·rename_i h
   have:=(QR.1 h).1
   have:=eZ (p:=dq) (s:=s) (i:=e+1) om
   omega
  ·omega
 by_cases hc46:s[e]?=some 46
 ·rw[if_pos hc46]at hm
  rw[if_neg (by rintro (h | h); exact he h; exact h hc46),<- hm]
  by_cases hgt:e+1<m
  ·rw[if_pos hgt]
   have hgt2:(((e+1:Nat)):Int)<(m:Int):=om
   simp only[sA,sB,seval,g0,g1,g5,g6,de e om,hgt2]
   exact⟨by rw[bj om om]; congr 1; omega,by trivial⟩
  ·rw[if_neg hgt]
   have hgt2:¬(((e+1:Nat)):Int)<(m:Int):=om
   simp only[sA,sB,seval,g0,g1,g5,g6,de e om,hgt2]
   exact⟨by rw[bj om om]; congr 1; omega,by trivial⟩
 ·rw[if_neg hc46]at hm
  rw[if_pos (.inr hc46)]
  have hgt2:¬(((e+1:Nat)):Int)<(m:Int):=om
  simp only[sA,sB,seval,g0,g1,g5,g6,de e om,hgt2]
  exact⟨by rw[bj om om]; congr 1; omega,by trivial⟩
open Go.Abs Go.Abs.S
def AQ(l:List Nat):List ab:=l.map fun n:Nat=>.int .i64 (n:Int)
theorem Cu(l:List Nat):(AQ l).length=l.length:=by simp[AQ]
theorem Jz{l:List Nat}{i:Nat}{n:Nat}(h:l[i]?=some n):(AQ l)[i]?=some (.int .i64 (n:Int)):=by simp[AQ,h]
theorem Jy(l:List Nat)(i n:Nat):AQ (l.set i n)=(AQ l).set i (.int .i64 (n:Int)):=by simp[AQ]
theorem EY{n:Nat}{H:aa}{s:ab}{l:List ab}(h:BO n H s l){i:Nat}(hi:i<l.length){x:ab}(hx:x.one=true) :
  ∃H',a8 1 H (yT s i) x=some H'/\BO n H' s (l.set i x)/\aS n H H':=by
 rcases h with⟨_,rfl⟩ | ⟨b,low,rfl,h2,h3,h4,h5⟩
 ·simp at hi
 ·refine⟨H.set b (.cells (l.set i x) l.length false),?_,.inr ⟨b,l.length,by simp,h2,h3,by rw[aa.get_set,if_pos rfl],by simp⟩,(aS.refl n H).set h2 _⟩
  simp only[yT,Nat.mul_one,Nat.zero_add]
  exact xn h4 h5 hi hx
theorem pR(s:Bs):lR s=true↔dk s 0=s.length/\s.length≠0:=by
 cases s with
 | nil=>simp[lR]
 | cons c r=>
  simp only[lR,QT,Q2]
  constructor
  ·rintro ⟨_,h⟩; exact⟨h,by simp⟩
  ·rintro ⟨h,_⟩
   refine⟨?_,h⟩
   cases hd:dq c with
   | true=>rfl
   | false=>
    have e:bk dq (c::r) 0=0:=kC (c:=c) rfl hd
    unfold dk at h
    rw[e,if_pos (.inl rfl)]at h
    simp at h
theorem Fh{s:Bs}{i:Nat}{c:UInt8}(hi:i<(bg s).length)(hc:s[i]?=some c):(bg s)[i]?=some c/\qW c=true:=by
 have h:(bg s)[i]?=some c:=by
  rw[oh,List.getElem?_take_of_lt hi,hc]
 refine⟨h,?_⟩
 have:=List.all_takeWhile (p:=qW) (l:=s)
 exact List.all_eq_true.1 this _ (QY h)
theorem Dx{s:Bs}{c:UInt8}(hc:s[(bg s).length]?=some c):c.toNat=46:=by
 rw[uq]at hc
 have:=rU hc
 simpa[qW] using this
theorem CX{l:List Nat}(h:∀d∈l,d<=9){n:Nat}(hn:n<2147483648)(k:Nat):(bits l n k).1<2 ^ (31+k):=by
 have h1:=po l n k
 have h2:=mJ h
 have h3:n*10 ^ l.length+fB l<2147483648*10 ^ l.length:=by
  have:n*10 ^ l.length+10 ^ l.length<=2147483648*10 ^ l.length:=by
   rw[<- Nat.succ_mul]; exact Nat.mul_le_mul_right _ hn
  omega
 have hp:0<10 ^ l.length:=Nat.pos_of_ne_zero (by simp)
 have h4:(bits l n k).1*10 ^ l.length<2 ^ (31+k)*10 ^ l.length:=by
  calc (bits l n k).1*10 ^ l.length<=2 ^ k*(n*10 ^ l.length+fB l):=om
   _<2 ^ k*(2147483648*10 ^ l.length):=Nat.mul_lt_mul_of_pos_left h3 (Nat.pos_of_ne_zero (by simp))
   _=2 ^ (31+k)*10 ^ l.length:=by rw[<- Nat.mul_assoc,Nat.pow_add,Nat.mul_comm (2 ^ k)]
 exact Nat.lt_of_mul_lt_mul_right h4
theorem v7(h13:aA.is 157=false)(h36:aA.is 156=false)(h54:aA.is 159=false)
  {H:aa} {s:Bs} (hs:s.length<=1099511627776):aq Tryz.prog aA 157 [.str s] H fun v H'=>v=Ac (fD s)/\aS H.next H H':=by
 refine af h13 Nn rfl ?_
 simp only[OM,sA,sB,seval]
 refine (nq h36 h54 (Nat.zero_le _) om).mono ?_
 rintro v _ ⟨rfl,rfl⟩
 have hle:=oO (s:=s) (Nat.zero_le _)
 by_cases hn:dk s 0=s.length
 ·have hn':((dk s 0-0:Nat):Int)=(s.length:Int):=om
  by_cases h0:s.length=0
  ·have h0':(s.length:Int)=0:=om
   have e:fD s=none:=by
    unfold fD
    rw[if_neg (by rw[pR]; rintro ⟨⟨_,h⟩,_⟩; exact h h0)]
   rw[e]
   simp only[sA,sB,seval,hn',h0']
   exact⟨by trivial,aS.refl _ _⟩
  have h0':¬(s.length:Int)=0:=om
  have hnum:lR s=true:=(pR s).2 ⟨hn,h0⟩
  obtain⟨hw,hb⟩:=yp hnum
  simp only[sA,sB,seval,hn',h0']
  have hwl:=rC s
  have hbl:(behind s).length=s.length-((bg s).length+1):=by rw[iU]; simp
  have hsay:fD s=if du (bg s)<2147483648 then some (du (bg s)*2 ^ 32+lX (ji (behind s))) else none:=by simp[fD,hnum]
  rw[hsay]
  refine fu (fun (T:bG) H'=>T 0=.str s/\T 5=.int .i64 ((bg s).length:Int)/\T 4=.int .i64 (du (bg s):Int)/\du (bg s)<2147483648/\H=H') (bH _ _) ?_ ?_
  ·refine aG (fun q (T:bG) H'=>∃i:Nat,i<=(bg s).length/\q=(bg s).length-i/\T 0=.str s/\T 4=.int .i64 (du ((bg s).take i):Int)/\du ((bg s).take i)<2147483648/\T 5=.int .i64 (i:Int)/\H=H') (bg s).length
    ⟨0,Nat.zero_le _,rfl,rfl,rfl,by simp[du],rfl,rfl⟩ ?_
   rintro q T _ ⟨i,hi,rfl,g0,g4,hv,g5,rfl⟩
   by_cases hlt:i<(bg s).length
   ·have hlt':(i:Int)<(s.length:Int):=om
    obtain⟨c,hc⟩:=aN (l:=s) (i:=i) om
    obtain⟨hcw,hnp⟩:=Fh hlt hc
    have hdc:=hw c (QY hcw)
    have hnp':¬(c.toNat:Int)=46:=by simp[qW]at hnp; omega
    have hdv:(c.toNat:Int)-48=((dv c:Nat):Int):=by simp[dq]at hdc; unfold dv; omega
    have hd9:dv c<=9:=by simp[dq]at hdc; unfold dv; omega
    have hw1:IntKind.u8.wrap ((dv c:Nat):Int)=((dv c:Nat):Int):=fo om om
    have hw2:IntKind.i64.wrap ((dv c:Nat):Int)=((dv c:Nat):Int):=bj om om
    have hw3:IntKind.i64.wrap ((du ((bg s).take i):Int)*10)=((du ((bg s).take i)*10:Nat):Int):=by rw[bj om om]; omega
    have hw4:IntKind.i64.wrap (((du ((bg s).take i)*10:Nat):Int)+((dv c:Nat):Int))=((du ((bg s).take (i+1)):Nat):Int):=by
     rw[bj om om,List.take_add_one,hcw,Option.toList_some,xq]; omega
    simp only[sA,sB,seval,g0,g4,g5,hlt',bq hc,hnp',hdv,hw1,hw2,hw3,hw4]
    by_cases hbig:du ((bg s).take (i+1))<2147483648
    ·have hbig':¬(2147483648:Int)<=((du ((bg s).take (i+1)):Nat):Int):=om
     simp only[sA,sB,seval,g0,g4,g5,hbig',de i om]
     exact⟨_,om,i+1,om,rfl,by trivial,rfl,hbig,rfl,by trivial⟩
    ·have hbig':(2147483648:Int)<=((du ((bg s).take (i+1)):Nat):Int):=om
     have:=qi (bg s) (i+1)
     simp only[sA,sB,seval,g0,g4,g5,hbig']
     exact⟨by rw[if_neg om]; rfl,aS.refl _ _⟩
   ·obtain rfl:i=(bg s).length:=om
    rw[List.take_length]at g4 hv
    by_cases hlt2:(bg s).length<s.length
    ·have hlt':((bg s).length:Int)<(s.length:Int):=om
     obtain⟨c,hc⟩:=aN hlt2
     have h46:(c.toNat:Int)=46:=by have:=Dx hc; omega
     simp only[sA,sB,seval,g0,g4,g5,hlt',bq hc,h46]
     exact⟨by trivial,by trivial,by trivial,hv,by trivial⟩
    ·have hlt':¬((bg s).length:Int)<(s.length:Int):=om
     simp only[sA,sB,seval,g0,g4,g5,hlt']
     exact⟨by trivial,by trivial,by trivial,hv,by trivial⟩
  rintro T _ ⟨g0,g5,g4,hv,rfl⟩
  rw[if_pos hv]
  have hget:∀m,(behind s)[m]?=s[(bg s).length+1+m]?:=fun m=>by rw[iU,List.getElem?_drop]
  generalize du (bg s)=w at *
  generalize (bg s).length=e at *
  generalize behind s=t at *
  simp only[sA,sB,seval,g0,g4,g5,de e om]
  refine fu (fun (T:bG) H'=>T 4=.int .i64 (w:Int)/\BO H.next H' (T 6) (AQ (ji t))/\aS H.next H H') (bH _ _) ?_ ?_
  ·refine aG (fun q (T:bG) H'=>∃m:Nat,m<=t.length/\q=t.length-m/\T 0=.str s/\T 4=.int .i64 (w:Int)/\T 7=.int .i64 ((e+1+m:Nat):Int)/\BO H.next H' (T 6) (AQ (ji (t.take m)))/\aS H.next H H') t.length
    ⟨0,Nat.zero_le _,rfl,by simp only[sA,sB,seval,g0],by simp only[sA,sB,seval,g4],by simp only[sA,sB,seval]; try rfl,by simp only[sA,sB,seval]; exact BO.nil _ _,aS.refl _ _⟩ ?_
   clear g0 g4 g5
   rintro q T H1 ⟨m,hm,rfl,g0,g4,g7,hA,hE⟩
   by_cases hlt:m<t.length
   ·have hlt':((e+1+m:Nat):Int)<(s.length:Int):=om
    obtain⟨c,hc⟩:=aN hlt
    have hcs:=(hget m).symm.trans hc
    have hdc:=hb c (QY hc)
    have hdv:(c.toNat:Int)-48=((dv c:Nat):Int):=by simp[dq]at hdc; unfold dv; omega
    have hd9:dv c<=9:=by simp[dq]at hdc; unfold dv; omega
    have hw1:IntKind.u8.wrap ((dv c:Nat):Int)=((dv c:Nat):Int):=fo om om
    have hw2:IntKind.i64.wrap ((dv c:Nat):Int)=((dv c:Nat):Int):=bj om om
    obtain⟨s',H2,e1,e2,e3⟩:=hA.push (bytes:=8) (by have:=hE.next; omega) (x:=.int .i64 ((dv c:Nat):Int)) rfl (by simp[AQ,ji]; omega) om
    simp only[sA,sB,seval,g0,g4,g7,hlt',bq hcs,hdv,hw1,hw2,fS _ _ (x:=.int .i64 ((dv c:Nat):Int)) rfl,e1,de (e+1+m) om]
    refine⟨_,om,m+1,om,rfl,by trivial,by trivial,rfl,?_,hE.trans e3⟩
    rw[List.take_add_one,hc]
    simpa[ji,AQ] using e2
   ·obtain rfl:m=t.length:=om
    have hlt':¬((e+1+t.length:Nat):Int)<(s.length:Int):=om
    rw[List.take_length]at hA
    simp only[sA,sB,seval,g0,g4,g7,hlt']
    exact⟨by trivial,hA,hE⟩
  clear g0 g4 g5
  rintro T H1 ⟨g4,hA,hE⟩
  have hd9:=qZ hb
  have htl:(ji t).length<=1099511627776:=by simp[ji]; omega
  generalize ji t=l at *
  simp only[sA,sB,seval,g4]
  refine aG (fun q (T:bG) H'=>∃k:Nat,k<=32/\q=32-k/\T 8=.int .i64 ((bits l w k).1:Int)/\T 9=.int .i64 (k:Int)/\BO H.next H' (T 6) (AQ (bits l w k).2)/\aS H.next H H') 32
   ⟨0,Nat.zero_le _,rfl,by simp only[sA,sB,seval]; try rfl,by simp only[sA,sB,seval]; try rfl,by simp only[sA,sB,seval]; exact hA,hE⟩ ?_
  clear g4 hA hE T H1
  rintro q T H1 ⟨k,hk,rfl,g8,g9,hA,hE⟩
  by_cases hlt:k<32
  ·have hlt':(k:Int)<32:=om
   have hb9:=tv hd9 w k
   have hbl:=mw l w k
   have hbv:=CX hd9 hv k
   have hbv1:=CX hd9 hv (k+1)
   have hpk:(2:Nat) ^ (31+(k+1))<=2 ^ 63:=Nat.pow_le_pow_right om om
   have hbits:bits l w (k+1)=(2*(bits l w k).1+(jm (bits l w k).2).1,(jm (bits l w k).2).2):=rfl
   rw[hbits]at hbv1
   simp only[sA,sB,seval,g8,g9,hlt',hA.cel.len,Cu,hbl]
   generalize hm:(bits l w k).2=m at *
   generalize hout:(bits l w k).1=out at *
   have hov:=mq hb9
   have hw0:IntKind.i64.wrap ((l.length:Int)-1)=(l.length:Int)-1:=bj om om
   generalize hsl:T 6=sl at *
   refine fu (fun (T:bG) H'=>T 8=.int .i64 (out:Int)/\T 9=.int .i64 (k:Int)/\T 10=.int .i64 ((jm m).1:Int)/\BO H.next H' (T 6) (AQ (jm m).2)/\aS H.next H H') (bH _ _) ?_ ?_
   ·refine aG (fun q (T:bG) H'=>∃j:Nat,j<=m.length/\j=q/\T 6=sl/\T 8=.int .i64 (out:Int)/\T 9=.int .i64 (k:Int)/\T 10=.int .i64 ((jm (m.drop j)).1:Int)/\T 11=.int .i64 ((j:Int)-1)/\BO H.next H' sl (AQ (oX m j))/\aS H.next H H') m.length
     ⟨m.length,om,rfl,by simp only[sA,sB,seval,hsl],by simp only[sA,sB,seval,g8],by simp only[sA,sB,seval,g9],by simp only[sA,sB,seval]; rw[List.drop_eq_nil_of_le om]; rfl,by simp only[sA,sB,seval,hw0,hbl],by rw[yD]; exact hA,hE⟩ ?_
    clear g8 g9 hA hE hsl T H1
    rintro q T H1 ⟨j,hj,rfl,g6,g8,g9,g10,g11,hA,hE⟩
    cases j with
    | zero=>
     have c0:¬(0:Int)<=((0:Nat):Int)-1:=om
     rw[List.drop_zero]at g10
     rw[vg]at hA
     simp only[sA,sB,seval,g6,g8,g9,g10,g11,c0]
     exact⟨by trivial,by trivial,by trivial,hA,hE⟩
    | succ j=>
     have c0:(0:Int)<=((j+1:Nat):Int)-1:=om
     have ej:((j+1:Nat):Int)-1=(j:Int):=om
     rw[ej]at g11 c0
     obtain⟨d,hdd⟩:=aN (l:=m) (i:=j) om
     have hdn:=hb9 d (QY hdd)
     have ho:=mq (l:=m.drop (j+1)) fun x hx=>hb9 x (List.mem_of_mem_drop hx)
     have hset:=yB hdd
     have hdr:jm (m.drop j)=((d*2+(jm (m.drop (j+1))).1) / 10,(d*2+(jm (m.drop (j+1))).1) % 10::(jm (m.drop (j+1))).2):=by rw[wH hdd]; rfl
     generalize (jm (m.drop (j+1))).1=o at *
     have hjl:j<(AQ (oX m (j+1))).length:=by rw[Cu,sP]; omega
     have ia:=hA.cel.idx .i64 hjl
     have l1:=hA.cel.load (Jz (yC hdd))
     have w1:IntKind.i64.wrap ((d:Int)*2)=((d*2:Nat):Int):=by rw[bj om om]; omega
     have w2:IntKind.i64.wrap (((d*2:Nat):Int)+(o:Int))=((d*2+o:Nat):Int):=by rw[bj om om]; omega
     have e3:be .rem (.int .i64 ((d*2+o:Nat):Int)) (.int .i64 10)=some (.int .i64 (((d*2+o) % 10:Nat):Int)):=by
      rw[kR _ _ _ om]; rfl
     have e4:be .quo (.int .i64 ((d*2+o:Nat):Int)) (.int .i64 10)=some (.int .i64 (((d*2+o) / 10:Nat):Int)):=by
      rw[kS _ _ _ om]
      have:((d*2+o:Nat):Int).tdiv 10=(((d*2+o) / 10:Nat):Int):=rfl
      rw[this,bj om om]
     obtain⟨H2,m2,r2,n2⟩:=EY hA hjl (x:=.int .i64 (((d*2+o) % 10:Nat):Int)) rfl
     have hwj:IntKind.i64.wrap ((j:Int)-1)=(j:Int)-1:=bj om om
     simp only[sA,sB,seval,g6,g8,g9,g10,g11,c0,ia,l1,w1,w2,e3,e4,m2,hwj]
     refine⟨_,Nat.lt_succ_self j,j,om,rfl,by trivial,by trivial,by trivial,by rw[hdr],by trivial,?_,hE.trans n2⟩
     rw[<- hset,Jy]
     exact r2
   clear g8 g9 hA hE hsl T H1
   rintro T H1 ⟨g8,g9,g10,hA,hE⟩
   have w1:IntKind.i64.wrap ((out:Int)*2)=((2*out:Nat):Int):=by rw[bj om om]; omega
   have w2:IntKind.i64.wrap (((2*out:Nat):Int)+((jm m).1:Int))=((2*out+(jm m).1:Nat):Int):=by rw[bj om om]; omega
   simp only[sA,sB,seval,g8,g9,g10,w1,w2,de k om]
   exact⟨_,om,k+1,om,rfl,by rw[hbits],rfl,by rw[hbits]; exact hA,hE⟩
  obtain rfl:k=32:=om
  have hlast:=vA hd9 w
  rw[hlast]at g8
  simp only[sA,sB,seval,g8,g9,Int.cast_ofNat_Int,Int.lt_irrefl]
  exact⟨by rw[Nat.mul_comm]; rfl,hE⟩
 ·have hn':¬((dk s 0-0:Nat):Int)=(s.length:Int):=om
  have e:fD s=none:=by
   unfold fD
   rw[if_neg (by rw[pR]; rintro ⟨⟨h,_⟩,_⟩; exact hn h)]
  rw[e]
  simp only[sA,sB,seval,hn']
  exact⟨by trivial,aS.refl _ _⟩
open Go.Abs Go.Abs.S
def At(n:Nat):List Nat:=if h:n<10 then [n] else n % 10::At (n / 10)
termination_by n
decreasing_by omega
def eg(n:Nat):List Nat:=(At n).reverse
theorem Jc{n:Nat}(h:n<10):At n=[n]:=by rw[At,dif_pos h]
theorem Jd{n:Nat}(h:¬n<10):At n=n % 10::At (n / 10):=by rw[At,dif_neg h]
theorem iN{n:Nat}(h:n<10):eg n=[n]:=by rw[eg,Jc h]; rfl
theorem pc{n:Nat}(h:¬n<10):eg n=eg (n / 10)++[n % 10]:=by rw[eg,Jd h]; simp[eg]
def gG:Nat->Nat->List Nat
 | 0,_=>[]
 | k+1,r=>if r=0 then [] else r*10 / 4294967296::gG k (r*10 % 4294967296)
def gU(l:List Nat):Bs:=l.map fun d=>UInt8.ofNat (48+d)
theorem BD(a b:List Nat):gU (a++b)=gU a++gU b:=by simp[gU]
theorem pq(l:List Nat):(gU l).length=l.length:=by simp[gU]
def ib(r:Nat):Bs:=if r=0 then [] else 46::gU (gG 32 r)
def cm(n:Int):Bs:=(if n<0 then [45] else [])++(gU (eg (n.natAbs / 4294967296))++ib (n.natAbs % 4294967296))
theorem Eo(k r:Nat):(gG k r).length<=k:=by
 induction k generalizing r with
 | zero=>simp[gG]
 | succ k ih=>
  rw[gG]
  split
  ·simp
  ·have:=ih (r*10 % 4294967296); simp; omega
theorem pa(k:Nat):∀n,n<10 ^ (k+1)->(eg n).length<=k+1:=by
 induction k with
 | zero=>intro n h; rw[iN (by simpa using h)]; simp
 | succ k ih=>
  intro n h
  by_cases hn:n<10
  ·rw[iN hn]; simp
  ·rw[pc hn]
   have:=ih (n / 10) (by rw[Nat.pow_succ]at h; omega)
   simp; omega
open Go.Abs Go.Abs.S
theorem ky{a:Int}(h1:0<=a)(h2:a<18446744073709551616):IntKind.u64.wrap a=a:=by
 rw[IntKind.wrap_u64]; omega
theorem Ft(k:IntKind)(n:Int):J8 .neg (.int k n)=some (.int k (k.wrap (0-n))):=by
 simp only[J8,nA]
theorem wR(H:aa)(n:Nat):EQ (H.push (.cells [.int .u8 (n:Int)] 0 false)) (AC H)=some (.str [UInt8.ofNat n]):=by
 have:=eP (H:=H.push (.cells [.int .u8 (n:Int)] 0 false)) (b:=H.next) (l:=[.int .u8 (n:Int)]) (low:=0) (ro:=false) (by rw[aa.get_push,if_pos rfl]) (by simp)
 simp only[QU,QV,Nat.zero_add]at this
 simp only[EQ,AC,this,jE,Int.toNat_natCast]
theorem vj{k r:Nat}(hk:k<=32)(hr:r<4294967296)(hd:2 ^ (32-k) ∣ r)(h0:r≠0):∃k',k=k'+1/\gG k r=r*10 / 4294967296::gG k' (r*10 % 4294967296)/\2 ^ (32-k') ∣ r*10 % 4294967296:=by
 cases k with
 | zero=>
  exfalso
  obtain⟨c,hc⟩:=hd
  simp only[Nat.sub_zero]at hc
  have:c≠0:=by rintro rfl; simp at hc; exact h0 hc
  have:2 ^ 32*1<=2 ^ 32*c:=Nat.mul_le_mul_left _ om
  omega
 | succ k=>
  refine⟨k,rfl,by rw[gG,if_neg h0],?_⟩
  have e:32-k=(32-(k+1))+1:=om
  have h1:2 ^ (32-k) ∣ r*10:=by
   obtain⟨c,hc⟩:=hd
   refine⟨c*5,?_⟩
   rw[e,Nat.pow_succ]
   generalize 2 ^ (32-(k+1))=p at *
   subst hc
   rw[Nat.mul_assoc p 2,Nat.mul_assoc p c 10]
   congr 1
   omega
  have h2:2 ^ (32-k) ∣ 4294967296:=by
   have:=Nat.pow_dvd_pow 2 (show 32-k<=32 by omega)
   exact this
  exact (Nat.dvd_mod_iff h2).2 h1
def tl:cp->cp
 | .seq _ b=>b
 | c=>c
def wJ:cp:=tl (tl (tl (tl (tl yZ.body))))
theorem HX(n:Nat):gU (eg n)≠[]:=by
 by_cases h:n<10
 ·rw[iN h]; simp[gU]
 ·rw[pc h]; simp[gU]
theorem FF{sg:Bs}(hsg:sg.length<=1){a r:Nat}(ha:a<=2147483648)(hr:r<4294967296){T:bG}(g3:T 3=.str sg)(g5:T 5=.int .u64 (a:Int))(g6:T 6=.int .u64 (r:Int))(g7:T 7=.str []){H:aa} :
  wp (aq Tryz.prog aA) wJ (dM yZ.res fun v H'=>v=.str (sg++(gU (eg a)++ib r))/\aS H.next H H') T H:=by
 have hl10:(gU (eg a)).length<=10:=by rw[pq]; exact pa 9 a om
 simp only[wJ,tl,yZ,sA,sB,seval]
 refine fu (fun (T:bG) H'=>T 3=.str sg/\T 6=.int .u64 (r:Int)/\T 7=.str (gU (eg a))/\aS H.next H H') (bH _ _) ?_ ?_
 ·refine aG (fun q (T:bG) H'=>∃(b:Nat) (acc:Bs),b<=a/\q=b+(if acc=[] then 1 else 0)/\T 3=.str sg/\T 5=.int .u64 (b:Int)/\T 6=.int .u64 (r:Int)/\T 7=.str acc/\gU (eg a)=(if b=0/\acc≠[] then [] else gU (eg b))++acc/\aS H.next H H') (a+1)
   ⟨a,[],Nat.le_refl _,rfl,g3,g5,g6,g7,by simp,aS.refl _ _⟩ ?_
  clear g3 g5 g6 g7 T
  rintro q T H1 ⟨b,acc,hb,rfl,g3,g5,g6,g7,hA,hE⟩
  by_cases hgo:0<b∨acc=[]
  ·have hif:¬(b=0/\acc≠[]):=by rintro ⟨e1,e2⟩; rcases hgo with h | h; omega; exact e2 h
   rw[if_neg hif]at hA
   have w1:((b:Int)).tmod 10=((b % 10:Nat):Int):=rfl
   have w2:((b:Int)).tdiv 10=((b / 10:Nat):Int):=rfl
   have w3:IntKind.u64.wrap (48+((b % 10:Nat):Int))=((48+b % 10:Nat):Int):=by rw[ky om om]; omega
   have w4:IntKind.u8.wrap ((48+b % 10:Nat):Int)=((48+b % 10:Nat):Int):=fo om om
   have w5:IntKind.u64.wrap ((b / 10:Nat):Int)=((b / 10:Nat):Int):=ky om om
   have hlen:acc.length<=10:=by rw[hA]at hl10; simp at hl10; omega
   have hadd:=aM (x:=[UInt8.ofNat (48+b % 10)]) (y:=acc) (by simp; omega)
   have e1:=kR .u64 (b:Int) 10 om
   have e2:=kS .u64 (b:Int) 10 om
   have hstep:gU (eg a)=(if b / 10=0/\[UInt8.ofNat (48+b % 10)]++acc≠[] then [] else gU (eg (b / 10)))++([UInt8.ofNat (48+b % 10)]++acc):=by
    rw[hA]
    by_cases h10:b<10
    ·have h0:b / 10=0:=om
     have hm:b % 10=b:=om
     rw[iN h10,if_pos ⟨h0,by simp⟩,hm]
     simp[gU]
    ·rw[pc h10,if_neg om,BD]
     simp[gU]
   rcases hgo with h | h
   ·have hgo':(0:Int)<(b:Int):=om
    simp only[sA,sB,seval,g3,g5,g6,g7,hgo',e1,e2,w1,w2,w3,w4,w5,fS _ _ (x:=.int .u8 ((48+b % 10:Nat):Int)) rfl,wR,hadd]
    refine⟨_,?_,b / 10,_,om,rfl,by trivial,rfl,by trivial,rfl,hstep,hE.push hE.next _⟩
    simp; split <;> omega
   ·subst h
    by_cases hz:(0:Int)<(b:Int)
    ·simp only[sA,sB,seval,g3,g5,g6,g7,hz,e1,e2,w1,w2,w3,w4,w5,fS _ _ (x:=.int .u8 ((48+b % 10:Nat):Int)) rfl,wR,hadd]
     refine⟨_,?_,b / 10,_,om,rfl,by trivial,rfl,by trivial,rfl,hstep,hE.push hE.next _⟩
     simp; omega
    ·simp only[sA,sB,seval,g3,g5,g6,g7,hz,e1,e2,w1,w2,w3,w4,w5,fS _ _ (x:=.int .u8 ((48+b % 10:Nat):Int)) rfl,wR,hadd]
     refine⟨_,?_,b / 10,_,om,rfl,by trivial,rfl,by trivial,rfl,hstep,hE.push hE.next _⟩
     simp; omega
  ·have hb0:b=0:=om
   have hne:¬acc=[]:=fun h=>hgo (.inr h)
   subst hb0
   rw[if_pos ⟨rfl,hne⟩]at hA
   have hz:¬(0:Int)<((0:Nat):Int):=om
   simp only[sA,sB,seval,g3,g5,g6,g7,hz,hne]
   exact⟨by trivial,by trivial,by rw[hA]; rfl,hE⟩
 clear g3 g5 g6 g7 T
 rintro T H1 ⟨g3,g6,g7,hE⟩
 generalize gU (eg a)=w at *
 by_cases hr0:r=0
 ·subst hr0
  have hz:¬(0:Int)<((0:Nat):Int):=om
  simp only[sA,sB,seval,g3,g6,g7,hz]
  refine aG (fun q (T:bG) H'=>T 3=.str sg/\T 6=.int .u64 0/\T 7=.str w/\aS H.next H H') 0 ⟨g3,g6,g7,hE⟩ ?_
  clear g3 g6 g7 hE T H1
  rintro q T H1 ⟨g3,g6,g7,hE⟩
  have hadd:=aM (x:=sg) (y:=w) om
  simp only[sA,sB,seval,g3,g6,g7,Int.lt_irrefl,hadd]
  exact⟨by simp[ib],hE⟩
 ·have hz:(0:Int)<(r:Int):=om
  have hadd:=aM (x:=w) (y:=[46]) (by simp; omega)
  have ht:ib r=[46]++gU (gG 32 r):=by rw[ib,if_neg hr0]; rfl
  rw[ht]
  simp only[sA,sB,seval,g3,g6,g7,hz,hadd]
  refine aG (fun q (T:bG) H'=>∃(x:Nat) (acc:Bs),q<=32/\x<4294967296/\2 ^ (32-q) ∣ x/\acc.length+q<=50/\T 3=.str sg/\T 6=.int .u64 (x:Int)/\T 7=.str acc/\acc++gU (gG q x)=w++([46]++gU (gG 32 r))/\aS H.next H H') 32
   ⟨r,w++[46],Nat.le_refl _,hr,by simp,by simp; omega,by simp only[sA,sB,seval,g3],by simp only[sA,sB,seval,g6],by simp only[sA,sB,seval],by simp,hE⟩ ?_
  clear g3 g6 g7 hE T H1 hadd
  rintro q T H1 ⟨x,acc,hq,hx,hdv,hal,g3,g6,g7,hA,hE⟩
  by_cases hx0:x=0
  ·subst hx0
   have hz:¬(0:Int)<((0:Nat):Int):=om
   have hf:gG q 0=[]:=by cases q <;> simp[gG]
   rw[hf]at hA
   simp only[gU,List.map_nil,List.append_nil]at hA
   have hadd:=aM (x:=sg) (y:=acc) om
   simp only[sA,sB,seval,g3,g6,g7,hz,hadd]
   exact⟨by rw[hA]; rfl,hE⟩
  ·obtain⟨k',rfl,hf,hdv'⟩:=vj hq hx hdv hx0
   have hz:(0:Int)<(x:Int):=om
   have w1:IntKind.u64.wrap ((x:Int)*10)=((x*10:Nat):Int):=by rw[ky om om]; omega
   have w2:(((x*10:Nat):Int)).tdiv 4294967296=((x*10 / 4294967296:Nat):Int):=rfl
   have w3:(((x*10:Nat):Int)).tmod 4294967296=((x*10 % 4294967296:Nat):Int):=rfl
   have w4:IntKind.u64.wrap ((x*10 / 4294967296:Nat):Int)=((x*10 / 4294967296:Nat):Int):=ky om om
   have w5:IntKind.u64.wrap (48+((x*10 / 4294967296:Nat):Int))=((48+x*10 / 4294967296:Nat):Int):=by rw[ky om om]; omega
   have w6:IntKind.u8.wrap ((48+x*10 / 4294967296:Nat):Int)=((48+x*10 / 4294967296:Nat):Int):=fo om om
   have e1:=kR .u64 ((x*10:Nat):Int) 4294967296 om
   have e2:=kS .u64 ((x*10:Nat):Int) 4294967296 om
   have hadd:=aM (x:=acc) (y:=[UInt8.ofNat (48+x*10 / 4294967296)]) (by simp; omega)
   simp only[sA,sB,seval,g3,g6,g7,hz,w1,e1,e2,w2,w3,w4,w5,w6,fS _ _ (x:=.int .u8 ((48+x*10 / 4294967296:Nat):Int)) rfl,wR,hadd]
   refine⟨k',om,x*10 % 4294967296,_,om,om,hdv',?_,by trivial,rfl,rfl,?_,hE.push hE.next _⟩
   ·simp; omega
   ·refine Eq.trans ?_ hA
    rw[hf]; simp[gU]
theorem Ar(h10:aA.is 121=false){n:Int}(h1:-9223372036854775808<=n)(h2:n<=9223372036854775807){H:aa} :
  aq Tryz.prog aA 121 [.int .i64 n] H fun v H'=>v=.str (cm n)/\aS H.next H H':=by
 refine af h10 NF rfl ?_
 have hsz:n.natAbs<=9223372036854775808:=om
 have e1:=kR .u64 ((n.natAbs:Nat):Int) 4294967296 om
 have e2:=kS .u64 ((n.natAbs:Nat):Int) 4294967296 om
 have w3:(((n.natAbs:Nat):Int)).tdiv 4294967296=((n.natAbs / 4294967296:Nat):Int):=rfl
 have w4:(((n.natAbs:Nat):Int)).tmod 4294967296=((n.natAbs % 4294967296:Nat):Int):=rfl
 have w5:IntKind.u64.wrap ((n.natAbs / 4294967296:Nat):Int)=((n.natAbs / 4294967296:Nat):Int):=ky om om
 by_cases hneg:n<0
 ·have w1:IntKind.u64.wrap n=n+18446744073709551616:=by rw[IntKind.wrap_u64]; omega
  have w2:IntKind.u64.wrap (0-(n+18446744073709551616))=(n.natAbs:Int):=by rw[IntKind.wrap_u64]; omega
  have hd:cm n=[45]++(gU (eg (n.natAbs / 4294967296))++ib (n.natAbs % 4294967296)):=by rw[cm,if_pos hneg]
  rw[hd]
  have t:=fun (T:bG) g3 g5 g6 g7=>FF (sg:=[45]) (by simp) (a:=n.natAbs / 4294967296) om (r:=n.natAbs % 4294967296) om (T:=T) g3 g5 g6 g7 (H:=H)
  simp only[wJ,tl,yZ,wT,dS]at t
  simp only[yZ,sA,sB,seval,hneg,w1,Ft,w2,e1,e2,w3,w4,w5]
  refine t _ ?_ ?_ ?_ ?_ <;> simp only[sA,sB,seval]
 ·have w1:IntKind.u64.wrap n=(n.natAbs:Int):=by rw[IntKind.wrap_u64]; omega
  have hd:cm n=[]++(gU (eg (n.natAbs / 4294967296))++ib (n.natAbs % 4294967296)):=by rw[cm,if_neg hneg]
  rw[hd]
  have t:=fun (T:bG) g3 g5 g6 g7=>FF (sg:=[]) (by simp) (a:=n.natAbs / 4294967296) om (r:=n.natAbs % 4294967296) om (T:=T) g3 g5 g6 g7 (H:=H)
  simp only[wJ,tl,yZ,wT,dS]at t
  simp only[yZ,sA,sB,seval,hneg,w1,e1,e2,w3,w4,w5]
  refine t _ ?_ ?_ ?_ ?_ <;> simp only[sA,sB,seval]
open Go.Abs Go.Abs.S
def kY(s:Bs):Bool:=decide (s=[108,101,116])||(decide (s=[115,101,116])||(decide (s=[105,102])||(decide (s=[101,108,115,101])||(decide (s=[119,104,105,108,101])||decide (s=[114,101,116,117,114,110])))))
theorem GR(hN:aA.is 110=false)(s:Bs){H:aa}:aq Tryz.prog aA 110 [.str s] H fun v H'=>v=.bool (kY s)/\H=H':=by
 refine af hN NP rfl ?_
 unfold kY
 by_cases h1:s=[108,101,116]
 ·subst h1; simp only[y7,sA,sB,seval]; exact⟨by simp,by trivial⟩
 by_cases h2:s=[115,101,116]
 ·subst h2; simp only[y7,sA,sB,seval,h1]; exact⟨by simp,by trivial⟩
 by_cases h3:s=[105,102]
 ·subst h3; simp only[y7,sA,sB,seval,h1,h2]; exact⟨by simp,by trivial⟩
 by_cases h4:s=[101,108,115,101]
 ·subst h4; simp only[y7,sA,sB,seval,h1,h2,h3]; exact⟨by simp,by trivial⟩
 by_cases h5:s=[119,104,105,108,101]
 ·subst h5; simp only[y7,sA,sB,seval,h1,h2,h3,h4]; exact⟨by simp,by trivial⟩
 by_cases h6:s=[114,101,116,117,114,110]
 ·subst h6; simp only[y7,sA,sB,seval,h1,h2,h3,h4,h5]; exact⟨by simp,by trivial⟩
 simp only[y7,sA,sB,seval,h1,h2,h3,h4,h5,h6]
 exact⟨by simp,by trivial⟩
def pre(s t:Bs):Bool:=decide (s.take t.length=t)
theorem Gj(h51:aA.is 154=false)(h75:aA.is 183=false)(s t:Bs){H:aa}:aq Tryz.prog aA 154 [.str s,.str t] H fun v H'=>v=.bool (pre s t)/\H=H':=by
 refine af h51 Nr rfl ?_
 simp only[OP,sA,sB,seval]
 have key:aq Tryz.prog aA 183 [.str s,.str t] H fun v H'=>v=.bool (pre s t)/\H=H':=by
  refine af h75 M9 rfl ?_
  by_cases h:t.length<=s.length
  ·have h':(t.length:Int)<=(s.length:Int):=om
   simp only[Mg,sA,sB,seval,h',ov h]
   exact⟨by trivial,by trivial⟩
  ·have h':¬(t.length:Int)<=(s.length:Int):=om
   have e:pre s t=false:=by
    unfold pre
    rw[decide_eq_false]
    intro he
    have:=congrArg List.length he
    simp at this; omega
   simp only[Mg,sA,sB,seval,h',e]
   exact⟨by trivial,by trivial⟩
 refine key.mono ?_
 rintro v _ ⟨rfl,rfl⟩
 simp only[sA,sB,seval]
 exact⟨by trivial,by trivial⟩
theorem EB(s:Bs)(n:Nat):IU 10 s n=n+s.count 10:=by
 induction s generalizing n with
 | nil=>simp[IU]
 | cons c r ih=>
  rw[IU]
  by_cases h:c=10
  ·subst h
   have e:Nat.beq (UInt8.toNat 10) 10=true:=rfl
   rw[e,cond_true,ih]; simp; omega
  ·have e:Nat.beq c.toNat 10=false:=by
    cases hb:Nat.beq c.toNat 10 with
    | false=>rfl
    | true=>exact absurd (UInt8.toNat_inj.1 (QX hb)) h
   rw[e,cond_false,ih,List.count_cons_of_ne (by exact h)]
theorem Bl(hN:aA.is 102=false)(s:Bs){H:aa}:aq Tryz.prog aA 102 [.str s,.str [10]] H fun v H'=>v=.int .i64 (s.count 10:Int)/\H=H':=by
 refine af hN N1 rfl ?_
 have hl1:((List.length [(10:UInt8)]:Nat):Int)=1:=rfl
 have i0:kr (.str [10]) (.int .i64 0)=some (.int .u8 10):=rfl
 have e:jt .cbs [.str s,.int .u8 10]=some (.int .i64 (s.count 10:Int)):=by
  have:jt .cbs [.str s,.int .u8 10]=some (.int .i64 (IU 10 s 0:Int)):=rfl
  rw[this,EB,Nat.zero_add]
 simp only[Pa,sA,sB,seval,hl1,i0,e]
 exact⟨by trivial,by trivial⟩
theorem pQ(hN:aA.is 113=false){s:Bs}{i:Nat}(hi:i<=s.length)(hs:s.length<=4611686018427387904){H:aa}:aq Tryz.prog aA 113 [.str s,.int .i64 (i:Int)] H fun v H'=>v=.int .i64 (bz s i:Int)/\H=H':=by
 refine af hN NM rfl ?_
 simp only[O2,sA,sB,seval]
 refine aG (fun q (T:bG) H'=>∃j:Nat,j<=i/\q=i-j/\T 0=.str s/\T 1=.int .i64 (i:Int)/\T 5=.int .i64 (bz s j:Int)/\bz s j<=j+1/\T 6=.int .i64 (j:Int)/\H=H') i ⟨0,Nat.zero_le _,rfl,rfl,rfl,rfl,by simp[bz],rfl,rfl⟩ ?_
 rintro q T _ ⟨j,hj,rfl,g0,g1,g5,hle,g6,rfl⟩
 by_cases hlt:j<i
 ·have hlt':(j:Int)<(i:Int):=om
  obtain⟨c,hc⟩:=aN (l:=s) (i:=j) om
  have hst:=Ej hc
  by_cases h10:(c.toNat:Int)=10
  ·rw[if_pos om]at hst
   simp only[sA,sB,seval,g0,g1,g5,g6,hlt',bq hc,h10,de (bz s j) om,de j om]
   exact⟨_,om,j+1,om,rfl,by trivial,by trivial,by rw[hst],om,rfl,by trivial⟩
  ·rw[if_neg om]at hst
   simp only[sA,sB,seval,g0,g1,g5,g6,hlt',bq hc,h10,de j om]
   exact⟨_,om,j+1,om,rfl,by trivial,by trivial,by rw[hst]; rfl,om,rfl,by trivial⟩
 ·obtain rfl:j=i:=om
  simp only[sA,sB,seval,g0,g1,g5,g6,Int.lt_irrefl]
  exact⟨by trivial,by trivial⟩
theorem qz(hN:aA.is 158=false):zV aA 158 beg:=by
 intro c H
 refine af hN Nl rfl ?_
 have e:beg c=(((decide ((97:Int)<=c.toNat)&&decide ((c.toNat:Int)<=122))||(decide ((65:Int)<=c.toNat)&&decide ((c.toNat:Int)<=90)))||decide ((c.toNat:Int)=95)):=by
  rw[Bool.eq_iff_iff]; simp[beg]; omega
 rw[e]
 by_cases h1:(97:Int)<=(c.toNat:Int) <;> by_cases h2:(c.toNat:Int)<=122 <;> by_cases h3:(65:Int)<=(c.toNat:Int) <;> by_cases h4:(c.toNat:Int)<=90 <;> by_cases h5:(c.toNat:Int)=95
 all_goals first
  | (exfalso; omega)
  | (simp only [OL, sA, sB, seval, h1, h2, h3, h4, h5]
     exact ⟨by simp, by trivial⟩)
open Go.Abs Go.Abs.S
theorem Cz(c:UInt8)(s:Bs)(n:Nat):(0<=xi c s n)↔c∈s:=by
 induction s generalizing n with
 | nil=>simp[xi]
 | cons b r ih=>
  rw[xi]
  by_cases h:b=c
  ·subst h
   have e:Nat.beq b.toNat b.toNat=true:=Nat.beq_refl _
   rw[e,cond_true]; simp
  ·have e:Nat.beq b.toNat c.toNat=false:=by
    cases hb:Nat.beq b.toNat c.toNat with
    | false=>rfl
    | true=>exact absurd (UInt8.toNat_inj.1 (QX hb)) h
   rw[e,cond_false,ih]
   rw[List.mem_cons]
   constructor
   ·exact .inr
   ·rintro (h' | h')
    ·exact absurd h'.symm h
    ·exact h'
theorem GV(h52:aA.is 155=false)(h76:aA.is 184=false)(s:Bs)(c:UInt8){H:aa}:aq Tryz.prog aA 155 [.str s,Mp c] H fun v H'=>v=.int .i64 (xi c s 0)/\H=H':=by
 refine af h52 Nq rfl ?_
 simp only[OO,sA,sB,seval]
 have key:aq Tryz.prog aA 184 [.str s,Mp c] H fun v H'=>v=.int .i64 (xi c s 0)/\H=H':=by
  refine af h76 Kk rfl ?_
  have e:jt .ibs [.str s,Mp c]=some (.int .i64 (xi c s 0)):=by
   have:jt .ibs [.str s,Mp c]=some (.int .i64 (xi c.toNat.toUInt8 s 0)):=rfl
   rw[this]
   congr 3
   exact UInt8.ofNat_toNat
  simp only[Mf,sA,sB,seval,e]
  exact⟨by trivial,by trivial⟩
 refine key.mono ?_
 rintro v _ ⟨rfl,rfl⟩
 simp only[sA,sB,seval]
 exact⟨by trivial,by trivial⟩
def nD:List Bs:=[[38,38],[124,124],[61,61],[33,61],[60,61],[62,61]]
def ye:Bs:=[60,62,43,45,42,47,33,40,41,123,125,44,59,61]
def fk(s:Bs):Bs:=match nD.find? (pre s) with
 | some t=>t
 | none=>match s with
  | []=>[]
  | c::_=>if c∈ye then [c] else []
theorem DK(h29:aA.is 111=false)(h51:aA.is 154=false)(h75:aA.is 183=false)(h52:aA.is 155=false)(h76:aA.is 184=false){s:Bs}{i:Nat}(hi:i<s.length){H:aa} :
  aq Tryz.prog aA 111 [.str s,.int .i64 (i:Int)] H fun v H'=>v=.str (fk (s.drop i))/\H=H':=by
 refine af h29 NO rfl ?_
 have e0:=B0 (s:=s) (l:=i) om
 have b0:bB [.str [],.str [],.str [],.str [],.str [],.str []] [(0,1,.str [38,38]),(1,1,.str [124,124]),(2,1,.str [61,61]),(3,1,.str [33,61]),(4,1,.str [60,61]),(5,1,.str [62,61])]=some (.agg (nD.map .str)):=rfl
 obtain⟨c,hc⟩:=aN (l:=s) (i:=i) hi
 have hdr:=dR hc
 simp only[O4,sA,sB,seval,e0,b0]
 rw[hdr]
 generalize s.drop (i+1)=r at *
 refine aG (fun q (T:bG) H'=>∃k:Nat,k<=6/\q=6-k/\T 5=.str (c::r)/\T 11=.agg (nD.map .str)/\T 12=.int .i64 (k:Int)/\(nD.take k).find? (pre (c::r))=none/\H=H') 6 ⟨0,Nat.zero_le _,rfl,by simp only[sA,sB,seval],by simp only[sA,sB,seval],by simp only[sA,sB,seval]; try rfl,rfl,rfl⟩ ?_
 rintro q T _ ⟨k,hk,rfl,g5,g11,g12,hA,rfl⟩
 by_cases hlt:k<6
 ·have hlt':(k:Int)<6:=om
  obtain⟨t,ht⟩:=aN (l:=nD) (i:=k) hlt
  have ix:BL 6 1 false (.agg (nD.map .str)) (.int .i64 (k:Int))=some (.str t):=by
   have hk6:k=0∨k=1∨k=2∨k=3∨k=4∨k=5:=om
   rcases hk6 with rfl | rfl | rfl | rfl | rfl | rfl <;> (simp only[nD,QZ,Q0,sJ]at ht; subst ht; rfl)
  simp only[sA,sB,seval,g5,g11,g12,hlt',ix]
  refine (Gj h51 h75 (c::r) t).mono ?_
  rintro v _ ⟨rfl,rfl⟩
  cases hp:pre (c::r) t with
  | true=>
   have hf:nD.find? (pre (c::r))=some t:=by
    have h1:(nD.take (k+1)).find? (pre (c::r))=some t:=by
     rw[List.take_add_one,ht,List.find?_append,hA]
     simp[hp]
    have h2:nD=nD.take (k+1)++nD.drop (k+1):=(List.take_append_drop _ _).symm
    rw[h2,List.find?_append,h1]; rfl
   simp only[sA,sB,seval,g5,g11,g12]
   exact⟨by rw[fk,hf],by trivial⟩
  | false=>
   simp only[sA,sB,seval,g5,g11,g12,de k om]
   refine⟨_,om,k+1,om,rfl,by trivial,by trivial,rfl,?_,by trivial⟩
   rw[List.take_add_one,ht,List.find?_append,hA]
   simp[hp]
 ·obtain rfl:k=6:=om
  have hf:nD.find? (pre (c::r))=none:=hA
  have i0:kr (.str (c::r)) (.int .i64 0)=some (Mp c):=bq (s:=c::r) (i:=0) rfl .i64
  have e1:dT (.str (c::r)) none (some (.int .i64 1))=some (.str [c]):=ov (s:=c::r) (h:=1) (by simp)
  simp only[sA,sB,seval,g5,g11,g12,Int.cast_ofNat_Int,Int.lt_irrefl,i0]
  refine (GV h52 h76 ye c).mono ?_
  rintro v _ ⟨rfl,rfl⟩
  by_cases hm:c∈ye
  ·have h0:=(Cz c ye 0).2 hm
   simp only[sA,sB,seval,g5,g11,g12,h0,e1]
   exact⟨by rw[fk,hf]; simp[hm],by trivial⟩
  ·have h0:¬0<=xi c ye 0:=fun h=>hm ((Cz c ye 0).1 h)
   simp only[sA,sB,seval,g5,g11,g12,h0]
   exact⟨by rw[fk,hf]; simp[hm],by trivial⟩
open Go.Abs Go.Abs.S
theorem xY(h30:aA.is 112=false){s:Bs}{i:Nat}(hi:i<=s.length)(hs:s.length<=4611686018427387904){H:aa} :
  aq Tryz.prog aA 112 [.str s,.int .i64 (i:Int)] H fun v H'=>v=.int .i64 (ba s i:Int)/\H=H':=by
 refine af h30 NN rfl ?_
 simp only[O3,sA,sB,seval]
 refine aG (fun q (T:bG) H'=>∃j:Nat,j<=s.length/\q=s.length-j/\T 0=.str s/\T 1=.int .i64 (j:Int)/\ba s i=ba s j/\H=H') (s.length-i) ⟨i,hi,rfl,rfl,rfl,rfl,rfl⟩ ?_
 rintro q T _ ⟨j,hj,rfl,g0,g1,hA,rfl⟩
 by_cases hlt:j<s.length
 ·have hlt':(j:Int)<(s.length:Int):=om
  obtain⟨c,hc⟩:=aN hlt
  by_cases h35:(c.toNat:Int)=35
  ·simp only[sA,sB,seval,g0,g1,hlt',bq hc,h35]
   have hn:nZ c=true:=by simp[nZ]; omega
   have hgt:j<bk nZ s j:=by rw[fJ hc hn]; have:=fd nZ s (j+1); omega
   have hle:=eZ (p:=nZ) hj
   have hsk:=qo hc om
   refine fu (fun (T:bG) H'=>T 0=.str s/\T 1=.int .i64 (bk nZ s j:Int)/\H=H') (bH _ _) ?_ ?_
   ·refine aG (fun q (T:bG) H'=>∃m:Nat,m<=s.length/\q=s.length-m/\T 0=.str s/\T 1=.int .i64 (m:Int)/\bk nZ s j=bk nZ s m/\H=H') (s.length-j) ⟨j,hj,rfl,by simp only[sA,sB,seval,g0],by simp only[sA,sB,seval,g1],rfl,rfl⟩ ?_
    clear g0 g1
    rintro q T _ ⟨m,hm,rfl,g0,g1,hB,rfl⟩
    by_cases hml:m<s.length
    ·have hml':(m:Int)<(s.length:Int):=om
     obtain⟨d,hd⟩:=aN hml
     by_cases h10:(d.toNat:Int)=10
     ·have hnd:nZ d=false:=by simp[nZ]; omega
      simp only[sA,sB,seval,g0,g1,hml',bq hd,h10]
      exact⟨by trivial,by rw[hB,kC hd hnd],by trivial⟩
     ·have hnd:nZ d=true:=by simp[nZ]; omega
      simp only[sA,sB,seval,g0,g1,hml',bq hd,h10,de m om]
      exact⟨_,om,m+1,om,rfl,by trivial,rfl,by rw[hB,fJ hd hnd],by trivial⟩
    ·have hml':¬(m:Int)<(s.length:Int):=om
     simp only[sA,sB,seval,g0,g1,hml']
     exact⟨by trivial,by rw[hB,lB om],by trivial⟩
   clear g0 g1
   rintro T _ ⟨g0,g1,rfl⟩
   simp only[sA,sB,seval,g0,g1]
   exact⟨_,om,bk nZ s j,hle,rfl,by trivial,by trivial,by rw[hA,hsk],by trivial⟩
  ·have e:blk c=(((decide ((c.toNat:Int)=9)||decide ((c.toNat:Int)=10))||decide ((c.toNat:Int)=13))||decide ((c.toNat:Int)=32)):=by
    rw[Bool.eq_iff_iff]; simp[blk]; omega
   have fwd:blk c=true->ba s i=ba s (j+1):=fun h=>by rw[hA,Ak hc h]
   have stp:blk c=false->ba s i=j:=fun h=>by rw[hA,pH hc h om]
   rw[e]at fwd stp
   by_cases h1:(c.toNat:Int)=9
   ·simp only[sA,sB,seval,g0,g1,hlt',bq hc,h1,de j om]
    exact⟨_,om,j+1,om,rfl,by trivial,rfl,fwd (by simp[h1]),by trivial⟩
   by_cases h2:(c.toNat:Int)=10
   ·simp only[sA,sB,seval,g0,g1,hlt',bq hc,h1,h2,de j om]
    exact⟨_,om,j+1,om,rfl,by trivial,rfl,fwd (by simp[h2]),by trivial⟩
   by_cases h3:(c.toNat:Int)=13
   ·simp only[sA,sB,seval,g0,g1,hlt',bq hc,h1,h2,h3,de j om]
    exact⟨_,om,j+1,om,rfl,by trivial,rfl,fwd (by simp[h3]),by trivial⟩
   by_cases h4:(c.toNat:Int)=32
   ·simp only[sA,sB,seval,g0,g1,hlt',bq hc,h1,h2,h3,h4,de j om]
    exact⟨_,om,j+1,om,rfl,by trivial,rfl,fwd (by simp[h4]),by trivial⟩
   simp only[sA,sB,seval,g0,g1,hlt',bq hc,h35,h1,h2,h3,h4]
   exact⟨by rw[stp (by simp[h1,h2,h3,h4])],by trivial⟩
 ·have hlt':¬(j:Int)<(s.length:Int):=om
  simp only[sA,sB,seval,g0,g1,hlt']
  exact⟨by rw[hA,xM om],by trivial⟩
theorem JG(h55:aA.is 160=false){n:Nat}{H:aa}{t:ab}{l:List Bs}(h:xj n H t (l.map .str))(hl:l.length<=4611686018427387904)(s:Bs) :
  aq Tryz.prog aA 160 [.str s,t] H fun v H'=>v=.bool (decide (s∈l))/\H=H':=by
 refine af h55 Nj rfl ?_
 simp only[OK,sA,sB,seval]
 refine aG (fun q (T:bG) H'=>∃i:Nat,i<=l.length/\q=l.length-i/\T 0=.str s/\T 1=t/\T 5=.int .i64 (i:Int)/\(¬s∈l.take i)/\H=H') l.length ⟨0,Nat.zero_le _,rfl,rfl,rfl,rfl,by simp,rfl⟩ ?_
 rintro q T _ ⟨i,hi,rfl,g0,g1,g5,hA,rfl⟩
 by_cases hlt:i<l.length
 ·have hlt':(i:Int)<(l.length:Int):=om
  obtain⟨x,hx⟩:=aN hlt
  have e1:=h.idx .i64 (i:=i) (by simpa using hlt)
  have e2:=h.load (i:=i) (x:=.str x) (by simp[hx])
  by_cases hxs:x=s
  ·subst hxs
   simp only[sA,sB,seval,g0,g1,g5,h.len,Q5,hlt',e1,e2]
   exact⟨by rw[decide_eq_true (QY hx)],by trivial⟩
  ·simp only[sA,sB,seval,g0,g1,g5,h.len,Q5,hlt',e1,e2,hxs,de i om]
   refine⟨_,om,i+1,om,rfl,by trivial,by trivial,rfl,?_,by trivial⟩
   rw[List.take_add_one,hx]
   intro hm
   rcases List.mem_append.1 hm with hm | hm
   ·exact hA hm
   ·simp at hm; exact hxs hm.symm
 ·obtain rfl:i=l.length:=om
  rw[List.take_length]at hA
  simp only[sA,sB,seval,g0,g1,g5,h.len,Q5,Int.lt_irrefl]
  exact⟨by rw[decide_eq_false hA],by trivial⟩
open Go.Abs Go.Abs.S
def pd:Nat->Nat->List Nat
 | 0,_=>[]
 | k+1,u=>pd k (u / 10)++[u % 10]
theorem LJ(k u:Nat):(pd k u).length=k:=by
 induction k generalizing u with
 | zero=>rfl
 | succ k ih=>simp[pd,ih]
theorem Az(k:Nat):∀u,10 ^ k<=u->u<10 ^ (k+1)->pd (k+1) u=eg u:=by
 induction k with
 | zero=>
  intro u h1 h2
  rw[iN (by simpa using h2)]
  have:u % 10=u:=Nat.mod_eq_of_lt (by simpa using h2)
  simp[pd,this]
 | succ k ih=>
  intro u h1 h2
  have h10:¬u<10:=by
   have:10 ^ 1<=10 ^ (k+1):=Nat.pow_le_pow_right om om
   omega
  rw[pc h10,pd,ih (u / 10) (by rw[Nat.pow_succ]at h1; omega) (by rw[Nat.pow_succ]at h2; omega)]
def jK:Bs:=(List.range 100).flatMap fun d=>[UInt8.ofNat (48+d / 10),UInt8.ofNat (48+d % 10)]
theorem FN{d:Nat}(h:d<100):jK[d*2]?=some (UInt8.ofNat (48+d / 10)):=by
 have:∀d,d<100->jK[d*2]?=some (UInt8.ofNat (48+d / 10)):=by decide
 exact this d h
theorem FM{d:Nat}(h:d<100):jK[d*2+1]?=some (UInt8.ofNat (48+d % 10)):=by
 have:∀d,d<100->jK[d*2+1]?=some (UInt8.ofNat (48+d % 10)):=by decide
 exact this d h
open Go.Abs Go.Abs.S
theorem nF:jK=[48,48,48,49,48,50,48,51,48,52,48,53,48,54,48,55,48,56,48,57,49,48,49,49,49,50,49,51,49,52,49,53,49,54,49,55,49,56,49,57,50,48,50,49,50,50,50,51,50,52,50,53,50,54,50,55,50,56,50,57,51,48,51,49,51,50,51,51,51,52,51,53,51,54,51,55,51,56,51,57,52,48,52,49,52,50,52,51,52,52,52,53,52,54,52,55,52,56,52,57,53,48,53,49,53,50,53,51,53,52,53,53,53,54,53,55,53,56,53,57,54,48,54,49,54,50,54,51,54,52,54,53,54,54,54,55,54,56,54,57,55,48,55,49,55,50,55,51,55,52,55,53,55,54,55,55,55,56,55,57,56,48,56,49,56,50,56,51,56,52,56,53,56,54,56,55,56,56,56,57,57,48,57,49,57,50,57,51,57,52,57,53,57,54,57,55,57,56,57,57]:=by kernel_rfl
theorem ig{d:Nat}(h:d<100)(k:IntKind):kr (.str jK) (.int k ((d*2:Nat):Int))=some (.int .u8 ((48+d / 10:Nat):Int)):=by
 rw[bq (FN h)]
 have:(UInt8.ofNat (48+d / 10)).toNat=48+d / 10:=by rw[UInt8.toNat_ofNat']; omega
 rw[this]
theorem fU{d:Nat}(h:d<100)(k:IntKind):kr (.str jK) (.int k ((d*2+1:Nat):Int))=some (.int .u8 ((48+d % 10:Nat):Int)):=by
 rw[bq (FM h)]
 have:(UInt8.ofNat (48+d % 10)).toNat=48+d % 10:=by rw[UInt8.toNat_ofNat']; omega
 rw[this]
theorem FL{d:Nat}(h:d<100):dT (.str jK) (some (.int .i64 ((d*2:Nat):Int))) (some (.int .i64 ((d*2+2:Nat):Int)))=some (.str [UInt8.ofNat (48+d / 10),UInt8.ofNat (48+d % 10)]):=by
 have hl:jK.length=200:=by kernel_rfl
 rw[nE om om]
 have:∀d,d<100->(jK.drop (d*2)).take 2=[UInt8.ofNat (48+d / 10),UInt8.ofNat (48+d % 10)]:=of_decide_eq_true (by kernel_rfl)
 rw[show d*2+2-d*2=2 by omega,this d h]
def I4:Bs:=[48,49,50,51,52,53,54,55,56,57,97,98,99,100,101,102,103,104,105,106,107,108,109,110,111,112,113,114,115,116,117,118,119,120,121,122]
theorem I3{d:Nat}(h:d<10):dT (.str I4) (some (.int .i64 (d:Int))) (some (.int .i64 ((d+1:Nat):Int)))=some (.str [UInt8.ofNat (48+d)]):=by
 have hl:I4.length=36:=by decide
 rw[nE om om]
 have:∀d,d<10->(I4.drop d).take 1=[UInt8.ofNat (48+d)]:=by decide
 rw[show d+1-d=1 by omega,this d h]
theorem GL:I4=[48,49,50,51,52,53,54,55,56,57,97,98,99,100,101,102,103,104,105,106,107,108,109,110,111,112,113,114,115,116,117,118,119,120,121,122]:=rfl
set_option maxRecDepth 100000 in
theorem Ai(h77:aA.is 177=false){d:Nat}(hd:d<100){H:aa} :
  aq Tryz.prog aA 177 [.int .i64 (d:Int)] H fun v H'=>v=.str (gU (eg d))/\H'=H:=by
 refine af h77 Nf rfl ?_
 simp only[OJ,<- nF,<- GL]
 by_cases h:d<10
 ·have h':(d:Int)<10:=om
  simp only[sA,sB,Int.reduceNegSucc,reduceCtorEq,Nat.reduceEqDiff,↓reduceIte,Nat.reduceAdd,Int.reduceEq,Int.reduceLT,Int.reduceLE,Nat.reduceLT,h',de d om,I3 h]
  exact⟨by rw[iN h]; rfl,by trivial⟩
 ·have h':¬(d:Int)<10:=om
  have w1:IntKind.i64.wrap ((d:Int)*2)=((d*2:Nat):Int):=by rw[bj om om]; omega
  have w2:IntKind.i64.wrap (((d*2:Nat):Int)+2)=((d*2+2:Nat):Int):=by rw[bj om om]; omega
  simp only[sA,sB,Int.reduceNegSucc,reduceCtorEq,Nat.reduceEqDiff,↓reduceIte,Nat.reduceAdd,Int.reduceEq,Int.reduceLT,Int.reduceLE,Nat.reduceLT,h',w1,w2,FL hd]
  refine⟨?_,by trivial⟩
  rw[pc h,iN om]; simp[gU]
theorem BA(h95:aA.is 197=false)(b:Bool){H:aa} :
  aq Tryz.prog aA 197 [.bool b] H fun v H'=>v=.int .i64 ((if b=true then 1 else 0:Nat):Int)/\H'=H:=by
 refine af h95 M5 rfl ?_
 cases b with
 | true=>simp only[Md,sA,sB,Int.reduceNegSucc,reduceCtorEq,Nat.reduceEqDiff,↓reduceIte,Nat.reduceAdd,Int.reduceEq,Int.reduceLT,Int.reduceLE,Nat.reduceLT]; exact⟨by trivial,by trivial⟩
 | false=>simp only[Md,sA,sB,Int.reduceNegSucc,reduceCtorEq,Nat.reduceEqDiff,↓reduceIte,Nat.reduceAdd,Int.reduceEq,Int.reduceLT,Int.reduceLE,Nat.reduceLT]; exact⟨by trivial,by trivial⟩
theorem AL(h93:aA.is 195=false){x:Nat}(hx:x<=64){H:aa} :
  aq Tryz.prog aA 195 [.int .i64 (x:Int)] H fun v H'=>v=.int .i64 ((x*78913 / 262144:Nat):Int)/\H'=H:=by
 refine af h93 M7 rfl ?_
 have w1:IntKind.i64.wrap ((x:Int)*78913)=((x*78913:Nat):Int):=by rw[bj om om]; omega
 have e1:=DM .i64 .u64 (x*78913) (b:=18) dD
 simp only[Int.cast_ofNat_Int]at e1
 simp only[OE,sA,sB,Int.reduceNegSucc,reduceCtorEq,Nat.reduceEqDiff,↓reduceIte,Nat.reduceAdd,Int.reduceEq,Int.reduceLT,Int.reduceLE,Nat.reduceLT,w1,e1]
 exact⟨by trivial,by trivial⟩
def Jx:Bs:=[0,1,2,2,3,3,3,3,4,4,4,4,4,4,4,4,5,5,5,5,5,5,5,5,5,5,5,5,5,5,5,5,6,6,6,6,6,6,6,6,6,6,6,6,6,6,6,6,6,6,6,6,6,6,6,6,6,6,6,6,6,6,6,6,7,7,7,7,7,7,7,7,7,7,7,7,7,7,7,7,7,7,7,7,7,7,7,7,7,7,7,7,7,7,7,7,7,7,7,7,7,7,7,7,7,7,7,7,7,7,7,7,7,7,7,7,7,7,7,7,7,7,7,7,7,7,7,7,8,8,8,8,8,8,8,8,8,8,8,8,8,8,8,8,8,8,8,8,8,8,8,8,8,8,8,8,8,8,8,8,8,8,8,8,8,8,8,8,8,8,8,8,8,8,8,8,8,8,8,8,8,8,8,8,8,8,8,8,8,8,8,8,8,8,8,8,8,8,8,8,8,8,8,8,8,8,8,8,8,8,8,8,8,8,8,8,8,8,8,8,8,8,8,8,8,8,8,8,8,8,8,8,8,8,8,8,8,8,8,8,8,8,8,8,8,8,8,8,8,8,8,8,8,8,8,8]
theorem GM:Jx=[0,1,2,2,3,3,3,3,4,4,4,4,4,4,4,4,5,5,5,5,5,5,5,5,5,5,5,5,5,5,5,5,6,6,6,6,6,6,6,6,6,6,6,6,6,6,6,6,6,6,6,6,6,6,6,6,6,6,6,6,6,6,6,6,7,7,7,7,7,7,7,7,7,7,7,7,7,7,7,7,7,7,7,7,7,7,7,7,7,7,7,7,7,7,7,7,7,7,7,7,7,7,7,7,7,7,7,7,7,7,7,7,7,7,7,7,7,7,7,7,7,7,7,7,7,7,7,7,8,8,8,8,8,8,8,8,8,8,8,8,8,8,8,8,8,8,8,8,8,8,8,8,8,8,8,8,8,8,8,8,8,8,8,8,8,8,8,8,8,8,8,8,8,8,8,8,8,8,8,8,8,8,8,8,8,8,8,8,8,8,8,8,8,8,8,8,8,8,8,8,8,8,8,8,8,8,8,8,8,8,8,8,8,8,8,8,8,8,8,8,8,8,8,8,8,8,8,8,8,8,8,8,8,8,8,8,8,8,8,8,8,8,8,8,8,8,8,8,8,8,8,8,8,8,8,8]:=rfl
theorem qX{v:Nat}(h:v<256):∃l:UInt8,Jx[v]?=some l/\v<2 ^ l.toNat/\(0<v->2 ^ l.toNat<=2*v)/\l.toNat<=8:=by
 have:∀v,v<256->(match Jx[v]? with | some l=>decide (v<2 ^ l.toNat)&&(decide (v=0)||decide (2 ^ l.toNat<=2*v))&&decide (l.toNat<=8) | none=>false)=true:=of_decide_eq_true (by kernel_rfl)
 have:=this v h
 cases hl:Jx[v]? with
 | none=>rw[hl]at this; simp at this
 | some l=>
  rw[hl]at this
  simp only[QT,Bool.or_eq_true,Q2]at this
  exact⟨l,rfl,this.1.1,fun h0=>by rcases this.1.2 with h | h; omega; exact h,this.2⟩
set_option maxRecDepth 100000 in
theorem AP(h94:aA.is 196=false){u:Nat}(h0:0<u)(hu:u<4294967296){H:aa} :
  aq Tryz.prog aA 196 [.int .u64 (u:Int)] H fun v H'=>(∃L:Nat,v=.int .i64 (L:Int)/\u<2 ^ L/\2 ^ L<=2*u/\L<=32)/\H'=H:=by
 refine af h94 M6 rfl ?_
 simp only[OD,<- GM]
 have n32:¬(4294967296:Int)<=(u:Int):=om
 have e16:=DM .u64 .u64 u (b:=16) dD
 simp only[Int.cast_ofNat_Int,Nat.reducePow]at e16
 have key:∀(x:Nat) (s l:Nat),u / 2 ^ s=x->0<x->x<2 ^ l->2 ^ l<=2*x->s<=24->u<2 ^ (s+l)/\2 ^ (s+l)<=2*u:=by
  intro x s l hx hx0 h1 h2 hs
  have hp:0<2 ^ s:=Nat.pos_of_ne_zero (by simp)
  rw[Nat.pow_add]
  generalize 2 ^ s=p at *
  generalize 2 ^ l=q at *
  subst hx
  have h3:=Nat.div_mul_le_self u p
  have h4:=Nat.lt_div_mul_add hp (a:=u)
  constructor
  ·have:(u / p+1)*p<=q*p:=Nat.mul_le_mul_right _ h1
   rw[Nat.add_mul,Nat.one_mul]at this
   rw[Nat.mul_comm p q]
   omega
  ·calc p*q<=p*(2*(u / p)):=Nat.mul_le_mul_left _ h2
    _=2*(u / p*p):=by rw[Nat.mul_comm p,Nat.mul_assoc]
    _<=2*u:=om
 by_cases c1:65536<=u
 ·have c1':(65536:Int)<=(u:Int):=om
  have e8:=DM .u64 .u64 (u / 65536) (b:=8) dD
  simp only[Int.cast_ofNat_Int,Nat.reducePow]at e8
  have w1:IntKind.i64.wrap (0+16)=16:=by decide
  by_cases c2:256<=u / 65536
  ·have c2':(256:Int)<=((u / 65536:Nat):Int):=om
   have w2:IntKind.i64.wrap (16+8)=24:=by decide
   obtain⟨l,l1,l2,l3,l4⟩:=qX (v:=u / 65536 / 256) om
   have w3:IntKind.u8.wrap ((u / 65536 / 256:Nat):Int)=((u / 65536 / 256:Nat):Int):=fo om om
   have w4:IntKind.i64.wrap (l.toNat:Int)=(l.toNat:Int):=bj om om
   have w5:IntKind.i64.wrap (24+(l.toNat:Int))=((24+l.toNat:Nat):Int):=by rw[bj om om]; omega
   simp only[sA,sB,Int.reduceNegSucc,reduceCtorEq,Nat.reduceEqDiff,↓reduceIte,Nat.reduceAdd,Int.reduceEq,Int.reduceLT,Int.reduceLE,Nat.reduceLT,n32,e16,c1',w1,c2',e8,w2,w3,bq l1,w4,w5]
   obtain⟨k1,k2⟩:=key (u / 65536 / 256) 24 l.toNat om om l2 (l3 om) om
   exact⟨⟨24+l.toNat,by trivial,k1,k2,om⟩,by trivial⟩
  ·have c2':¬(256:Int)<=((u / 65536:Nat):Int):=om
   obtain⟨l,l1,l2,l3,l4⟩:=qX (v:=u / 65536) om
   have w3:IntKind.u8.wrap ((u / 65536:Nat):Int)=((u / 65536:Nat):Int):=fo om om
   have w4:IntKind.i64.wrap (l.toNat:Int)=(l.toNat:Int):=bj om om
   have w5:IntKind.i64.wrap (16+(l.toNat:Int))=((16+l.toNat:Nat):Int):=by rw[bj om om]; omega
   simp only[sA,sB,Int.reduceNegSucc,reduceCtorEq,Nat.reduceEqDiff,↓reduceIte,Nat.reduceAdd,Int.reduceEq,Int.reduceLT,Int.reduceLE,Nat.reduceLT,n32,e16,c1',w1,c2',w3,bq l1,w4,w5]
   obtain⟨k1,k2⟩:=key (u / 65536) 16 l.toNat om om l2 (l3 om) om
   exact⟨⟨16+l.toNat,by trivial,k1,k2,om⟩,by trivial⟩
 ·have c1':¬(65536:Int)<=(u:Int):=om
  have e8:=DM .u64 .u64 u (b:=8) dD
  simp only[Int.cast_ofNat_Int,Nat.reducePow]at e8
  by_cases c2:256<=u
  ·have c2':(256:Int)<=(u:Int):=om
   have w2:IntKind.i64.wrap (0+8)=8:=by decide
   obtain⟨l,l1,l2,l3,l4⟩:=qX (v:=u / 256) om
   have w3:IntKind.u8.wrap ((u / 256:Nat):Int)=((u / 256:Nat):Int):=fo om om
   have w4:IntKind.i64.wrap (l.toNat:Int)=(l.toNat:Int):=bj om om
   have w5:IntKind.i64.wrap (8+(l.toNat:Int))=((8+l.toNat:Nat):Int):=by rw[bj om om]; omega
   simp only[sA,sB,Int.reduceNegSucc,reduceCtorEq,Nat.reduceEqDiff,↓reduceIte,Nat.reduceAdd,Int.reduceEq,Int.reduceLT,Int.reduceLE,Nat.reduceLT,n32,c1',c2',e8,w2,w3,bq l1,w4,w5]
   obtain⟨k1,k2⟩:=key (u / 256) 8 l.toNat om om l2 (l3 om) om
   exact⟨⟨8+l.toNat,by trivial,k1,k2,om⟩,by trivial⟩
  ·have c2':¬(256:Int)<=(u:Int):=om
   obtain⟨l,l1,l2,l3,l4⟩:=qX (v:=u) om
   have w3:IntKind.u8.wrap (u:Int)=(u:Int):=fo om om
   have w4:IntKind.i64.wrap (l.toNat:Int)=(l.toNat:Int):=bj om om
   have w5:IntKind.i64.wrap (0+(l.toNat:Int))=(l.toNat:Int):=by rw[bj om om]; omega
   simp only[sA,sB,Int.reduceNegSucc,reduceCtorEq,Nat.reduceEqDiff,↓reduceIte,Nat.reduceAdd,Int.reduceEq,Int.reduceLT,Int.reduceLE,Nat.reduceLT,n32,c1',c2',w3,bq l1,w4,w5]
   exact⟨⟨l.toNat,by trivial,l2,l3 h0,om⟩,by trivial⟩
def nM:List ab:=(List.range 20).map fun i=>.int .u64 ((10 ^ i:Nat):Int)
theorem Gk{i:Nat}(h:i<20):nM[i]?=some (.int .u64 ((10 ^ i:Nat):Int)):=by
 simp[nM,h]
theorem yO(h78:aA.is 178=false)(h93:aA.is 195=false)(h94:aA.is 196=false)(h95:aA.is 197=false){u:Nat}(h0:0<u)(hu:u<4294967296){H:aa}(G:ru H 1 nM) :
  aq Tryz.prog aA 178 [.int .u64 (u:Int)] H fun v H'=>(∃k:Nat,v=.int .i64 ((k+1:Nat):Int)/\10 ^ k<=u/\u<10 ^ (k+1)/\k<10)/\H'=H:=by
 refine af h78 Nd rfl ?_
 simp only[OI,sA,sB,Int.reduceNegSucc,reduceCtorEq,Nat.reduceEqDiff,↓reduceIte,Nat.reduceAdd,Int.reduceEq,Int.reduceLT,Int.reduceLE,Nat.reduceLT]
 refine (AP h94 h0 hu).mono ?_
 rintro v _ ⟨⟨L,rfl,l1,l2,l3⟩,rfl⟩
 simp only[sA,sB,Int.reduceNegSucc,reduceCtorEq,Nat.reduceEqDiff,↓reduceIte,Nat.reduceAdd,Int.reduceEq,Int.reduceLT,Int.reduceLE,Nat.reduceLT]
 refine (AL h93 (show L<=64 by omega)).mono ?_
 rintro v _ ⟨rfl,rfl⟩
 have hL:1<=L:=by
  rcases Nat.eq_zero_or_pos L with h | h
  ·subst h; simp at l1; omega
  ·exact h
 have all:∀L,L<=32->1<=L->2 ^ L<=10 ^ (L*78913 / 262144+1)/\(10 ^ (L*78913 / 262144-1)*2<=2 ^ L)/\L*78913 / 262144<10:=of_decide_eq_true (by kernel_rfl)
 obtain⟨a1,a2,a3⟩:=all L l3 hL
 generalize L*78913 / 262144=t at *
 have ht:t<20:=om
 simp only[sA,sB,Int.reduceNegSucc,reduceCtorEq,Nat.reduceEqDiff,↓reduceIte,Nat.reduceAdd,Int.reduceEq,Int.reduceLT,Int.reduceLE,Nat.reduceLT,LV G (n:=20) dD ht,JJ G (n:=20) dD (Gk ht)]
 refine (BA h95 _).mono ?_
 rintro v _ ⟨rfl,rfl⟩
 by_cases hc:10 ^ t<=u
 ·have hc':((10 ^ t:Nat):Int)<=(u:Int):=om
  have w:IntKind.i64.wrap ((t:Int)+1)=((t+1:Nat):Int):=by rw[bj om om]; omega
  simp only[sA,sB,Int.reduceNegSucc,reduceCtorEq,Nat.reduceEqDiff,↓reduceIte,Nat.reduceAdd,Int.reduceEq,Int.reduceLT,Int.reduceLE,Nat.reduceLT,hc',w]
  exact⟨⟨t,by trivial,hc,om,a3⟩,by trivial⟩
 ·have hc':¬((10 ^ t:Nat):Int)<=(u:Int):=om
  have w:IntKind.i64.wrap ((t:Int)+0)=(t:Int):=by rw[bj om om]; omega
  simp only[sA,sB,Int.reduceNegSucc,reduceCtorEq,Nat.reduceEqDiff,↓reduceIte,Nat.reduceAdd,Int.reduceEq,Int.reduceLT,Int.reduceLE,Nat.reduceLT,hc',w]
  have ht0:t≠0:=by rintro rfl; simp at hc; omega
  obtain⟨s,rfl⟩:=Nat.exists_eq_succ_of_ne_zero ht0
  exact⟨⟨s,rfl,by simp at a2; omega,by simpa using hc,om⟩,by trivial⟩
end Go.Proofs.Wo
