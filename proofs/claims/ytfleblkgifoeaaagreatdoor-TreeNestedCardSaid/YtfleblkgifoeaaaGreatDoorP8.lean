/- Part of a proof (W1 YW2 YW3 YW4 YW5 YW6 YW7 YW8 YW9 YWA YWB YWD YWE YWF YWG YWH); no condition. -/
import Derived.Test.YtfleblkgifoeaaaGreatDoorP7
set_option linter.unusedSimpArgs false
set_option linter.unusedVariables false
set_option linter.unnecessarySimpa false
namespace Go.Proofs.Wo
open Go.Abs Go.Abs.S
def valN(l:List Nat):Nat:=l.foldl (fun n d=>n*10+d) 0
theorem valN_from(l:List Nat)(n:Nat):l.foldl (fun n d=>n*10+d) n=n*10 ^ l.length+valN l:=by
 induction l generalizing n with
 | nil=>simp[valN]
 | cons c l ih=>
  simp only[List.foldl_cons,valN,List.length_cons]
  rw[ih,ih (0*10+c),Nat.pow_succ]
  have:(n*10+c)*10 ^ l.length=n*(10 ^ l.length*10)+(0*10+c)*10 ^ l.length:=by
   rw[Nat.add_mul,Nat.zero_mul,Nat.zero_add,Nat.mul_assoc,Nat.mul_comm 10]
  omega
theorem valN_cons(d:Nat)(l:List Nat):valN (d::l)=d*10 ^ l.length+valN l:=by
 have:=valN_from l (0*10+d)
 simp only[Nat.zero_mul,Nat.zero_add]at this
 rw[← this]; simp[valN]
theorem valN_lt:∀{l:List Nat},(∀d∈l,d≤9)→valN l<10 ^ l.length
 | [],_=>by simp[valN]
 | d::l,h=>by
  have h1:=h d (by simp)
  have h2:=valN_lt (l:=l) fun x hx=>h x (by simp[hx])
  rw[valN_cons,List.length_cons,Nat.pow_succ]
  have:d*10 ^ l.length≤9*10 ^ l.length:=Nat.mul_le_mul_right _ h1
  omega
def dbl:List Nat→Nat×List Nat
 | []=>(0,[])
 | d::r=>((d*2+(dbl r).1) / 10,(d*2+(dbl r).1) % 10::(dbl r).2)
theorem dbl_len:∀l:List Nat,(dbl l).2.length=l.length
 | []=>rfl
 | d::r=>by simp only[dbl,List.length_cons,dbl_len r]
theorem dbl_over:∀{l:List Nat},(∀d∈l,d≤9)→(dbl l).1≤1
 | [],_=>by simp[dbl]
 | d::r,h=>by
  have h1:=h d (by simp)
  have h2:=dbl_over (l:=r) fun x hx=>h x (by simp[hx])
  simp only[dbl]; omega
theorem dbl_dig:∀(l:List Nat),∀d∈(dbl l).2,d≤9
 | [],d,h=>by simp[dbl]at h
 | a::r,d,h=>by
  simp only[dbl,List.mem_cons]at h
  rcases h with rfl | h
  ·omega
  ·exact dbl_dig r d h
theorem dbl_val:∀(l:List Nat),(dbl l).1*10 ^ l.length+valN (dbl l).2=2*valN l
 | []=>by simp[dbl,valN]
 | d::r=>by
  have ih:=dbl_val r
  simp only[dbl,valN_cons,dbl_len,List.length_cons,Nat.pow_succ]
  generalize (dbl r).1=o at *
  generalize valN (dbl r).2=v at *
  generalize valN r=u at *
  generalize 10 ^ r.length=p at *
  have h1:=Nat.div_add_mod (d*2+o) 10
  have e1:(d*2+o) / 10*(p*10)=10*((d*2+o) / 10)*p:=by rw[Nat.mul_comm p,← Nat.mul_assoc,Nat.mul_comm _ 10]
  have e2:(10*((d*2+o) / 10)+(d*2+o) % 10)*p=(d*2+o)*p:=by rw[h1]
  have e3:(d*2+o)*p=2*(d*p)+o*p:=by rw[Nat.add_mul,Nat.mul_comm d 2,Nat.mul_assoc]
  rw[Nat.add_mul]at e2
  rw[e1]
  omega
def bits(l:List Nat)(n:Nat):Nat→Nat×List Nat
 | 0=>(n,l)
 | k+1=>(2*(bits l n k).1+(dbl (bits l n k).2).1,(dbl (bits l n k).2).2)
theorem bits_len(l:List Nat)(n:Nat):∀k,(bits l n k).2.length=l.length
 | 0=>rfl
 | k+1=>by simp only[bits,dbl_len,bits_len l n k]
theorem bits_dig{l:List Nat}(h:∀d∈l,d≤9)(n:Nat):∀k,∀d∈(bits l n k).2,d≤9
 | 0=>h
 | k+1=>by simp only[bits]; exact dbl_dig _
theorem bits_val(l:List Nat)(n:Nat):∀k,(bits l n k).1*10 ^ l.length+valN (bits l n k).2=2 ^ k*(n*10 ^ l.length+valN l)
 | 0=>by simp[bits]
 | k+1=>by
  have ih:=bits_val l n k
  have h2:=dbl_val (bits l n k).2
  rw[bits_len]at h2
  simp only[bits,Nat.pow_succ]
  rw[Nat.add_mul,Nat.mul_assoc,Nat.mul_right_comm (2 ^ k),← ih]
  omega
theorem bits_end{l:List Nat}(h:∀d∈l,d≤9)(n k:Nat):(bits l n k).1=2 ^ k*(n*10 ^ l.length+valN l) / 10 ^ l.length:=by
 have h1:=bits_val l n k
 have h2:=valN_lt (bits_dig h n k)
 rw[bits_len]at h2
 rw[← h1]
 have hp:0<10 ^ l.length:=Nat.pos_of_ne_zero (by simp)
 rw[Nat.mul_comm,Nat.mul_add_div hp,Nat.div_eq_of_lt h2,Nat.add_zero]
def frac(l:List Nat):Nat:=2 ^ 32*valN l / 10 ^ l.length
theorem bits_frac{l:List Nat}(h:∀d∈l,d≤9)(n:Nat):(bits l n 32).1=2 ^ 32*n+frac l:=by
 rw[bits_end h,frac,Nat.mul_add]
 have hp:0<10 ^ l.length:=Nat.pos_of_ne_zero (by simp)
 rw[← Nat.mul_assoc,Nat.mul_comm (2 ^ 32*n),Nat.mul_add_div hp]
theorem frac_lt{l:List Nat}(h:∀d∈l,d≤9):frac l<2 ^ 32:=by
 have:=valN_lt h
 unfold frac
 have hp:0<10 ^ l.length:=Nat.pos_of_ne_zero (by simp)
 exact (Nat.div_lt_iff_lt_mul hp).2 (Nat.mul_lt_mul_of_pos_left this dD)
theorem valN_append(a b:List Nat):valN (a++b)=valN a*10 ^ b.length+valN b:=by
 have:=valN_from b (valN a)
 rw[← this]; simp[valN]
theorem valN_zeros:∀k,valN (List.replicate k 0)=0
 | 0=>rfl
 | k+1=>by rw[List.replicate_succ,valN_cons,valN_zeros k]; simp
theorem frac_pad(l:List Nat)(k:Nat):frac (l++List.replicate k 0)=frac l:=by
 unfold frac
 rw[valN_append,valN_zeros,lA,List.length_replicate,Nat.add_zero,Nat.pow_add,← Nat.mul_assoc]
 exact Nat.mul_div_mul_right _ _ (Nat.pos_of_ne_zero (by simp))
theorem frac_take{l:List Nat}(h:∀d∈l,d≤9)(hl:32≤l.length):frac (l.take 32)=frac l:=by
 have ht:(l.take 32).length=32:=by simp; omega
 have hd:(l.drop 32).length=l.length-32:=by simp
 have e:valN l=valN (l.take 32)*10 ^ (l.length-32)+valN (l.drop 32):=by
  rw[← hd,← valN_append,List.take_append_drop]
 have hlt:=valN_lt (l:=l.drop 32) fun d hd=>h d (List.mem_of_mem_drop hd)
 rw[hd]at hlt
 have e2:(10:Nat) ^ l.length=10 ^ (l.length-32)*10 ^ 32:=by rw[← Nat.pow_add]; congr 1; omega
 unfold frac
 rw[ht,e,e2]
 generalize valN (l.take 32)=A
 generalize valN (l.drop 32)=B at *
 generalize hp:(10:Nat) ^ (l.length-32)=p at *
 have hpp:0<p:=by rw[← hp]; exact Nat.pos_of_ne_zero (by simp)
 rw[← Nat.div_div_eq_div_mul,Nat.mul_add,← Nat.mul_assoc,Nat.mul_comm (2 ^ 32*A) p,Nat.mul_add_div hpp]
 have hc:2 ^ 32*B / p<2 ^ 32:=(Nat.div_lt_iff_lt_mul hpp).2 (Nat.mul_lt_mul_of_pos_left hlt dD)
 generalize 2 ^ 32*B / p=c at hc
 have e3:(10:Nat) ^ 32=2 ^ 32*5 ^ 32:=by decide
 rw[e3,← Nat.div_div_eq_div_mul,← Nat.div_div_eq_div_mul,Nat.mul_add_div dD,Nat.div_eq_of_lt hc,Nat.add_zero,Nat.mul_div_cancel_left _ dD]
open Go.Abs Go.Abs.S
abbrev by8(c:UInt8):AVal:=.int .u8 (c.toNat:Int)
def Says(N:ANat)(g:Nat)(p:UInt8→Bool):Prop:=∀(c:UInt8) (H:AHeap),ACalls Tryz.prog N g [by8 c] H fun v H'=>v=.bool (p c)∧H=H'
theorem digit_spec(hN:natT.is 103=false):Says natT 103 dig:=by
 intro c H
 refine acalls_ofN hN za103 rfl ?_
 by_cases h1:(48:Int)≤(c.toNat:Int)
 ·by_cases h2:(c.toNat:Int)≤57
  ·simp only[c103,sA,sB,seval,h1,h2]
   exact⟨by simp[dig]; omega,by trivial⟩
  ·simp only[c103,sA,sB,seval,h1,h2]
   exact⟨by simp[dig]; omega,by trivial⟩
 ·simp only[c103,sA,sB,seval,h1]
  exact⟨by simp[dig]; omega,by trivial⟩
theorem begins_spec(hN:natT.is 106=false):Says natT 106 beg:=by
 intro c H
 refine acalls_ofN hN za106 rfl ?_
 have e:beg c=(((decide ((97:Int)≤c.toNat)&&decide ((c.toNat:Int)≤122))||(decide ((65:Int)≤c.toNat)&&decide ((c.toNat:Int)≤90)))||decide ((c.toNat:Int)=95)):=by
  rw[Bool.eq_iff_iff]; simp[beg]; omega
 rw[e]
 by_cases h1:(97:Int)≤(c.toNat:Int) <;> by_cases h2:(c.toNat:Int)≤122 <;> by_cases h3:(65:Int)≤(c.toNat:Int) <;> by_cases h4:(c.toNat:Int)≤90 <;> by_cases h5:(c.toNat:Int)=95
 all_goals first
  | (exfalso; omega)
  | (simp only [c106, sA, sB, seval, h1, h2, h3, h4, h5]
     exact ⟨by simp, by trivial⟩)
theorem blank_spec(hN:natT.is 146=false):Says natT 146 blk:=by
 intro c H
 refine acalls_ofN hN za146 rfl ?_
 have e:blk c=(((decide ((c.toNat:Int)=9)||decide ((c.toNat:Int)=10))||decide ((c.toNat:Int)=13))||decide ((c.toNat:Int)=32)):=by
  rw[Bool.eq_iff_iff]; simp[blk]; omega
 rw[e]
 by_cases h1:(c.toNat:Int)=9 <;> by_cases h2:(c.toNat:Int)=10 <;> by_cases h3:(c.toNat:Int)=13 <;> by_cases h4:(c.toNat:Int)=32
 all_goals first
  | (exfalso; omega)
  | (simp only [c146, sA, sB, seval, h1, h2, h3, h4]
     exact ⟨by simp, by trivial⟩)
theorem nline_spec(hN:natT.is 147=false):Says natT 147 nln:=by
 intro c H
 refine acalls_ofN hN za147 rfl ?_
 have e:nln c=!decide ((c.toNat:Int)=10):=by
  rw[Bool.eq_iff_iff]; simp[nln]; omega
 rw[e]
 by_cases h1:(c.toNat:Int)=10
 all_goals
  simp only[c147,sA,sB,seval,h1]
  exact⟨by trivial,by trivial⟩
theorem namy_spec(hN:natT.is 108=false)(h24:natT.is 106=false)(h22:natT.is 103=false):Says natT 108 bgd:=by
 intro c H
 refine acalls_ofN hN za108 rfl ?_
 simp only[c108,sA,sB,seval]
 refine (begins_spec h24 c H).mono ?_
 rintro v _ ⟨rfl,rfl⟩
 cases hb:beg c with
 | true=>
  simp only[sA,sB,seval]
  exact⟨by simp[bgd,hb],by trivial⟩
 | false=>
  simp only[sA,sB,seval]
  refine (digit_spec h22 c H).mono ?_
  rintro v _ ⟨rfl,rfl⟩
  cases hd:dig c with
  | true=>simp only[sA,sB,seval]; exact⟨by simp[bgd,hb,hd],by trivial⟩
  | false=>simp only[sA,sB,seval]; exact⟨by simp[bgd,hb,hd],by trivial⟩
theorem run_spec(hN:natT.is 107=false){g:Nat}{p:UInt8→Bool}(hp:Says natT g p){H:AHeap}{s:Bs}{i:Nat}(hi:i≤s.length)(hs:s.length≤4611686018427387904)(hg:g<1024:=by decide) :
  ACalls Tryz.prog natT 107 [.str s,.int .i64 (i:Int),.func (.func g) [] []] H fun v H'=>v=.int .i64 (runF p s i:Int)∧H=H':=by
 refine acalls_ofN hN za107 rfl ?_
 simp only[c107,hg,sA,sB,seval]
 refine aw_loop (fun q (T:Env) H'=>∃j:Nat,j≤s.length∧q=s.length-j∧T 0=.str s∧T 1=.int .i64 (j:Int)∧T 2=.func (.func g) [] []∧runF p s i=runF p s j∧H=H') (s.length-i) ⟨i,hi,rfl,rfl,rfl,rfl,rfl,rfl⟩ ?_
 rintro q T _ ⟨j,hj,rfl,g0,g1,g2,hA,rfl⟩
 by_cases hlt:j<s.length
 ·have hlt':(j:Int)<(s.length:Int):=om
  obtain⟨c,hc⟩:=isSome_of_lt hlt
  simp only[sA,sB,seval,hg,g0,g1,g2,hlt',str_idx hc]
  refine (hp c H).mono ?_
  rintro v _ ⟨rfl,rfl⟩
  cases hb:p c with
  | true=>
   simp only[sA,sB,seval,hg,g0,g1,g2,wrap1 j om]
   exact⟨_,om,j+1,om,rfl,by trivial,rfl,by trivial,by rw[hA,runF_go hc hb],by trivial⟩
  | false=>
   simp only[sA,sB,seval,hg,g0,g1,g2]
   exact⟨by rw[hA,runF_no hc hb],by trivial⟩
 ·have hlt':¬(j:Int)<(s.length:Int):=om
  simp only[sA,sB,seval,hg,g0,g1,g2,hlt']
  exact⟨by rw[hA,runF_end om],by trivial⟩
theorem skip_spec(h20:natT.is 101=false)(h25:natT.is 107=false)(h45:natT.is 146=false)(h46:natT.is 147=false){H:AHeap}{s:Bs}{i:Nat}(hi:i≤s.length)(hs:s.length≤4611686018427387904) :
  ACalls Tryz.prog natT 101 [.str s,.int .i64 (i:Int)] H fun v H'=>v=.int .i64 (skipF s i:Int)∧H=H':=by
 refine acalls_ofN h20 za101 rfl ?_
 simp only[c101,sA,sB,seval]
 refine aw_loop (fun q (T:Env) H'=>∃j:Nat,j≤s.length∧q=s.length-j∧T 0=.str s∧T 1=.int .i64 (j:Int)∧skipF s i=skipF s j∧H=H') (s.length-i) ⟨i,hi,rfl,rfl,rfl,rfl,rfl⟩ ?_
 rintro q T _ ⟨j,hj,rfl,g0,g1,hA,rfl⟩
 simp only[sA,sB,seval,g0,g1]
 refine (run_spec h25 (blank_spec h45) hj hs).mono ?_
 rintro v _ ⟨rfl,rfl⟩
 have h1:=runF_ge blk s j
 have h2:=runF_le (p:=blk) hj
 rw[← skip_run s j]at hA
 have hout:∀c,s[runF blk s j]?=some c→blk c=false:=fun c=>runF_out
 generalize runF blk s j=e at *
 by_cases he:e=s.length
 ·have he':(e:Int)=(s.length:Int):=om
  simp only[sA,sB,seval,g0,g1,he']
  exact⟨by rw[hA,skip_end he.symm,he],by trivial⟩
 have he':¬(e:Int)=(s.length:Int):=om
 obtain⟨c,hc⟩:=isSome_of_lt (l:=s) (i:=e) om
 by_cases h35:(c.toNat:Int)=35
 ·simp only[sA,sB,seval,g0,g1,he',str_idx hc,h35]
  refine (run_spec h25 (nline_spec h46) h2 hs).mono ?_
  rintro v _ ⟨rfl,rfl⟩
  have h3:=runF_le (p:=nln) h2
  have hn:nln c=true:=by simp[nln]; omega
  have h4:e<runF nln s e:=by rw[runF_go hc hn]; have:=runF_ge nln s (e+1); omega
  simp only[sA,sB,seval,g0,g1]
  exact⟨_,om,runF nln s e,h3,rfl,by trivial,by trivial,by rw[hA,skip_remark hc om],by trivial⟩
 ·simp only[sA,sB,seval,g0,g1,he',str_idx hc,h35]
  exact⟨by rw[hA,skip_stop hc (hout c hc) om],by trivial⟩
theorem numeral_spec(h23:natT.is 104=false)(h25:natT.is 107=false)(h22:natT.is 103=false){H:AHeap}{s:Bs}{i:Nat}(hi:i≤s.length)(hs:s.length≤4611686018427387904) :
  ACalls Tryz.prog natT 104 [.str s,.int .i64 (i:Int)] H fun v H'=>v=.int .i64 (numF s i:Int)∧H=H':=by
 refine acalls_ofN h23 za104 rfl ?_
 simp only[c104,sA,sB,seval]
 refine (run_spec h25 (digit_spec h22) hi hs).mono ?_
 rintro v _ ⟨rfl,rfl⟩
 have h1:=runF_ge dig s i
 have h2:=runF_le (p:=dig) hi
 unfold numF
 generalize runF dig s i=e at *
 by_cases he:(e:Int)=(i:Int)
 ·obtain rfl:e=i:=om
  simp only[sA,sB,seval]
  exact⟨by rw[if_pos (.inl (by trivial))],by trivial⟩
 by_cases hl:(e:Int)=(s.length:Int)
 ·obtain rfl:e=s.length:=om
  have hn:s[s.length]?=none:=List.getElem?_eq_none om
  simp only[sA,sB,seval,he]
  exact⟨by rw[if_pos (.inr (by rw[hn]; simp))],by trivial⟩
 obtain⟨c,hc⟩:=isSome_of_lt (l:=s) (i:=e) om
 by_cases h46:(c.toNat:Int)=46
 ·have hc46:s[e]?=some 46:=by
   rw[hc]; congr 1; exact UInt8.toNat_inj.1 (by simpa using (show c.toNat=46 by omega))
  have hcond:¬(e=i∨s[e]?≠some 46):=by
   rintro (h | h)
   ·omega
   ·exact h hc46
  rw[if_neg hcond]
  simp only[sA,sB,seval,he,hl,str_idx hc,h46,wrap1 e om]
  refine (run_spec h25 (digit_spec h22) (i:=e+1) om hs).mono ?_
  rintro v _ ⟨rfl,rfl⟩
  by_cases hm:((e+1:Nat):Int)<(runF dig s (e+1):Int)
  ·simp only[sA,sB,seval,wrap1 e om,hm]
   exact⟨by rw[if_pos om],by trivial⟩
  ·simp only[sA,sB,seval,wrap1 e om,hm]
   exact⟨by rw[if_neg om],by trivial⟩
 ·have hcond:e=i∨s[e]?≠some 46:=by
   right
   rw[hc]
   intro h
   simp only[sJ]at h
   subst h
   exact h46 rfl
  rw[if_pos hcond]
  simp only[sA,sB,seval,he,hl,str_idx hc,h46]
  exact⟨by trivial,by trivial⟩
open Go.Abs Go.Abs.S
def digs(s:Bs):List Nat:=s.map dv
theorem digs_le{s:Bs}(h:∀c∈s,dig c=true):∀d∈digs s,d≤9:=by
 intro d hd
 obtain⟨c,hc,rfl⟩:=List.mem_map.1 hd
 have:=h c hc
 simp[dig]at this
 unfold dv; omega
def pad(s:Bs)(i:Nat):List Nat:=digs (s.take i)++List.replicate (32-i) 0
theorem pad_len(s:Bs){i:Nat}(h:i≤s.length)(h2:i≤32):(pad s i).length=32:=by
 simp[pad,digs]; omega
theorem pad_set(s:Bs){i:Nat}{c:UInt8}(hc:s[i]?=some c)(h2:i<32):(pad s i).set i (dv c)=pad s (i+1):=by
 have hlt:=(List.getElem?_eq_some_iff.1 hc).1
 have hl:(digs (s.take i)).length=i:=by simp[digs]; omega
 unfold pad
 rw[List.set_append_right _ _ om,hl,Nat.sub_self,show 32-i=(32-(i+1))+1 by omega,List.replicate_succ,List.set_cons_zero]
 rw[List.take_add_one,hc]
 simp[digs]
theorem pad_frac(s:Bs)(h:∀c∈s,dig c=true):frac (pad s (min s.length 32))=frac (digs s):=by
 by_cases hl:s.length≤32
 ·rw[Nat.min_eq_left hl,pad,List.take_length,frac_pad]
 ·rw[Nat.min_eq_right om]
  have e:pad s 32=(digs s).take 32:=by simp[pad,digs,List.map_take]
  rw[e,frac_take (digs_le h) (by simp[digs]; omega)]
def half(l:List Nat)(m:Nat):List Nat:=l.take m++(dbl (l.drop m)).2
theorem half_all(l:List Nat):half l l.length=l:=by simp[half,dbl]
theorem half_zero(l:List Nat):half l 0=(dbl l).2:=by simp[half]
theorem half_len(l:List Nat)(m:Nat):(half l m).length=l.length:=by
 simp[half,dbl_len]; omega
theorem half_get{l:List Nat}{m d:Nat}(h:l[m]?=some d):(half l (m+1))[m]?=some d:=by
 have hlt:=(List.getElem?_eq_some_iff.1 h).1
 rw[half,List.getElem?_append_left (by simp; omega),List.getElem?_take_of_lt om,h]
theorem drop_at{l:List Nat}{m d:Nat}(h:l[m]?=some d):l.drop m=d::l.drop (m+1):=by
 have hlt:=(List.getElem?_eq_some_iff.1 h).1
 rw[List.drop_eq_getElem_cons hlt]
 congr 1
 rw[List.getElem?_eq_getElem hlt]at h
 simpa using h
theorem half_set{l:List Nat}{m d:Nat}(h:l[m]?=some d):(half l (m+1)).set m ((d*2+(dbl (l.drop (m+1))).1) % 10)=half l m:=by
 have hlt:=(List.getElem?_eq_some_iff.1 h).1
 unfold half
 rw[drop_at h,dbl]
 rw[List.set_append_left _ _ (by simp; omega)]
 rw[List.take_add_one,h,Option.toList_some,List.set_append_right _ _ (by simp; omega),List.append_assoc]
 congr 1
 have:m-(l.take m).length=0:=by simp; omega
 rw[this]; rfl
theorem part_spec(h35:natT.is 152=false){H:AHeap}{s:Bs}(hd:∀c∈s,dig c=true)(hs:s.length≤4611686018427387904) :
  ACalls Tryz.prog natT 152 [.str s] H fun v H'=>v=.int .i64 (frac (digs s):Int)∧Ext H.next H H':=by
 refine acalls_ofN h35 za152 rfl ?_
 obtain⟨H1,m1,r1,n1,k1⟩:=row_newL H (u8s (List.replicate 32 0)) (n:=32) rfl
 have hz:u8s (List.replicate 32 0)=[.int .u8 0,.int .u8 0,.int .u8 0,.int .u8 0,.int .u8 0,.int .u8 0,.int .u8 0,.int .u8 0,.int .u8 0,.int .u8 0,.int .u8 0,.int .u8 0,.int .u8 0,.int .u8 0,.int .u8 0,.int .u8 0,.int .u8 0,.int .u8 0,.int .u8 0,.int .u8 0,.int .u8 0,.int .u8 0,.int .u8 0,.int .u8 0,.int .u8 0,.int .u8 0,.int .u8 0,.int .u8 0,.int .u8 0,.int .u8 0,.int .u8 0,.int .u8 0]:=rfl
 rw[hz]at m1
 have hmin:(if (32:Int)<(s.length:Int) then (32:Int) else (s.length:Int))=((min s.length 32:Nat):Int):=by
  split <;> omega
 simp only[c152,sA,sB,seval,m1,hmin]
 have p0:pad s 0=List.replicate 32 0:=by simp[pad,digs]
 rw[← p0]at r1
 generalize hb:H.next=b at *
 refine aw_loop (fun q (T:Env) H'=>∃i:Nat,i≤min s.length 32∧q=min s.length 32-i∧T 0=.str s∧T 3=cellR b 32 0∧T 11=.int .i64 ((min s.length 32:Nat):Int)∧T 12=.int .i64 (i:Int)∧Row H' b (u8s (pad s i))∧H'.next=b+1∧∀c,c<b→H'.get c=H.get c) (min s.length 32)
  ⟨0,Nat.zero_le _,rfl,rfl,by simp only[sA,sB,seval],by simp only[sA,sB,seval],by simp only[sA,sB,seval]; try rfl,r1,om,fun c hc=>k1 c om⟩ ?_
 clear m1 r1 k1 n1 H1
 rintro q T H1 ⟨i,hi,rfl,g0,g3,g11,g12,r1,n1,k1⟩
 by_cases hlt:i<min s.length 32
 ·have hlt':(i:Int)<((min s.length 32:Nat):Int):=om
  obtain⟨c,hc⟩:=isSome_of_lt (l:=s) (i:=i) om
  have hdc:=hd c (List.mem_of_getElem? hc)
  have hdv:(c.toNat:Int)-48=((dv c:Nat):Int):=by simp[dig]at hdc; unfold dv; omega
  have hd9:dv c≤9:=by simp[dig]at hdc; unfold dv; omega
  have hw:IntKind.u8.wrap ((dv c:Nat):Int)=((dv c:Nat):Int):=wrapU8 om om
  have ia:=arr_idx (b:=b) (n:=32) (i:=i) om .i64
  obtain⟨H2,m2,r2,n2,k2⟩:=row_store r1 (n:=32) (by rw[u8s_len,pad_len s om om]) (i:=i) om (x:=.int .u8 ((dv c:Nat):Int)) rfl
  simp only[sA,sB,seval,g0,g3,g11,g12,hlt',str_idx hc,hdv,hw,ia,m2,wrap1 i om]
  refine⟨_,om,i+1,om,rfl,by trivial,by trivial,by trivial,rfl,?_,om,fun c hc=>(k2 c om).trans (k1 c hc)⟩
  rw[← pad_set s hc om,u8s_set]
  exact r2
 obtain rfl:i=min s.length 32:=om
 simp only[sA,sB,seval,g0,g3,g11,g12,Int.lt_irrefl]
 have hl:=pad_len s (i:=min s.length 32) om om
 have hp9:∀d∈pad s (min s.length 32),d≤9:=by
  intro d hdm
  rcases List.mem_append.1 hdm with h | h
  ·exact digs_le (s:=s.take (min s.length 32)) (fun c hc=>hd c (List.mem_of_mem_take hc)) d h
  ·have:=(List.mem_replicate.1 h).2; omega
 rw[← pad_frac s hd]
 generalize pad s (min s.length 32)=l at *
 refine aw_loop (fun q (T:Env) H'=>∃k:Nat,k≤32∧q=32-k∧T 3=cellR b 32 0∧T 5=.int .i64 ((bits l 0 k).1:Int)∧T 22=.int .i64 (k:Int)∧Row H' b (u8s (bits l 0 k).2)∧H'.next=b+1∧∀c,c<b→H'.get c=H.get c) 32
  ⟨0,Nat.zero_le _,rfl,by simp only[sA,sB,seval,g3],by simp only[sA,sB,seval]; try rfl,by simp only[sA,sB,seval]; try rfl,r1,n1,k1⟩ ?_
 clear g0 g3 g11 g12 r1 n1 k1 T H1
 rintro q T H1 ⟨k,hk,rfl,g3,g5,g22,r1,n1,k1⟩
 by_cases hlt:k<32
 ·have hlt':(k:Int)<32:=om
  have hb9:=bits_dig hp9 0 k
  have hbl:=bits_len l 0 k
  rw[hl]at hbl
  have hbv:(bits l 0 k).1<2 ^ 32:=by
   have h1:=bits_val l 0 k
   have h2:=valN_lt hp9
   rw[Nat.zero_mul,Nat.zero_add,hl]at h1
   rw[hl]at h2
   have h3:2 ^ k≤2 ^ 32:=Nat.pow_le_pow_right om hk
   have h4:(bits l 0 k).1*10 ^ 32<2 ^ 32*10 ^ 32:=by
    calc (bits l 0 k).1*10 ^ 32≤2 ^ k*valN l:=om
     _≤2 ^ 32*valN l:=Nat.mul_le_mul_right _ h3
     _<2 ^ 32*10 ^ 32:=Nat.mul_lt_mul_of_pos_left h2 dD
   exact Nat.lt_of_mul_lt_mul_right h4
  simp only[sA,sB,seval,g3,g5,g22,hlt']
  have hbits:bits l 0 (k+1)=(2*(bits l 0 k).1+(dbl (bits l 0 k).2).1,(dbl (bits l 0 k).2).2):=rfl
  generalize hm:(bits l 0 k).2=m at *
  generalize hout:(bits l 0 k).1=out at *
  have hov:=dbl_over hb9
  refine aw_loop (fun q (T:Env) H'=>∃j:Nat,j≤32∧j=q∧T 3=cellR b 32 0∧T 5=.int .i64 (out:Int)∧T 22=.int .i64 (k:Int)∧T 6=.int .u8 ((dbl (m.drop j)).1:Int)∧T 7=.int .i64 ((j:Int)-1)∧Row H' b (u8s (half m j))∧H'.next=b+1∧∀c,c<b→H'.get c=H.get c) 32
   ⟨32,om,rfl,by simp only[sA,sB,seval,g3],by simp only[sA,sB,seval,g5],by simp only[sA,sB,seval,g22],by simp only[sA,sB,seval]; rw[List.drop_eq_nil_of_le om]; rfl,by simp only[sA,sB,seval]; try rfl,by rw[← hbl,half_all]; exact r1,n1,k1⟩ ?_
  clear g3 g5 g22 r1 n1 k1 T H1
  rintro q T H1 ⟨j,hj,rfl,g3,g5,g22,g6,g7,r1,n1,k1⟩
  cases j with
  | zero=>
   have c0:¬(0:Int)≤((0:Nat):Int)-1:=om
   rw[List.drop_zero]at g6
   rw[half_zero]at r1
   have hsh:out*2 ^ 1<2 ^ 63:=om
   have e1:=bin_shlN (k':=.u64) (a:=out) (b:=1) om hsh
   have e2:=bin_orN (a:=out*2 ^ 1) (b:=(dbl m).1) hsh om
   rw[or_low 1 out om]at e2
   have hw:IntKind.i64.wrap ((dbl m).1:Int)=((dbl m).1:Int):=wrap64 om om
   simp only[Int.cast_ofNat_Int]at e1
   simp only[sA,sB,seval,g3,g5,g22,g6,g7,c0,e1,e2,hw,wrap1 k om]
   refine⟨_,om,k+1,om,rfl,by trivial,?_,rfl,?_,n1,k1⟩
   ·rw[hbits]; simp only; congr 2; omega
   ·rw[hbits]; exact r1
  | succ j=>
   have c0:(0:Int)≤((j+1:Nat):Int)-1:=om
   have ej:((j+1:Nat):Int)-1=(j:Int):=om
   rw[ej]at g7 c0
   obtain⟨d,hdd⟩:=isSome_of_lt (l:=m) (i:=j) om
   have hd9:=hb9 d (List.mem_of_getElem? hdd)
   have ho:=dbl_over (l:=m.drop (j+1)) fun x hx=>hb9 x (List.mem_of_mem_drop hx)
   have hset:=half_set hdd
   have hdr:dbl (m.drop j)=((d*2+(dbl (m.drop (j+1))).1) / 10,(d*2+(dbl (m.drop (j+1))).1) % 10::(dbl (m.drop (j+1))).2):=by rw[drop_at hdd]; rfl
   generalize (dbl (m.drop (j+1))).1=o at *
   have ia:=arr_idx (b:=b) (n:=32) (i:=j) om .i64
   have l1:=row_load r1 (n:=32) (by rw[u8s_len,half_len,hbl]) (u8s_get (half_get hdd))
   have w1:IntKind.u8.wrap ((d:Int)*2)=((d*2:Nat):Int):=by rw[wrapU8 om om]; omega
   have w2:IntKind.u8.wrap (((d*2:Nat):Int)+(o:Int))=((d*2+o:Nat):Int):=by rw[wrapU8 om om]; omega
   have e3:aBin .rem (.int .u8 ((d*2+o:Nat):Int)) (.int .u8 10)=some (.int .u8 (((d*2+o) % 10:Nat):Int)):=by
    rw[bin_rem _ _ _ om]; rfl
   have e4:aBin .quo (.int .u8 ((d*2+o:Nat):Int)) (.int .u8 10)=some (.int .u8 (((d*2+o) / 10:Nat):Int)):=by
    rw[bin_quo _ _ _ om]
    have:((d*2+o:Nat):Int).tdiv 10=(((d*2+o) / 10:Nat):Int):=rfl
    rw[this,wrapU8 om om]
   obtain⟨H2,m2,r2,n2,k2⟩:=row_store r1 (n:=32) (by rw[u8s_len,half_len,hbl]) (i:=j) om (x:=.int .u8 (((d*2+o) % 10:Nat):Int)) rfl
   have hwj:IntKind.i64.wrap ((j:Int)-1)=(j:Int)-1:=wrap64 om om
   simp only[sA,sB,seval,g3,g5,g22,g6,g7,c0,ia,l1,w1,w2,e3,e4,m2,hwj]
   refine⟨_,Nat.lt_succ_self j,j,om,rfl,by trivial,by trivial,by trivial,by rw[hdr],by trivial,?_,om,fun c hc=>(k2 c om).trans (k1 c hc)⟩
   rw[← hset,u8s_set]
   exact r2
 obtain rfl:k=32:=om
 have hlast:=bits_frac hp9 0
 rw[Nat.mul_zero,Nat.zero_add]at hlast
 rw[hlast]at g5
 simp only[sA,sB,seval,g3,g5,g22,Int.cast_ofNat_Int,Int.lt_irrefl]
 exact⟨by trivial,⟨om,fun c hc=>k1 c om⟩⟩
open Go.Abs Go.Abs.S
def npt(c:UInt8):Bool:=!decide (c.toNat=46)
def whole(s:Bs):Bs:=s.takeWhile npt
def behind(s:Bs):Bs:=(s.dropWhile npt).drop 1
def hasPt(s:Bs):Bool:=!(s.all npt)
theorem whole_le(s:Bs):(whole s).length≤s.length:=(List.takeWhile_sublist (p:=npt) (l:=s)).length_le
theorem whole_eq(s:Bs):whole s=s.take (whole s).length:=by
 exact (List.prefix_iff_eq_take.1 (List.takeWhile_prefix npt (l:=s)))
theorem drop_whole(s:Bs):s.drop (whole s).length=s.dropWhile npt:=by
 have h:whole s++s.dropWhile npt=s:=List.takeWhile_append_dropWhile (p:=npt) (l:=s)
 generalize hw:whole s=w at *
 conv=>lhs; rw[← h]
 rw[List.drop_left]
theorem behind_eq(s:Bs):behind s=s.drop ((whole s).length+1):=by
 rw[behind,← drop_whole,List.drop_drop]
theorem hasPt_lt{s:Bs}(h:hasPt s=true):(whole s).length<s.length:=by
 rcases Nat.lt_or_ge (whole s).length s.length with hl | hl
 ·exact hl
 ·have e:whole s=s:=by rw[whole_eq s,List.take_of_length_le hl]
  have:s.all npt=true:=by rw[← e]; exact List.all_takeWhile
  simp[hasPt,this]at h
theorem ibF_go(s:Bs)(n:Nat):ibF 46 s n=if hasPt s then ((n+(whole s).length:Nat):Int) else -1:=by
 induction s generalizing n with
 | nil=>rfl
 | cons c r ih=>
  rw[ibF]
  by_cases h:c.toNat=46
  ·have hc:c=46:=UInt8.toNat_inj.1 h
   subst hc
   simp[hasPt,npt,whole]
  ·have hc:¬c=46:=fun e=>h (by rw[e]; rfl)
   have hn:npt c=true:=by simp[npt,h]
   have e1:hasPt (c::r)=hasPt r:=by simp[hasPt,hn]
   have e2:(whole (c::r)).length=(whole r).length+1:=by rw[whole,List.takeWhile_cons_of_pos hn]; rfl
   have e3:Nat.beq c.toNat (UInt8.toNat 46)=false:=by
    cases hb:Nat.beq c.toNat (UInt8.toNat 46) with
    | false=>rfl
    | true=>exact absurd (Nat.eq_of_beq_eq_true hb) h
   rw[e1,e2,e3,cond_false,ih,show n+1+(whole r).length=n+((whole r).length+1) by omega]
theorem no_pt{s:Bs}(h:hasPt s=false):whole s=s∧behind s=[]:=by
 have ha:s.all npt=true:=by simpa[hasPt] using h
 have hall:=List.all_eq_true.1 ha
 have e:whole s=s:=by
  rw[whole]
  have:=List.takeWhile_append_of_pos (p:=npt) (l₁:=s) (l₂:=[]) hall
  simpa using this
 exact⟨e,by rw[behind_eq,e]; simp⟩
theorem ibs_spec(h76:natT.is 184=false){H:AHeap}{s:Bs}:ACalls Tryz.prog natT 184 [.str s,.int .u8 46] H fun v H'=>v=.int .i64 (ibF 46 s 0)∧H=H':=by
 refine acalls_ofN h76 za184 rfl ?_
 have e:aPf .ibs [.str s,.int .u8 46]=some (.int .i64 (ibF 46 s 0)):=rfl
 simp only[c184,sA,sB,seval,e]
 exact⟨by trivial,by trivial⟩
theorem index_spec(h74:natT.is 181=false)(h76:natT.is 184=false){H:AHeap}{s:Bs}:ACalls Tryz.prog natT 181 [.str s,.str [46]] H fun v H'=>v=.int .i64 (ibF 46 s 0)∧H=H':=by
 refine acalls_ofN h74 za181 rfl ?_
 have i0:aIdxS (.str [46]) (.int .i64 0)=some (.int .u8 46):=rfl
 have hl1:((List.length [(46:UInt8)]:Nat):Int)=1:=rfl
 by_cases hs:[46]=s
 ·subst hs
  have e:ibF 46 [46] 0=0:=rfl
  rw[e]
  simp only[c181,sA,sB,seval,hl1]
  exact⟨by trivial,by trivial⟩
 ·simp only[c181,sA,sB,seval,hl1,hs,i0]
  refine (ibs_spec h76).mono ?_
  rintro v _ ⟨rfl,rfl⟩
  simp only[sA,sB,seval]
  exact⟨by trivial,by trivial⟩
theorem cut_spec(h34:natT.is 151=false)(h57:natT.is 182=false)(h74:natT.is 181=false)(h76:natT.is 184=false){H:AHeap}{s:Bs}(hs:s.length≤4611686018427387904) :
  ACalls Tryz.prog natT 151 [.str s,.str [46]] H fun v H'=>v=.tuple [.str (whole s),.str (behind s),.bool (hasPt s)]∧H=H':=by
 refine acalls_ofN h34 za151 rfl ?_
 simp only[c151,sA,sB,seval]
 have key:ACalls Tryz.prog natT 182 [.str s,.str [46]] H fun v H'=>v=.tuple [.str (whole s),.str (behind s),.bool (hasPt s)]∧H=H':=by
  refine acalls_ofN h57 za182 rfl ?_
  simp only[c182,sA,sB,seval]
  refine (index_spec h74 h76).mono ?_
  rintro v _ ⟨rfl,rfl⟩
  have hl1:((List.length [(46:UInt8)]:Nat):Int)=1:=rfl
  rw[ibF_go]
  cases hp:hasPt s with
  | true=>
   have hlt:=hasPt_lt hp
   have hge:(0:Int)≤((0+(whole s).length:Nat):Int):=om
   rw[Nat.zero_add]at *
   have e1:=str_slH (s:=s) (h:=(whole s).length) (whole_le s)
   have e2:=str_slL (s:=s) (l:=(whole s).length+1) om
   rw[← whole_eq]at e1
   rw[← behind_eq]at e2
   simp only[sA,sB,seval,hge,hl1,wrap1 (whole s).length om,e1,e2]
   exact⟨by trivial,by trivial⟩
  | false=>
   obtain⟨e1,e2⟩:=no_pt hp
   simp only[sA,sB,seval,e1,e2]
   exact⟨by trivial,by trivial⟩
 refine key.mono ?_
 rintro v _ ⟨rfl,rfl⟩
 simp only[aExtract,List.getElem?_cons_zero,List.getElem?_cons_succ,sA,sB,seval]
 exact⟨by trivial,by trivial⟩
open Go.Abs Go.Abs.S
def isNum(s:Bs):Bool:=(match s with | []=>false | c::_=>dig c)&&decide (numF s 0=s.length)
def saysF(s:Bs):Option Nat:=if isNum s=true∧valF (whole s)<2147483648 then some (valF (whole s)*2 ^ 32+frac (digs (behind s))) else none
def told:Option Nat→AVal
 | some n=>.tuple [.int .i64 (n:Int),.bool true]
 | none=>.tuple [.int .i64 0,.bool false]
theorem dig_npt{c:UInt8}(h:dig c=true):npt c=true:=by
 simp[dig]at h; simp[npt]; omega
theorem whole_run(s:Bs):(whole s).length=runF npt s 0:=by simp[runF,whole]
theorem num_digs{s:Bs}(h:isNum s=true):(∀c∈whole s,dig c=true)∧∀c∈behind s,dig c=true:=by
 simp only[isNum,Bool.and_eq_true,decide_eq_true_eq]at h
 obtain⟨h0,h1⟩:=h
 have hin:∀{a j:Nat} {c:UInt8},a≤j→j<runF dig s a→s[j]?=some c→dig c=true:=by
  intro a j c ha hj hc
  obtain⟨d,hd,hp⟩:=runF_in ha hj
  rw[hc]at hd; cases hd; exact hp
 have hle:=runF_le (p:=dig) (s:=s) (i:=0) (Nat.zero_le _)
 by_cases hd:s[runF dig s 0]?=some 46
 ·have hlt:=(List.getElem?_eq_some_iff.1 hd).1
  have hp0:runF dig s 0≠0:=by
   intro e
   cases s with
   | nil=>simp at hlt
   | cons c r=>
    simp only at h0
    rw[runF_go (c:=c) rfl h0]at e
    have:=runF_ge dig (c::r) (0+1)
    omega
  have hw:(whole s).length=runF dig s 0:=by
   rw[whole_run]
   rcases Nat.lt_trichotomy (runF npt s 0) (runF dig s 0) with hl | hl | hl
   ·obtain⟨c,hc⟩:=isSome_of_lt (l:=s) (i:=runF npt s 0) om
    have:=runF_out hc
    rw[dig_npt (hin (Nat.zero_le _) hl hc)]at this
    cases this
   ·exact hl
   ·obtain⟨c,hc,hp⟩:=runF_in (Nat.zero_le _) hl
    rw[hd]at hc; cases hc
    simp[npt]at hp
  unfold numF at h1
  rw[if_neg (by rintro (e | e); exact hp0 e; exact e hd)]at h1
  split at h1
  ·constructor
   ·intro c hc
    rw[whole_eq,hw]at hc
    obtain⟨j,hj⟩:=List.mem_iff_getElem?.1 hc
    have hjl:=(List.getElem?_eq_some_iff.1 hj).1
    simp only[List.length_take]at hjl
    rw[List.getElem?_take_of_lt om]at hj
    exact hin (Nat.zero_le _) om hj
   ·intro c hc
    rw[behind_eq,hw]at hc
    obtain⟨j,hj⟩:=List.mem_iff_getElem?.1 hc
    rw[List.getElem?_drop]at hj
    have hjl:=(List.getElem?_eq_some_iff.1 hj).1
    exact hin (a:=runF dig s 0+1) om om hj
  ·omega
 ·unfold numF at h1
  rw[if_pos (.inr hd)]at h1
  have hall:∀c∈s,dig c=true:=by
   intro c hc
   obtain⟨j,hj⟩:=List.mem_iff_getElem?.1 hc
   have hjl:=(List.getElem?_eq_some_iff.1 hj).1
   exact hin (Nat.zero_le _) om hj
  have hp:hasPt s=false:=by
   simp only[hasPt,Bool.not_eq_false']
   exact List.all_eq_true.2 fun c hc=>dig_npt (hall c hc)
  obtain⟨e1,e2⟩:=no_pt hp
  rw[e1,e2]
  exact⟨hall,by simp⟩
theorem val_take_le(l:Bs)(i:Nat):valF (l.take i)≤valF l:=by
 have h:=foldl_val (l.drop i) (valF (l.take i))
 have e:valF l=List.foldl (fun n c=>n*10+dv c) (valF (l.take i)) (l.drop i):=by
  unfold valF
  rw[← List.foldl_append,List.take_append_drop]
 rw[e,h]
 have:valF (l.take i)*1≤valF (l.take i)*10 ^ (l.drop i).length:=Nat.mul_le_mul_left _ (Nat.pos_of_ne_zero (by simp))
 omega
theorem number_spec(h12:natT.is 105=false)(h22:natT.is 103=false)(h23:natT.is 104=false)(h25:natT.is 107=false)(h34:natT.is 151=false)(h35:natT.is 152=false)(h57:natT.is 182=false)(h74:natT.is 181=false)(h76:natT.is 184=false)
  {H:AHeap} {s:Bs} (hs:s.length≤4611686018427387904):ACalls Tryz.prog natT 105 [.str s] H fun v H'=>v=told (saysF s)∧Ext H.next H H':=by
 refine acalls_ofN h12 za105 rfl ?_
 cases s with
 | nil=>
  have e:saysF []=none:=rfl
  rw[e]
  simp only[c105,sA,sB,seval]
  exact⟨by trivial,Ext.refl _ _⟩
 | cons c r=>
  have i0:aIdxS (.str (c::r)) (.int .i64 0)=some (by8 c):=str_idx (s:=c::r) (i:=0) rfl .i64
  have hne:¬c::r=[]:=by simp
  simp only[c105,sA,sB,seval,hne,i0]
  refine (digit_spec h22 c H).mono ?_
  rintro v _ ⟨rfl,rfl⟩
  cases hd:dig c with
  | false=>
   have e:saysF (c::r)=none:=by simp[saysF,isNum,hd]
   rw[e]
   simp only[sA,sB,seval]
   exact⟨by trivial,Ext.refl _ _⟩
  | true=>
  simp only[sA,sB,seval]
  refine (numeral_spec h23 h25 h22 (Nat.zero_le _) hs).mono ?_
  rintro v _ ⟨rfl,rfl⟩
  have hle:=numF_le (s:=c::r) (Nat.zero_le _)
  by_cases hn:numF (c::r) 0=(c::r).length
  ·have hnum:isNum (c::r)=true:=by simp only[isNum,hd,hn,decide_true,Bool.and_self]
   have hn':((numF (c::r) 0:Nat):Int)=((c::r).length:Int):=by rw[hn]
   generalize c::r=s at *
   obtain⟨hw,hb⟩:=num_digs hnum
   simp only[sA,sB,seval,hn']
   refine (cut_spec h34 h57 h74 h76 hs).mono ?_
   rintro v _ ⟨rfl,rfl⟩
   simp only[aExtract,List.getElem?_cons_zero,List.getElem?_cons_succ,sA,sB,seval]
   have hwl:=whole_le s
   have hbl:(behind s).length≤s.length:=by rw[behind_eq]; simp
   have hsay:saysF s=if valF (whole s)<2147483648 then some (valF (whole s)*2 ^ 32+frac (digs (behind s))) else none:=by simp[saysF,hnum]
   rw[hsay]
   generalize whole s=w at *
   generalize behind s=t at *
   refine aw_loop (fun q (T:Env) H'=>∃i:Nat,i≤w.length∧q=w.length-i∧T 4=.str w∧T 5=.str t∧T 7=.int .i64 (valF (w.take i):Int)∧valF (w.take i)<2147483648∧T 31=.int .i64 (w.length:Int)∧T 32=.int .i64 (i:Int)∧H=H') w.length
    ⟨0,Nat.zero_le _,rfl,rfl,rfl,rfl,by simp[valF],rfl,rfl,rfl⟩ ?_
   rintro q T _ ⟨i,hi,rfl,g4,g5,g7,hv,g31,g32,rfl⟩
   by_cases hlt:i<w.length
   ·have hlt':(i:Int)<(w.length:Int):=om
    obtain⟨c,hc⟩:=isSome_of_lt hlt
    have hdc:=hw c (List.mem_of_getElem? hc)
    have hdv:(c.toNat:Int)-48=((dv c:Nat):Int):=by simp[dig]at hdc; unfold dv; omega
    have hd9:dv c≤9:=by simp[dig]at hdc; unfold dv; omega
    have hw1:IntKind.u8.wrap ((dv c:Nat):Int)=((dv c:Nat):Int):=wrapU8 om om
    have hw2:IntKind.i64.wrap ((dv c:Nat):Int)=((dv c:Nat):Int):=wrap64 om om
    have hw3:IntKind.i64.wrap ((valF (w.take i):Int)*10)=((valF (w.take i)*10:Nat):Int):=by rw[wrap64 om om]; omega
    have hw4:IntKind.i64.wrap (((valF (w.take i)*10:Nat):Int)+((dv c:Nat):Int))=((valF (w.take (i+1)):Nat):Int):=by
     rw[wrap64 om om,List.take_add_one,hc,Option.toList_some,val_snoc]; omega
    simp only[sA,sB,seval,g4,g5,g7,g31,g32,hlt',str_idx hc,hdv,hw1,hw2,hw3,hw4]
    by_cases hbig:valF (w.take (i+1))<2147483648
    ·have hbig':¬(2147483648:Int)≤((valF (w.take (i+1)):Nat):Int):=om
     simp only[sA,sB,seval,g4,g5,g7,g31,g32,hbig',wrap1 i om]
     exact⟨_,om,i+1,om,rfl,by trivial,by trivial,rfl,hbig,by trivial,rfl,by trivial⟩
    ·have hbig':(2147483648:Int)≤((valF (w.take (i+1)):Nat):Int):=om
     have:=val_take_le w (i+1)
     simp only[sA,sB,seval,g4,g5,g7,g31,g32,hbig']
     exact⟨by rw[if_neg om]; rfl,Ext.refl _ _⟩
   ·obtain rfl:i=w.length:=om
    rw[List.take_length]at g7 hv
    have e1:=bin_shlN (k':=.u64) (a:=valF w) (b:=32) om om
    simp only[Int.cast_ofNat_Int]at e1
    simp only[sA,sB,seval,g4,g5,g7,g31,g32,Int.lt_irrefl,e1]
    refine (part_spec h35 hb om).mono ?_
    rintro v H' ⟨rfl,hx⟩
    have hf:=frac_lt (digs_le hb)
    have e2:=bin_orN (a:=valF w*2 ^ 32) (b:=frac (digs t)) om om
    rw[or_low 32 _ hf]at e2
    simp only[sA,sB,seval,e2]
    exact⟨by rw[if_pos hv]; rfl,hx⟩
  ·have hn':¬((numF (c::r) 0:Nat):Int)=((c::r).length:Int):=om
   have e:saysF (c::r)=none:=by simp only[saysF,isNum,hn,decide_false,Bool.and_false,Bool.false_eq_true,false_and,if_false]
   rw[e]
   simp only[sA,sB,seval,hn']
   exact⟨by trivial,Ext.refl _ _⟩
open Go.Abs Go.Abs.S
theorem rdigit_spec(hN:natT.is 159=false):Says natT 159 dig:=by
 intro c H
 refine acalls_ofN hN za159 rfl ?_
 by_cases h1:(48:Int)≤(c.toNat:Int)
 ·by_cases h2:(c.toNat:Int)≤57
  ·simp only[c159,sA,sB,seval,h1,h2]
   exact⟨by simp[dig]; omega,by trivial⟩
  ·simp only[c159,sA,sB,seval,h1,h2]
   exact⟨by simp[dig]; omega,by trivial⟩
 ·simp only[c159,sA,sB,seval,h1]
  exact⟨by simp[dig]; omega,by trivial⟩
theorem rnumeral_spec(h36:natT.is 156=false)(h54:natT.is 159=false){H:AHeap}{s:Bs}{i:Nat}(hi:i≤s.length)(hs:s.length≤4611686018427387904) :
  ACalls Tryz.prog natT 156 [.str s,.int .i64 (i:Int)] H fun v H'=>v=.int .i64 ((numF s i-i:Nat):Int)∧H=H':=by
 refine acalls_ofN h36 za156 rfl ?_
 simp only[c156,sA,sB,seval]
 refine aw_cut (fun (T:Env) H'=>T 0=.str s∧T 1=.int .i64 (i:Int)∧T 5=.int .i64 (runF dig s i:Int)∧H=H') (calls_mono _ _) ?_ ?_
 ·refine aw_loop (fun q (T:Env) H'=>∃j:Nat,j≤s.length∧q=s.length-j∧T 0=.str s∧T 1=.int .i64 (i:Int)∧T 5=.int .i64 (j:Int)∧runF dig s i=runF dig s j∧H=H') (s.length-i) ⟨i,hi,rfl,rfl,rfl,rfl,rfl,rfl⟩ ?_
  rintro q T _ ⟨j,hj,rfl,g0,g1,g5,hA,rfl⟩
  by_cases hlt:j<s.length
  ·have hlt':(j:Int)<(s.length:Int):=om
   obtain⟨c,hc⟩:=isSome_of_lt hlt
   simp only[sA,sB,seval,g0,g1,g5,hlt',str_idx hc]
   refine (rdigit_spec h54 c H).mono ?_
   rintro v _ ⟨rfl,rfl⟩
   cases hb:dig c with
   | true=>
    simp only[sA,sB,seval,g0,g1,g5,wrap1 j om]
    exact⟨_,om,j+1,om,rfl,by trivial,by trivial,rfl,by rw[hA,runF_go hc hb],by trivial⟩
   | false=>
    simp only[sA,sB,seval,g0,g1,g5]
    exact⟨by trivial,by trivial,by rw[hA,runF_no hc hb],by trivial⟩
  ·have hlt':¬(j:Int)<(s.length:Int):=om
   simp only[sA,sB,seval,g0,g1,g5,hlt']
   exact⟨by trivial,by trivial,by rw[hA,runF_end om],by trivial⟩
 rintro T _ ⟨g0,g1,g5,rfl⟩
 have hle:=runF_le (p:=dig) hi
 have hge:=runF_ge dig s i
 have hdef:numF s i=if runF dig s i=i∨s[runF dig s i]?≠some 46 then runF dig s i else if runF dig s i+1<runF dig s (runF dig s i+1) then runF dig s (runF dig s i+1) else runF dig s i:=rfl
 rw[hdef]
 generalize runF dig s i=e at *
 by_cases he:e=i
 ·subst he
  simp only[sA,sB,seval,g0,g1,g5]
  exact⟨by rw[if_pos (.inl (by trivial))]; simp,by trivial⟩
 have he':¬(e:Int)=(i:Int):=om
 simp only[sA,sB,seval,g0,g1,g5,he',wrap1 e om]
 refine aw_cut (fun (T:Env) H'=>∃m:Nat,m=(if s[e]?=some 46 then runF dig s (e+1) else e+1)∧T 0=.str s∧T 1=.int .i64 (i:Int)∧T 5=.int .i64 (e:Int)∧T 6=.int .i64 (m:Int)∧H=H') (calls_mono _ _) ?_ ?_
 ·refine aw_loop (fun q (T:Env) H'=>∃m:Nat,e+1≤m∧m≤s.length+1∧q=s.length+1-m∧T 0=.str s∧T 1=.int .i64 (i:Int)∧T 5=.int .i64 (e:Int)∧T 6=.int .i64 (m:Int)∧(s[e]?=some 46→runF dig s (e+1)=runF dig s m)∧(s[e]?≠some 46→m=e+1)∧H=H') (s.length+1-(e+1)) ⟨e+1,om,om,rfl,by simp only[sA,sB,seval,g0],by simp only[sA,sB,seval,g1],by simp only[sA,sB,seval,g5],by simp only[sA,sB,seval],fun _=>rfl,fun _=>rfl,rfl⟩ ?_
  clear g0 g1 g5
  rintro q T _ ⟨m,h1,h2,rfl,g0,g1,g5,g6,hA,hB,rfl⟩
  by_cases hlt:e<s.length
  ·have hlt':(e:Int)<(s.length:Int):=om
   obtain⟨c,hc⟩:=isSome_of_lt hlt
   by_cases hp:(c.toNat:Int)=46
   ·have hc46:s[e]?=some 46:=by
     rw[hc]; congr 1; exact UInt8.toNat_inj.1 (by simpa using (show c.toNat=46 by omega))
    by_cases hml:m<s.length
    ·have hml':(m:Int)<(s.length:Int):=om
     obtain⟨d,hd⟩:=isSome_of_lt hml
     simp only[sA,sB,seval,g0,g1,g5,g6,hlt',str_idx hc,hp,hml',str_idx hd]
     refine (rdigit_spec h54 d H).mono ?_
     rintro v _ ⟨rfl,rfl⟩
     cases hb:dig d with
     | true=>
      simp only[sA,sB,seval,g0,g1,g5,g6,wrap1 m om]
      exact⟨_,om,m+1,om,om,rfl,by trivial,by trivial,by trivial,rfl,fun h=>by rw[hA h,runF_go hd hb],fun h=>absurd hc46 h,by trivial⟩
     | false=>
      simp only[sA,sB,seval,g0,g1,g5,g6]
      exact⟨m,by rw[if_pos hc46,hA hc46,runF_no hd hb],by trivial,by trivial,by trivial,by trivial,by trivial⟩
    ·have hml':¬(m:Int)<(s.length:Int):=om
     simp only[sA,sB,seval,g0,g1,g5,g6,hlt',str_idx hc,hp,hml']
     exact⟨m,by rw[if_pos hc46,hA hc46,runF_end om],by trivial,by trivial,by trivial,by trivial,by trivial⟩
   ·have hc46:s[e]?≠some 46:=by
     rw[hc]; intro h; cases h; exact hp rfl
    simp only[sA,sB,seval,g0,g1,g5,g6,hlt',str_idx hc,hp]
    exact⟨m,by rw[if_neg hc46,hB hc46],by trivial,by trivial,by trivial,by trivial,by trivial⟩
  ·have hlt':¬(e:Int)<(s.length:Int):=om
   have hc46:s[e]?≠some 46:=by rw[List.getElem?_eq_none om]; simp
   simp only[sA,sB,seval,g0,g1,g5,g6,hlt']
   exact⟨m,by rw[if_neg hc46,hB hc46],by trivial,by trivial,by trivial,by trivial,by trivial⟩
 clear g0 g1 g5
 rintro T _ ⟨m,hm,g0,g1,g5,g6,rfl⟩
 have hm1:m≤s.length+1:=by
  rw[hm]; split
  ·rename_i h
   have:=(List.getElem?_eq_some_iff.1 h).1
   have:=runF_le (p:=dig) (s:=s) (i:=e+1) om
   omega
  ·omega
 by_cases hc46:s[e]?=some 46
 ·rw[if_pos hc46]at hm
  rw[if_neg (by rintro (h | h); exact he h; exact h hc46),← hm]
  by_cases hgt:e+1<m
  ·rw[if_pos hgt]
   have hgt2:(((e+1:Nat)):Int)<(m:Int):=om
   simp only[sA,sB,seval,g0,g1,g5,g6,wrap1 e om,hgt2]
   exact⟨by rw[wrap64 om om]; congr 1; omega,by trivial⟩
  ·rw[if_neg hgt]
   have hgt2:¬(((e+1:Nat)):Int)<(m:Int):=om
   simp only[sA,sB,seval,g0,g1,g5,g6,wrap1 e om,hgt2]
   exact⟨by rw[wrap64 om om]; congr 1; omega,by trivial⟩
 ·rw[if_neg hc46]at hm
  rw[if_pos (.inr hc46)]
  have hgt2:¬(((e+1:Nat)):Int)<(m:Int):=om
  simp only[sA,sB,seval,g0,g1,g5,g6,wrap1 e om,hgt2]
  exact⟨by rw[wrap64 om om]; congr 1; omega,by trivial⟩
open Go.Abs Go.Abs.S
def l64(l:List Nat):List AVal:=l.map fun n:Nat=>.int .i64 (n:Int)
theorem l64_len(l:List Nat):(l64 l).length=l.length:=by simp[l64]
theorem l64_get{l:List Nat}{i:Nat}{n:Nat}(h:l[i]?=some n):(l64 l)[i]?=some (.int .i64 (n:Int)):=by simp[l64,h]
theorem l64_set(l:List Nat)(i n:Nat):l64 (l.set i n)=(l64 l).set i (.int .i64 (n:Int)):=by simp[l64]
theorem App_store{n:Nat}{H:AHeap}{s:AVal}{l:List AVal}(h:App n H s l){i:Nat}(hi:i<l.length){x:AVal}(hx:x.one=true) :
  ∃H',oStore 1 H (cellP s i) x=some H'∧App n H' s (l.set i x)∧Ext n H H':=by
 rcases h with⟨_,rfl⟩ | ⟨b,low,rfl,h2,h3,h4,h5⟩
 ·simp at hi
 ·refine⟨H.set b (.cells (l.set i x) l.length false),?_,.inr ⟨b,l.length,by simp,h2,h3,by rw[AHeap.get_set,if_pos rfl],by simp⟩,(Ext.refl n H).set h2 _⟩
  simp only[cellP,Nat.mul_one,Nat.zero_add]
  exact wr_whole h4 h5 hi hx
theorem isNum_iff(s:Bs):isNum s=true↔numF s 0=s.length∧s.length≠0:=by
 cases s with
 | nil=>simp[isNum]
 | cons c r=>
  simp only[isNum,Bool.and_eq_true,decide_eq_true_eq]
  constructor
  ·rintro ⟨_,h⟩; exact⟨h,by simp⟩
  ·rintro ⟨h,_⟩
   refine⟨?_,h⟩
   cases hd:dig c with
   | true=>rfl
   | false=>
    have e:runF dig (c::r) 0=0:=runF_no (c:=c) rfl hd
    unfold numF at h
    rw[e,if_pos (.inl rfl)]at h
    simp at h
theorem whole_at{s:Bs}{i:Nat}{c:UInt8}(hi:i<(whole s).length)(hc:s[i]?=some c):(whole s)[i]?=some c∧npt c=true:=by
 have h:(whole s)[i]?=some c:=by
  rw[whole_eq,List.getElem?_take_of_lt hi,hc]
 refine⟨h,?_⟩
 have:=List.all_takeWhile (p:=npt) (l:=s)
 exact List.all_eq_true.1 this _ (List.mem_of_getElem? h)
theorem whole_end{s:Bs}{c:UInt8}(hc:s[(whole s).length]?=some c):c.toNat=46:=by
 rw[whole_run]at hc
 have:=runF_out hc
 simpa[npt] using this
theorem bits_lt{l:List Nat}(h:∀d∈l,d≤9){n:Nat}(hn:n<2147483648)(k:Nat):(bits l n k).1<2 ^ (31+k):=by
 have h1:=bits_val l n k
 have h2:=valN_lt h
 have h3:n*10 ^ l.length+valN l<2147483648*10 ^ l.length:=by
  have:n*10 ^ l.length+10 ^ l.length≤2147483648*10 ^ l.length:=by
   rw[← Nat.succ_mul]; exact Nat.mul_le_mul_right _ hn
  omega
 have hp:0<10 ^ l.length:=Nat.pos_of_ne_zero (by simp)
 have h4:(bits l n k).1*10 ^ l.length<2 ^ (31+k)*10 ^ l.length:=by
  calc (bits l n k).1*10 ^ l.length≤2 ^ k*(n*10 ^ l.length+valN l):=om
   _<2 ^ k*(2147483648*10 ^ l.length):=Nat.mul_lt_mul_of_pos_left h3 (Nat.pos_of_ne_zero (by simp))
   _=2 ^ (31+k)*10 ^ l.length:=by rw[← Nat.mul_assoc,Nat.pow_add,Nat.mul_comm (2 ^ k)]
 exact Nat.lt_of_mul_lt_mul_right h4
theorem rnumber_spec(h13:natT.is 157=false)(h36:natT.is 156=false)(h54:natT.is 159=false)
  {H:AHeap} {s:Bs} (hs:s.length≤1099511627776):ACalls Tryz.prog natT 157 [.str s] H fun v H'=>v=told (saysF s)∧Ext H.next H H':=by
 refine acalls_ofN h13 za157 rfl ?_
 simp only[c157,sA,sB,seval]
 refine (rnumeral_spec h36 h54 (Nat.zero_le _) om).mono ?_
 rintro v _ ⟨rfl,rfl⟩
 have hle:=numF_le (s:=s) (Nat.zero_le _)
 by_cases hn:numF s 0=s.length
 ·have hn':((numF s 0-0:Nat):Int)=(s.length:Int):=om
  by_cases h0:s.length=0
  ·have h0':(s.length:Int)=0:=om
   have e:saysF s=none:=by
    unfold saysF
    rw[if_neg (by rw[isNum_iff]; rintro ⟨⟨_,h⟩,_⟩; exact h h0)]
   rw[e]
   simp only[sA,sB,seval,hn',h0']
   exact⟨by trivial,Ext.refl _ _⟩
  have h0':¬(s.length:Int)=0:=om
  have hnum:isNum s=true:=(isNum_iff s).2 ⟨hn,h0⟩
  obtain⟨hw,hb⟩:=num_digs hnum
  simp only[sA,sB,seval,hn',h0']
  have hwl:=whole_le s
  have hbl:(behind s).length=s.length-((whole s).length+1):=by rw[behind_eq]; simp
  have hsay:saysF s=if valF (whole s)<2147483648 then some (valF (whole s)*2 ^ 32+frac (digs (behind s))) else none:=by simp[saysF,hnum]
  rw[hsay]
  refine aw_cut (fun (T:Env) H'=>T 0=.str s∧T 5=.int .i64 ((whole s).length:Int)∧T 4=.int .i64 (valF (whole s):Int)∧valF (whole s)<2147483648∧H=H') (calls_mono _ _) ?_ ?_
  ·refine aw_loop (fun q (T:Env) H'=>∃i:Nat,i≤(whole s).length∧q=(whole s).length-i∧T 0=.str s∧T 4=.int .i64 (valF ((whole s).take i):Int)∧valF ((whole s).take i)<2147483648∧T 5=.int .i64 (i:Int)∧H=H') (whole s).length
    ⟨0,Nat.zero_le _,rfl,rfl,rfl,by simp[valF],rfl,rfl⟩ ?_
   rintro q T _ ⟨i,hi,rfl,g0,g4,hv,g5,rfl⟩
   by_cases hlt:i<(whole s).length
   ·have hlt':(i:Int)<(s.length:Int):=om
    obtain⟨c,hc⟩:=isSome_of_lt (l:=s) (i:=i) om
    obtain⟨hcw,hnp⟩:=whole_at hlt hc
    have hdc:=hw c (List.mem_of_getElem? hcw)
    have hnp':¬(c.toNat:Int)=46:=by simp[npt]at hnp; omega
    have hdv:(c.toNat:Int)-48=((dv c:Nat):Int):=by simp[dig]at hdc; unfold dv; omega
    have hd9:dv c≤9:=by simp[dig]at hdc; unfold dv; omega
    have hw1:IntKind.u8.wrap ((dv c:Nat):Int)=((dv c:Nat):Int):=wrapU8 om om
    have hw2:IntKind.i64.wrap ((dv c:Nat):Int)=((dv c:Nat):Int):=wrap64 om om
    have hw3:IntKind.i64.wrap ((valF ((whole s).take i):Int)*10)=((valF ((whole s).take i)*10:Nat):Int):=by rw[wrap64 om om]; omega
    have hw4:IntKind.i64.wrap (((valF ((whole s).take i)*10:Nat):Int)+((dv c:Nat):Int))=((valF ((whole s).take (i+1)):Nat):Int):=by
     rw[wrap64 om om,List.take_add_one,hcw,Option.toList_some,val_snoc]; omega
    simp only[sA,sB,seval,g0,g4,g5,hlt',str_idx hc,hnp',hdv,hw1,hw2,hw3,hw4]
    by_cases hbig:valF ((whole s).take (i+1))<2147483648
    ·have hbig':¬(2147483648:Int)≤((valF ((whole s).take (i+1)):Nat):Int):=om
     simp only[sA,sB,seval,g0,g4,g5,hbig',wrap1 i om]
     exact⟨_,om,i+1,om,rfl,by trivial,rfl,hbig,rfl,by trivial⟩
    ·have hbig':(2147483648:Int)≤((valF ((whole s).take (i+1)):Nat):Int):=om
     have:=val_take_le (whole s) (i+1)
     simp only[sA,sB,seval,g0,g4,g5,hbig']
     exact⟨by rw[if_neg om]; rfl,Ext.refl _ _⟩
   ·obtain rfl:i=(whole s).length:=om
    rw[List.take_length]at g4 hv
    by_cases hlt2:(whole s).length<s.length
    ·have hlt':((whole s).length:Int)<(s.length:Int):=om
     obtain⟨c,hc⟩:=isSome_of_lt hlt2
     have h46:(c.toNat:Int)=46:=by have:=whole_end hc; omega
     simp only[sA,sB,seval,g0,g4,g5,hlt',str_idx hc,h46]
     exact⟨by trivial,by trivial,by trivial,hv,by trivial⟩
    ·have hlt':¬((whole s).length:Int)<(s.length:Int):=om
     simp only[sA,sB,seval,g0,g4,g5,hlt']
     exact⟨by trivial,by trivial,by trivial,hv,by trivial⟩
  rintro T _ ⟨g0,g5,g4,hv,rfl⟩
  rw[if_pos hv]
  have hget:∀m,(behind s)[m]?=s[(whole s).length+1+m]?:=fun m=>by rw[behind_eq,List.getElem?_drop]
  generalize valF (whole s)=w at *
  generalize (whole s).length=e at *
  generalize behind s=t at *
  simp only[sA,sB,seval,g0,g4,g5,wrap1 e om]
  refine aw_cut (fun (T:Env) H'=>T 4=.int .i64 (w:Int)∧App H.next H' (T 6) (l64 (digs t))∧Ext H.next H H') (calls_mono _ _) ?_ ?_
  ·refine aw_loop (fun q (T:Env) H'=>∃m:Nat,m≤t.length∧q=t.length-m∧T 0=.str s∧T 4=.int .i64 (w:Int)∧T 7=.int .i64 ((e+1+m:Nat):Int)∧App H.next H' (T 6) (l64 (digs (t.take m)))∧Ext H.next H H') t.length
    ⟨0,Nat.zero_le _,rfl,by simp only[sA,sB,seval,g0],by simp only[sA,sB,seval,g4],by simp only[sA,sB,seval]; try rfl,by simp only[sA,sB,seval]; exact App.nil _ _,Ext.refl _ _⟩ ?_
   clear g0 g4 g5
   rintro q T H1 ⟨m,hm,rfl,g0,g4,g7,hA,hE⟩
   by_cases hlt:m<t.length
   ·have hlt':((e+1+m:Nat):Int)<(s.length:Int):=om
    obtain⟨c,hc⟩:=isSome_of_lt hlt
    have hcs:=(hget m).symm.trans hc
    have hdc:=hb c (List.mem_of_getElem? hc)
    have hdv:(c.toNat:Int)-48=((dv c:Nat):Int):=by simp[dig]at hdc; unfold dv; omega
    have hd9:dv c≤9:=by simp[dig]at hdc; unfold dv; omega
    have hw1:IntKind.u8.wrap ((dv c:Nat):Int)=((dv c:Nat):Int):=wrapU8 om om
    have hw2:IntKind.i64.wrap ((dv c:Nat):Int)=((dv c:Nat):Int):=wrap64 om om
    obtain⟨s',H2,e1,e2,e3⟩:=hA.push (bytes:=8) (by have:=hE.next; omega) (x:=.int .i64 ((dv c:Nat):Int)) rfl (by simp[l64,digs]; omega) om
    simp only[sA,sB,seval,g0,g4,g7,hlt',str_idx hcs,hdv,hw1,hw2,build1 _ _ (x:=.int .i64 ((dv c:Nat):Int)) rfl,e1,wrap1 (e+1+m) om]
    refine⟨_,om,m+1,om,rfl,by trivial,by trivial,rfl,?_,hE.trans e3⟩
    rw[List.take_add_one,hc]
    simpa[digs,l64] using e2
   ·obtain rfl:m=t.length:=om
    have hlt':¬((e+1+t.length:Nat):Int)<(s.length:Int):=om
    rw[List.take_length]at hA
    simp only[sA,sB,seval,g0,g4,g7,hlt']
    exact⟨by trivial,hA,hE⟩
  clear g0 g4 g5
  rintro T H1 ⟨g4,hA,hE⟩
  have hd9:=digs_le hb
  have htl:(digs t).length≤1099511627776:=by simp[digs]; omega
  generalize digs t=l at *
  simp only[sA,sB,seval,g4]
  refine aw_loop (fun q (T:Env) H'=>∃k:Nat,k≤32∧q=32-k∧T 8=.int .i64 ((bits l w k).1:Int)∧T 9=.int .i64 (k:Int)∧App H.next H' (T 6) (l64 (bits l w k).2)∧Ext H.next H H') 32
   ⟨0,Nat.zero_le _,rfl,by simp only[sA,sB,seval]; try rfl,by simp only[sA,sB,seval]; try rfl,by simp only[sA,sB,seval]; exact hA,hE⟩ ?_
  clear g4 hA hE T H1
  rintro q T H1 ⟨k,hk,rfl,g8,g9,hA,hE⟩
  by_cases hlt:k<32
  ·have hlt':(k:Int)<32:=om
   have hb9:=bits_dig hd9 w k
   have hbl:=bits_len l w k
   have hbv:=bits_lt hd9 hv k
   have hbv1:=bits_lt hd9 hv (k+1)
   have hpk:(2:Nat) ^ (31+(k+1))≤2 ^ 63:=Nat.pow_le_pow_right om om
   have hbits:bits l w (k+1)=(2*(bits l w k).1+(dbl (bits l w k).2).1,(dbl (bits l w k).2).2):=rfl
   rw[hbits]at hbv1
   simp only[sA,sB,seval,g8,g9,hlt',hA.cel.len,l64_len,hbl]
   generalize hm:(bits l w k).2=m at *
   generalize hout:(bits l w k).1=out at *
   have hov:=dbl_over hb9
   have hw0:IntKind.i64.wrap ((l.length:Int)-1)=(l.length:Int)-1:=wrap64 om om
   generalize hsl:T 6=sl at *
   refine aw_cut (fun (T:Env) H'=>T 8=.int .i64 (out:Int)∧T 9=.int .i64 (k:Int)∧T 10=.int .i64 ((dbl m).1:Int)∧App H.next H' (T 6) (l64 (dbl m).2)∧Ext H.next H H') (calls_mono _ _) ?_ ?_
   ·refine aw_loop (fun q (T:Env) H'=>∃j:Nat,j≤m.length∧j=q∧T 6=sl∧T 8=.int .i64 (out:Int)∧T 9=.int .i64 (k:Int)∧T 10=.int .i64 ((dbl (m.drop j)).1:Int)∧T 11=.int .i64 ((j:Int)-1)∧App H.next H' sl (l64 (half m j))∧Ext H.next H H') m.length
     ⟨m.length,om,rfl,by simp only[sA,sB,seval,hsl],by simp only[sA,sB,seval,g8],by simp only[sA,sB,seval,g9],by simp only[sA,sB,seval]; rw[List.drop_eq_nil_of_le om]; rfl,by simp only[sA,sB,seval,hw0,hbl],by rw[half_all]; exact hA,hE⟩ ?_
    clear g8 g9 hA hE hsl T H1
    rintro q T H1 ⟨j,hj,rfl,g6,g8,g9,g10,g11,hA,hE⟩
    cases j with
    | zero=>
     have c0:¬(0:Int)≤((0:Nat):Int)-1:=om
     rw[List.drop_zero]at g10
     rw[half_zero]at hA
     simp only[sA,sB,seval,g6,g8,g9,g10,g11,c0]
     exact⟨by trivial,by trivial,by trivial,hA,hE⟩
    | succ j=>
     have c0:(0:Int)≤((j+1:Nat):Int)-1:=om
     have ej:((j+1:Nat):Int)-1=(j:Int):=om
     rw[ej]at g11 c0
     obtain⟨d,hdd⟩:=isSome_of_lt (l:=m) (i:=j) om
     have hdn:=hb9 d (List.mem_of_getElem? hdd)
     have ho:=dbl_over (l:=m.drop (j+1)) fun x hx=>hb9 x (List.mem_of_mem_drop hx)
     have hset:=half_set hdd
     have hdr:dbl (m.drop j)=((d*2+(dbl (m.drop (j+1))).1) / 10,(d*2+(dbl (m.drop (j+1))).1) % 10::(dbl (m.drop (j+1))).2):=by rw[drop_at hdd]; rfl
     generalize (dbl (m.drop (j+1))).1=o at *
     have hjl:j<(l64 (half m (j+1))).length:=by rw[l64_len,half_len]; omega
     have ia:=hA.cel.idx .i64 hjl
     have l1:=hA.cel.load (l64_get (half_get hdd))
     have w1:IntKind.i64.wrap ((d:Int)*2)=((d*2:Nat):Int):=by rw[wrap64 om om]; omega
     have w2:IntKind.i64.wrap (((d*2:Nat):Int)+(o:Int))=((d*2+o:Nat):Int):=by rw[wrap64 om om]; omega
     have e3:aBin .rem (.int .i64 ((d*2+o:Nat):Int)) (.int .i64 10)=some (.int .i64 (((d*2+o) % 10:Nat):Int)):=by
      rw[bin_rem _ _ _ om]; rfl
     have e4:aBin .quo (.int .i64 ((d*2+o:Nat):Int)) (.int .i64 10)=some (.int .i64 (((d*2+o) / 10:Nat):Int)):=by
      rw[bin_quo _ _ _ om]
      have:((d*2+o:Nat):Int).tdiv 10=(((d*2+o) / 10:Nat):Int):=rfl
      rw[this,wrap64 om om]
     obtain⟨H2,m2,r2,n2⟩:=App_store hA hjl (x:=.int .i64 (((d*2+o) % 10:Nat):Int)) rfl
     have hwj:IntKind.i64.wrap ((j:Int)-1)=(j:Int)-1:=wrap64 om om
     simp only[sA,sB,seval,g6,g8,g9,g10,g11,c0,ia,l1,w1,w2,e3,e4,m2,hwj]
     refine⟨_,Nat.lt_succ_self j,j,om,rfl,by trivial,by trivial,by trivial,by rw[hdr],by trivial,?_,hE.trans n2⟩
     rw[← hset,l64_set]
     exact r2
   clear g8 g9 hA hE hsl T H1
   rintro T H1 ⟨g8,g9,g10,hA,hE⟩
   have w1:IntKind.i64.wrap ((out:Int)*2)=((2*out:Nat):Int):=by rw[wrap64 om om]; omega
   have w2:IntKind.i64.wrap (((2*out:Nat):Int)+((dbl m).1:Int))=((2*out+(dbl m).1:Nat):Int):=by rw[wrap64 om om]; omega
   simp only[sA,sB,seval,g8,g9,g10,w1,w2,wrap1 k om]
   exact⟨_,om,k+1,om,rfl,by rw[hbits],rfl,by rw[hbits]; exact hA,hE⟩
  obtain rfl:k=32:=om
  have hlast:=bits_frac hd9 w
  rw[hlast]at g8
  simp only[sA,sB,seval,g8,g9,Int.cast_ofNat_Int,Int.lt_irrefl]
  exact⟨by rw[Nat.mul_comm]; rfl,hE⟩
 ·have hn':¬((numF s 0-0:Nat):Int)=(s.length:Int):=om
  have e:saysF s=none:=by
   unfold saysF
   rw[if_neg (by rw[isNum_iff]; rintro ⟨⟨h,_⟩,_⟩; exact hn h)]
  rw[e]
  simp only[sA,sB,seval,hn']
  exact⟨by trivial,Ext.refl _ _⟩
open Go.Abs Go.Abs.S
def revD(n:Nat):List Nat:=if h:n<10 then [n] else n % 10::revD (n / 10)
termination_by n
decreasing_by omega
def decD(n:Nat):List Nat:=(revD n).reverse
theorem revD_lt{n:Nat}(h:n<10):revD n=[n]:=by rw[revD,dif_pos h]
theorem revD_ge{n:Nat}(h:¬n<10):revD n=n % 10::revD (n / 10):=by rw[revD,dif_neg h]
theorem decD_lt{n:Nat}(h:n<10):decD n=[n]:=by rw[decD,revD_lt h]; rfl
theorem decD_ge{n:Nat}(h:¬n<10):decD n=decD (n / 10)++[n % 10]:=by rw[decD,revD_ge h]; simp[decD]
def fracD:Nat→Nat→List Nat
 | 0,_=>[]
 | k+1,r=>if r=0 then [] else r*10 / 4294967296::fracD k (r*10 % 4294967296)
def asc(l:List Nat):Bs:=l.map fun d=>UInt8.ofNat (48+d)
theorem asc_len(l:List Nat):(asc l).length=l.length:=by simp[asc]
def tailF(r:Nat):Bs:=if r=0 then [] else 46::asc (fracD 32 r)
def numeralF(n:Int):Bs:=(if n<0 then [45] else [])++(asc (decD (n.natAbs / 4294967296))++tailF (n.natAbs % 4294967296))
theorem decD_len(k:Nat):∀n,n<10 ^ (k+1)→(decD n).length≤k+1:=by
 induction k with
 | zero=>intro n h; rw[decD_lt (by simpa using h)]; simp
 | succ k ih=>
  intro n h
  by_cases hn:n<10
  ·rw[decD_lt hn]; simp
  ·rw[decD_ge hn]
   have:=ih (n / 10) (by rw[Nat.pow_succ]at h; omega)
   simp; omega
open Go.Abs Go.Abs.S
theorem wrapU64{a:Int}(h1:0≤a)(h2:a<18446744073709551616):IntKind.u64.wrap a=a:=by
 rw[IntKind.wrap_u64]; omega
theorem un_neg(k:IntKind)(n:Int):aUn .neg (.int k n)=some (.int k (k.wrap (0-n))):=by
 simp only[aUn,wrF_eq]
theorem frac_step{k r:Nat}(hk:k≤32)(hr:r<4294967296)(hd:2 ^ (32-k) ∣ r)(h0:r≠0):∃k',k=k'+1∧fracD k r=r*10 / 4294967296::fracD k' (r*10 % 4294967296)∧2 ^ (32-k') ∣ r*10 % 4294967296:=by
 cases k with
 | zero=>
  exfalso
  obtain⟨c,hc⟩:=hd
  simp only[Nat.sub_zero]at hc
  have:c≠0:=by rintro rfl; simp at hc; exact h0 hc
  have:2 ^ 32*1≤2 ^ 32*c:=Nat.mul_le_mul_left _ om
  omega
 | succ k=>
  refine⟨k,rfl,by rw[fracD,if_neg h0],?_⟩
  have e:32-k=(32-(k+1))+1:=om
  have h1:2 ^ (32-k) ∣ r*10:=by
   obtain⟨c,hc⟩:=hd
   refine⟨c*5,?_⟩
   rw[e,Nat.pow_succ]
   generalize 2 ^ (32-(k+1))=p at *
   subst hc
   rw[Nat.mul_assoc p 2,Nat.mul_assoc p c 10]
   congr 1
   omega
  have h2:2 ^ (32-k) ∣ 4294967296:=by
   have:=Nat.pow_dvd_pow 2 (show 32-k≤32 by omega)
   exact this
  exact (Nat.dvd_mod_iff h2).2 h1
theorem asc_ne(n:Nat):asc (decD n)≠[]:=by
 by_cases h:n<10
 ·rw[decD_lt h]; simp[asc]
 ·rw[decD_ge h]; simp[asc]
open Go.Abs Go.Abs.S
def keyF(s:Bs):Bool:=decide (s=[108,101,116])||(decide (s=[115,101,116])||(decide (s=[105,102])||(decide (s=[101,108,115,101])||(decide (s=[119,104,105,108,101])||decide (s=[114,101,116,117,114,110])))))
theorem key_spec(hN:natT.is 110=false)(s:Bs){H:AHeap}:ACalls Tryz.prog natT 110 [.str s] H fun v H'=>v=.bool (keyF s)∧H=H':=by
 refine acalls_ofN hN za110 rfl ?_
 unfold keyF
 by_cases h1:s=[108,101,116]
 ·subst h1; simp only[c110,sA,sB,seval]; exact⟨by simp,by trivial⟩
 by_cases h2:s=[115,101,116]
 ·subst h2; simp only[c110,sA,sB,seval,h1]; exact⟨by simp,by trivial⟩
 by_cases h3:s=[105,102]
 ·subst h3; simp only[c110,sA,sB,seval,h1,h2]; exact⟨by simp,by trivial⟩
 by_cases h4:s=[101,108,115,101]
 ·subst h4; simp only[c110,sA,sB,seval,h1,h2,h3]; exact⟨by simp,by trivial⟩
 by_cases h5:s=[119,104,105,108,101]
 ·subst h5; simp only[c110,sA,sB,seval,h1,h2,h3,h4]; exact⟨by simp,by trivial⟩
 by_cases h6:s=[114,101,116,117,114,110]
 ·subst h6; simp only[c110,sA,sB,seval,h1,h2,h3,h4,h5]; exact⟨by simp,by trivial⟩
 simp only[c110,sA,sB,seval,h1,h2,h3,h4,h5,h6]
 exact⟨by simp,by trivial⟩
def pre(s t:Bs):Bool:=decide (s.take t.length=t)
theorem pre_spec(h51:natT.is 154=false)(h75:natT.is 183=false)(s t:Bs){H:AHeap}:ACalls Tryz.prog natT 154 [.str s,.str t] H fun v H'=>v=.bool (pre s t)∧H=H':=by
 refine acalls_ofN h51 za154 rfl ?_
 simp only[c154,sA,sB,seval]
 have key:ACalls Tryz.prog natT 183 [.str s,.str t] H fun v H'=>v=.bool (pre s t)∧H=H':=by
  refine acalls_ofN h75 za183 rfl ?_
  by_cases h:t.length≤s.length
  ·have h':(t.length:Int)≤(s.length:Int):=om
   simp only[c183,sA,sB,seval,h',str_slH h]
   exact⟨by trivial,by trivial⟩
  ·have h':¬(t.length:Int)≤(s.length:Int):=om
   have e:pre s t=false:=by
    unfold pre
    rw[decide_eq_false]
    intro he
    have:=congrArg List.length he
    simp at this; omega
   simp only[c183,sA,sB,seval,h',e]
   exact⟨by trivial,by trivial⟩
 refine key.mono ?_
 rintro v _ ⟨rfl,rfl⟩
 simp only[sA,sB,seval]
 exact⟨by trivial,by trivial⟩
theorem cbF_count(s:Bs)(n:Nat):cbF 10 s n=n+s.count 10:=by
 induction s generalizing n with
 | nil=>simp[cbF]
 | cons c r ih=>
  rw[cbF]
  by_cases h:c=10
  ·subst h
   have e:Nat.beq (UInt8.toNat 10) 10=true:=rfl
   rw[e,cond_true,ih]; simp; omega
  ·have e:Nat.beq c.toNat 10=false:=by
    cases hb:Nat.beq c.toNat 10 with
    | false=>rfl
    | true=>exact absurd (UInt8.toNat_inj.1 (Nat.eq_of_beq_eq_true hb)) h
   rw[e,cond_false,ih,List.count_cons_of_ne (by exact h)]
theorem count_spec(hN:natT.is 102=false)(s:Bs){H:AHeap}:ACalls Tryz.prog natT 102 [.str s,.str [10]] H fun v H'=>v=.int .i64 (s.count 10:Int)∧H=H':=by
 refine acalls_ofN hN za102 rfl ?_
 have hl1:((List.length [(10:UInt8)]:Nat):Int)=1:=rfl
 have i0:aIdxS (.str [10]) (.int .i64 0)=some (.int .u8 10):=rfl
 have e:aPf .cbs [.str s,.int .u8 10]=some (.int .i64 (s.count 10:Int)):=by
  have:aPf .cbs [.str s,.int .u8 10]=some (.int .i64 (cbF 10 s 0:Int)):=rfl
  rw[this,cbF_count,Nat.zero_add]
 simp only[c102,sA,sB,seval,hl1,i0,e]
 exact⟨by trivial,by trivial⟩
theorem line_spec(hN:natT.is 113=false){s:Bs}{i:Nat}(hi:i≤s.length)(hs:s.length≤4611686018427387904){H:AHeap}:ACalls Tryz.prog natT 113 [.str s,.int .i64 (i:Int)] H fun v H'=>v=.int .i64 (lineF s i:Int)∧H=H':=by
 refine acalls_ofN hN za113 rfl ?_
 simp only[c113,sA,sB,seval]
 refine aw_loop (fun q (T:Env) H'=>∃j:Nat,j≤i∧q=i-j∧T 0=.str s∧T 1=.int .i64 (i:Int)∧T 5=.int .i64 (lineF s j:Int)∧lineF s j≤j+1∧T 6=.int .i64 (j:Int)∧H=H') i ⟨0,Nat.zero_le _,rfl,rfl,rfl,rfl,by simp[lineF],rfl,rfl⟩ ?_
 rintro q T _ ⟨j,hj,rfl,g0,g1,g5,hle,g6,rfl⟩
 by_cases hlt:j<i
 ·have hlt':(j:Int)<(i:Int):=om
  obtain⟨c,hc⟩:=isSome_of_lt (l:=s) (i:=j) om
  have hst:=line_succ hc
  by_cases h10:(c.toNat:Int)=10
  ·rw[if_pos om]at hst
   simp only[sA,sB,seval,g0,g1,g5,g6,hlt',str_idx hc,h10,wrap1 (lineF s j) om,wrap1 j om]
   exact⟨_,om,j+1,om,rfl,by trivial,by trivial,by rw[hst],om,rfl,by trivial⟩
  ·rw[if_neg om]at hst
   simp only[sA,sB,seval,g0,g1,g5,g6,hlt',str_idx hc,h10,wrap1 j om]
   exact⟨_,om,j+1,om,rfl,by trivial,by trivial,by rw[hst]; rfl,om,rfl,by trivial⟩
 ·obtain rfl:j=i:=om
  simp only[sA,sB,seval,g0,g1,g5,g6,Int.lt_irrefl]
  exact⟨by trivial,by trivial⟩
theorem letter_spec(hN:natT.is 158=false):Says natT 158 beg:=by
 intro c H
 refine acalls_ofN hN za158 rfl ?_
 have e:beg c=(((decide ((97:Int)≤c.toNat)&&decide ((c.toNat:Int)≤122))||(decide ((65:Int)≤c.toNat)&&decide ((c.toNat:Int)≤90)))||decide ((c.toNat:Int)=95)):=by
  rw[Bool.eq_iff_iff]; simp[beg]; omega
 rw[e]
 by_cases h1:(97:Int)≤(c.toNat:Int) <;> by_cases h2:(c.toNat:Int)≤122 <;> by_cases h3:(65:Int)≤(c.toNat:Int) <;> by_cases h4:(c.toNat:Int)≤90 <;> by_cases h5:(c.toNat:Int)=95
 all_goals first
  | (exfalso; omega)
  | (simp only [c158, sA, sB, seval, h1, h2, h3, h4, h5]
     exact ⟨by simp, by trivial⟩)
open Go.Abs Go.Abs.S
theorem ibF_has(c:UInt8)(s:Bs)(n:Nat):(0≤ibF c s n)↔c∈s:=by
 induction s generalizing n with
 | nil=>simp[ibF]
 | cons b r ih=>
  rw[ibF]
  by_cases h:b=c
  ·subst h
   have e:Nat.beq b.toNat b.toNat=true:=Nat.beq_refl _
   rw[e,cond_true]; simp
  ·have e:Nat.beq b.toNat c.toNat=false:=by
    cases hb:Nat.beq b.toNat c.toNat with
    | false=>rfl
    | true=>exact absurd (UInt8.toNat_inj.1 (Nat.eq_of_beq_eq_true hb)) h
   rw[e,cond_false,ih]
   rw[List.mem_cons]
   constructor
   ·exact .inr
   ·rintro (h' | h')
    ·exact absurd h'.symm h
    ·exact h'
theorem ixb_spec(h52:natT.is 155=false)(h76:natT.is 184=false)(s:Bs)(c:UInt8){H:AHeap}:ACalls Tryz.prog natT 155 [.str s,by8 c] H fun v H'=>v=.int .i64 (ibF c s 0)∧H=H':=by
 refine acalls_ofN h52 za155 rfl ?_
 simp only[c155,sA,sB,seval]
 have key:ACalls Tryz.prog natT 184 [.str s,by8 c] H fun v H'=>v=.int .i64 (ibF c s 0)∧H=H':=by
  refine acalls_ofN h76 za184 rfl ?_
  have e:aPf .ibs [.str s,by8 c]=some (.int .i64 (ibF c s 0)):=by
   have:aPf .ibs [.str s,by8 c]=some (.int .i64 (ibF c.toNat.toUInt8 s 0)):=rfl
   rw[this]
   congr 3
   exact UInt8.ofNat_toNat
  simp only[c184,sA,sB,seval,e]
  exact⟨by trivial,by trivial⟩
 refine key.mono ?_
 rintro v _ ⟨rfl,rfl⟩
 simp only[sA,sB,seval]
 exact⟨by trivial,by trivial⟩
def twos:List Bs:=[[38,38],[124,124],[61,61],[33,61],[60,61],[62,61]]
def ones:Bs:=[60,62,43,45,42,47,33,40,41,123,125,44,59,61]
def signF(s:Bs):Bs:=match twos.find? (pre s) with
 | some t=>t
 | none=>match s with
  | []=>[]
  | c::_=>if c∈ones then [c] else []
theorem sign_spec(h29:natT.is 111=false)(h51:natT.is 154=false)(h75:natT.is 183=false)(h52:natT.is 155=false)(h76:natT.is 184=false){s:Bs}{i:Nat}(hi:i<s.length){H:AHeap} :
  ACalls Tryz.prog natT 111 [.str s,.int .i64 (i:Int)] H fun v H'=>v=.str (signF (s.drop i))∧H=H':=by
 refine acalls_ofN h29 za111 rfl ?_
 have e0:=str_slL (s:=s) (l:=i) om
 have b0:aBuild [.str [],.str [],.str [],.str [],.str [],.str []] [(0,1,.str [38,38]),(1,1,.str [124,124]),(2,1,.str [61,61]),(3,1,.str [33,61]),(4,1,.str [60,61]),(5,1,.str [62,61])]=some (.agg (twos.map .str)):=rfl
 obtain⟨c,hc⟩:=isSome_of_lt (l:=s) (i:=i) hi
 have hdr:=drop_some hc
 simp only[c111,sA,sB,seval,e0,b0]
 rw[hdr]
 generalize s.drop (i+1)=r at *
 refine aw_loop (fun q (T:Env) H'=>∃k:Nat,k≤6∧q=6-k∧T 5=.str (c::r)∧T 11=.agg (twos.map .str)∧T 12=.int .i64 (k:Int)∧(twos.take k).find? (pre (c::r))=none∧H=H') 6 ⟨0,Nat.zero_le _,rfl,by simp only[sA,sB,seval],by simp only[sA,sB,seval],by simp only[sA,sB,seval]; try rfl,rfl,rfl⟩ ?_
 rintro q T _ ⟨k,hk,rfl,g5,g11,g12,hA,rfl⟩
 by_cases hlt:k<6
 ·have hlt':(k:Int)<6:=om
  obtain⟨t,ht⟩:=isSome_of_lt (l:=twos) (i:=k) hlt
  have ix:aIdx 6 1 false (.agg (twos.map .str)) (.int .i64 (k:Int))=some (.str t):=by
   have hk6:k=0∨k=1∨k=2∨k=3∨k=4∨k=5:=om
   rcases hk6 with rfl | rfl | rfl | rfl | rfl | rfl <;> (simp only[twos,List.getElem?_cons_zero,List.getElem?_cons_succ,sJ]at ht; subst ht; rfl)
  simp only[sA,sB,seval,g5,g11,g12,hlt',ix]
  refine (pre_spec h51 h75 (c::r) t).mono ?_
  rintro v _ ⟨rfl,rfl⟩
  cases hp:pre (c::r) t with
  | true=>
   have hf:twos.find? (pre (c::r))=some t:=by
    have h1:(twos.take (k+1)).find? (pre (c::r))=some t:=by
     rw[List.take_add_one,ht,List.find?_append,hA]
     simp[hp]
    have h2:twos=twos.take (k+1)++twos.drop (k+1):=(List.take_append_drop _ _).symm
    rw[h2,List.find?_append,h1]; rfl
   simp only[sA,sB,seval,g5,g11,g12]
   exact⟨by rw[signF,hf],by trivial⟩
  | false=>
   simp only[sA,sB,seval,g5,g11,g12,wrap1 k om]
   refine⟨_,om,k+1,om,rfl,by trivial,by trivial,rfl,?_,by trivial⟩
   rw[List.take_add_one,ht,List.find?_append,hA]
   simp[hp]
 ·obtain rfl:k=6:=om
  have hf:twos.find? (pre (c::r))=none:=hA
  have i0:aIdxS (.str (c::r)) (.int .i64 0)=some (by8 c):=str_idx (s:=c::r) (i:=0) rfl .i64
  have e1:aSlStr (.str (c::r)) none (some (.int .i64 1))=some (.str [c]):=str_slH (s:=c::r) (h:=1) (by simp)
  simp only[sA,sB,seval,g5,g11,g12,Int.cast_ofNat_Int,Int.lt_irrefl,i0]
  refine (ixb_spec h52 h76 ones c).mono ?_
  rintro v _ ⟨rfl,rfl⟩
  by_cases hm:c∈ones
  ·have h0:=(ibF_has c ones 0).2 hm
   simp only[sA,sB,seval,g5,g11,g12,h0,e1]
   exact⟨by rw[signF,hf]; simp[hm],by trivial⟩
  ·have h0:¬0≤ibF c ones 0:=fun h=>hm ((ibF_has c ones 0).1 h)
   simp only[sA,sB,seval,g5,g11,g12,h0]
   exact⟨by rw[signF,hf]; simp[hm],by trivial⟩
open Go.Abs Go.Abs.S
theorem passed_spec(h30:natT.is 112=false){s:Bs}{i:Nat}(hi:i≤s.length)(hs:s.length≤4611686018427387904){H:AHeap} :
  ACalls Tryz.prog natT 112 [.str s,.int .i64 (i:Int)] H fun v H'=>v=.int .i64 (skipF s i:Int)∧H=H':=by
 refine acalls_ofN h30 za112 rfl ?_
 simp only[c112,sA,sB,seval]
 refine aw_loop (fun q (T:Env) H'=>∃j:Nat,j≤s.length∧q=s.length-j∧T 0=.str s∧T 1=.int .i64 (j:Int)∧skipF s i=skipF s j∧H=H') (s.length-i) ⟨i,hi,rfl,rfl,rfl,rfl,rfl⟩ ?_
 rintro q T _ ⟨j,hj,rfl,g0,g1,hA,rfl⟩
 by_cases hlt:j<s.length
 ·have hlt':(j:Int)<(s.length:Int):=om
  obtain⟨c,hc⟩:=isSome_of_lt hlt
  by_cases h35:(c.toNat:Int)=35
  ·simp only[sA,sB,seval,g0,g1,hlt',str_idx hc,h35]
   have hn:nln c=true:=by simp[nln]; omega
   have hgt:j<runF nln s j:=by rw[runF_go hc hn]; have:=runF_ge nln s (j+1); omega
   have hle:=runF_le (p:=nln) hj
   have hsk:=skip_remark hc om
   refine aw_cut (fun (T:Env) H'=>T 0=.str s∧T 1=.int .i64 (runF nln s j:Int)∧H=H') (calls_mono _ _) ?_ ?_
   ·refine aw_loop (fun q (T:Env) H'=>∃m:Nat,m≤s.length∧q=s.length-m∧T 0=.str s∧T 1=.int .i64 (m:Int)∧runF nln s j=runF nln s m∧H=H') (s.length-j) ⟨j,hj,rfl,by simp only[sA,sB,seval,g0],by simp only[sA,sB,seval,g1],rfl,rfl⟩ ?_
    clear g0 g1
    rintro q T _ ⟨m,hm,rfl,g0,g1,hB,rfl⟩
    by_cases hml:m<s.length
    ·have hml':(m:Int)<(s.length:Int):=om
     obtain⟨d,hd⟩:=isSome_of_lt hml
     by_cases h10:(d.toNat:Int)=10
     ·have hnd:nln d=false:=by simp[nln]; omega
      simp only[sA,sB,seval,g0,g1,hml',str_idx hd,h10]
      exact⟨by trivial,by rw[hB,runF_no hd hnd],by trivial⟩
     ·have hnd:nln d=true:=by simp[nln]; omega
      simp only[sA,sB,seval,g0,g1,hml',str_idx hd,h10,wrap1 m om]
      exact⟨_,om,m+1,om,rfl,by trivial,rfl,by rw[hB,runF_go hd hnd],by trivial⟩
    ·have hml':¬(m:Int)<(s.length:Int):=om
     simp only[sA,sB,seval,g0,g1,hml']
     exact⟨by trivial,by rw[hB,runF_end om],by trivial⟩
   clear g0 g1
   rintro T _ ⟨g0,g1,rfl⟩
   simp only[sA,sB,seval,g0,g1]
   exact⟨_,om,runF nln s j,hle,rfl,by trivial,by trivial,by rw[hA,hsk],by trivial⟩
  ·have e:blk c=(((decide ((c.toNat:Int)=9)||decide ((c.toNat:Int)=10))||decide ((c.toNat:Int)=13))||decide ((c.toNat:Int)=32)):=by
    rw[Bool.eq_iff_iff]; simp[blk]; omega
   have fwd:blk c=true→skipF s i=skipF s (j+1):=fun h=>by rw[hA,skip_blank hc h]
   have stp:blk c=false→skipF s i=j:=fun h=>by rw[hA,skip_stop hc h om]
   rw[e]at fwd stp
   by_cases h1:(c.toNat:Int)=9
   ·simp only[sA,sB,seval,g0,g1,hlt',str_idx hc,h1,wrap1 j om]
    exact⟨_,om,j+1,om,rfl,by trivial,rfl,fwd (by simp[h1]),by trivial⟩
   by_cases h2:(c.toNat:Int)=10
   ·simp only[sA,sB,seval,g0,g1,hlt',str_idx hc,h1,h2,wrap1 j om]
    exact⟨_,om,j+1,om,rfl,by trivial,rfl,fwd (by simp[h2]),by trivial⟩
   by_cases h3:(c.toNat:Int)=13
   ·simp only[sA,sB,seval,g0,g1,hlt',str_idx hc,h1,h2,h3,wrap1 j om]
    exact⟨_,om,j+1,om,rfl,by trivial,rfl,fwd (by simp[h3]),by trivial⟩
   by_cases h4:(c.toNat:Int)=32
   ·simp only[sA,sB,seval,g0,g1,hlt',str_idx hc,h1,h2,h3,h4,wrap1 j om]
    exact⟨_,om,j+1,om,rfl,by trivial,rfl,fwd (by simp[h4]),by trivial⟩
   simp only[sA,sB,seval,g0,g1,hlt',str_idx hc,h35,h1,h2,h3,h4]
   exact⟨by rw[stp (by simp[h1,h2,h3,h4])],by trivial⟩
 ·have hlt':¬(j:Int)<(s.length:Int):=om
  simp only[sA,sB,seval,g0,g1,hlt']
  exact⟨by rw[hA,skip_end om],by trivial⟩
theorem in_spec(h55:natT.is 160=false){n:Nat}{H:AHeap}{t:AVal}{l:List Bs}(h:Cel n H t (l.map .str))(hl:l.length≤4611686018427387904)(s:Bs) :
  ACalls Tryz.prog natT 160 [.str s,t] H fun v H'=>v=.bool (decide (s∈l))∧H=H':=by
 refine acalls_ofN h55 za160 rfl ?_
 simp only[c160,sA,sB,seval]
 refine aw_loop (fun q (T:Env) H'=>∃i:Nat,i≤l.length∧q=l.length-i∧T 0=.str s∧T 1=t∧T 5=.int .i64 (i:Int)∧(¬s∈l.take i)∧H=H') l.length ⟨0,Nat.zero_le _,rfl,rfl,rfl,rfl,by simp,rfl⟩ ?_
 rintro q T _ ⟨i,hi,rfl,g0,g1,g5,hA,rfl⟩
 by_cases hlt:i<l.length
 ·have hlt':(i:Int)<(l.length:Int):=om
  obtain⟨x,hx⟩:=isSome_of_lt hlt
  have e1:=h.idx .i64 (i:=i) (by simpa using hlt)
  have e2:=h.load (i:=i) (x:=.str x) (by simp[hx])
  by_cases hxs:x=s
  ·subst hxs
   simp only[sA,sB,seval,g0,g1,g5,h.len,List.length_map,hlt',e1,e2]
   exact⟨by rw[decide_eq_true (List.mem_of_getElem? hx)],by trivial⟩
  ·simp only[sA,sB,seval,g0,g1,g5,h.len,List.length_map,hlt',e1,e2,hxs,wrap1 i om]
   refine⟨_,om,i+1,om,rfl,by trivial,by trivial,rfl,?_,by trivial⟩
   rw[List.take_add_one,hx]
   intro hm
   rcases List.mem_append.1 hm with hm | hm
   ·exact hA hm
   ·simp at hm; exact hxs hm.symm
 ·obtain rfl:i=l.length:=om
  rw[List.take_length]at hA
  simp only[sA,sB,seval,g0,g1,g5,h.len,List.length_map,Int.lt_irrefl]
  exact⟨by rw[decide_eq_false hA],by trivial⟩
open Go.Abs Go.Abs.S
def pd:Nat→Nat→List Nat
 | 0,_=>[]
 | k+1,u=>pd k (u / 10)++[u % 10]
theorem pd_len(k u:Nat):(pd k u).length=k:=by
 induction k generalizing u with
 | zero=>rfl
 | succ k ih=>simp[pd,ih]
theorem pd_dec(k:Nat):∀u,10 ^ k≤u→u<10 ^ (k+1)→pd (k+1) u=decD u:=by
 induction k with
 | zero=>
  intro u h1 h2
  rw[decD_lt (by simpa using h2)]
  have:u % 10=u:=Nat.mod_eq_of_lt (by simpa using h2)
  simp[pd,this]
 | succ k ih=>
  intro u h1 h2
  have h10:¬u<10:=by
   have:10 ^ 1≤10 ^ (k+1):=Nat.pow_le_pow_right om om
   omega
  rw[decD_ge h10,pd,ih (u / 10) (by rw[Nat.pow_succ]at h1; omega) (by rw[Nat.pow_succ]at h2; omega)]
def smalls:Bs:=(List.range 100).flatMap fun d=>[UInt8.ofNat (48+d / 10),UInt8.ofNat (48+d % 10)]
theorem small_hi{d:Nat}(h:d<100):smalls[d*2]?=some (UInt8.ofNat (48+d / 10)):=by
 have:∀d,d<100→smalls[d*2]?=some (UInt8.ofNat (48+d / 10)):=by decide
 exact this d h
theorem small_lo{d:Nat}(h:d<100):smalls[d*2+1]?=some (UInt8.ofNat (48+d % 10)):=by
 have:∀d,d<100→smalls[d*2+1]?=some (UInt8.ofNat (48+d % 10)):=by decide
 exact this d h
open Go.Abs Go.Abs.S
theorem smalls_lit:smalls=[48,48,48,49,48,50,48,51,48,52,48,53,48,54,48,55,48,56,48,57,49,48,49,49,49,50,49,51,49,52,49,53,49,54,49,55,49,56,49,57,50,48,50,49,50,50,50,51,50,52,50,53,50,54,50,55,50,56,50,57,51,48,51,49,51,50,51,51,51,52,51,53,51,54,51,55,51,56,51,57,52,48,52,49,52,50,52,51,52,52,52,53,52,54,52,55,52,56,52,57,53,48,53,49,53,50,53,51,53,52,53,53,53,54,53,55,53,56,53,57,54,48,54,49,54,50,54,51,54,52,54,53,54,54,54,55,54,56,54,57,55,48,55,49,55,50,55,51,55,52,55,53,55,54,55,55,55,56,55,57,56,48,56,49,56,50,56,51,56,52,56,53,56,54,56,55,56,56,56,57,57,48,57,49,57,50,57,51,57,52,57,53,57,54,57,55,57,56,57,57]:=by kernel_rfl
theorem small_at{d:Nat}(h:d<100)(k:IntKind):aIdxS (.str smalls) (.int k ((d*2:Nat):Int))=some (.int .u8 ((48+d / 10:Nat):Int)):=by
 rw[str_idx (small_hi h)]
 have:(UInt8.ofNat (48+d / 10)).toNat=48+d / 10:=by rw[UInt8.toNat_ofNat']; omega
 rw[this]
theorem small_at1{d:Nat}(h:d<100)(k:IntKind):aIdxS (.str smalls) (.int k ((d*2+1:Nat):Int))=some (.int .u8 ((48+d % 10:Nat):Int)):=by
 rw[str_idx (small_lo h)]
 have:(UInt8.ofNat (48+d % 10)).toNat=48+d % 10:=by rw[UInt8.toNat_ofNat']; omega
 rw[this]
theorem small_sl{d:Nat}(h:d<100):aSlStr (.str smalls) (some (.int .i64 ((d*2:Nat):Int))) (some (.int .i64 ((d*2+2:Nat):Int)))=some (.str [UInt8.ofNat (48+d / 10),UInt8.ofNat (48+d % 10)]):=by
 have hl:smalls.length=200:=by kernel_rfl
 rw[str_sl om om]
 have:∀d,d<100→(smalls.drop (d*2)).take 2=[UInt8.ofNat (48+d / 10),UInt8.ofNat (48+d % 10)]:=of_decide_eq_true (by kernel_rfl)
 rw[show d*2+2-d*2=2 by omega,this d h]
def tens:Bs:=[48,49,50,51,52,53,54,55,56,57,97,98,99,100,101,102,103,104,105,106,107,108,109,110,111,112,113,114,115,116,117,118,119,120,121,122]
theorem tens_sl{d:Nat}(h:d<10):aSlStr (.str tens) (some (.int .i64 (d:Int))) (some (.int .i64 ((d+1:Nat):Int)))=some (.str [UInt8.ofNat (48+d)]):=by
 have hl:tens.length=36:=by decide
 rw[str_sl om om]
 have:∀d,d<10→(tens.drop d).take 1=[UInt8.ofNat (48+d)]:=by decide
 rw[show d+1-d=1 by omega,this d h]
theorem lit_tens:tens=[48,49,50,51,52,53,54,55,56,57,97,98,99,100,101,102,103,104,105,106,107,108,109,110,111,112,113,114,115,116,117,118,119,120,121,122]:=rfl
set_option maxRecDepth 100000 in
theorem small_spec(h77:natT.is 177=false){d:Nat}(hd:d<100){H:AHeap} :
  ACalls Tryz.prog natT 177 [.int .i64 (d:Int)] H fun v H'=>v=.str (asc (decD d))∧H'=H:=by
 refine acalls_ofN h77 za177 rfl ?_
 simp only[c177,← smalls_lit,← lit_tens]
 by_cases h:d<10
 ·have h':(d:Int)<10:=om
  simp only[sA,sB,Int.reduceNegSucc,reduceCtorEq,Nat.reduceEqDiff,↓reduceIte,Nat.reduceAdd,Int.reduceEq,Int.reduceLT,Int.reduceLE,Nat.reduceLT,h',wrap1 d om,tens_sl h]
  exact⟨by rw[decD_lt h]; rfl,by trivial⟩
 ·have h':¬(d:Int)<10:=om
  have w1:IntKind.i64.wrap ((d:Int)*2)=((d*2:Nat):Int):=by rw[wrap64 om om]; omega
  have w2:IntKind.i64.wrap (((d*2:Nat):Int)+2)=((d*2+2:Nat):Int):=by rw[wrap64 om om]; omega
  simp only[sA,sB,Int.reduceNegSucc,reduceCtorEq,Nat.reduceEqDiff,↓reduceIte,Nat.reduceAdd,Int.reduceEq,Int.reduceLT,Int.reduceLE,Nat.reduceLT,h',w1,w2,small_sl hd]
  refine⟨?_,by trivial⟩
  rw[decD_ge h,decD_lt om]; simp[asc]
theorem bool2_spec(h95:natT.is 197=false)(b:Bool){H:AHeap} :
  ACalls Tryz.prog natT 197 [.bool b] H fun v H'=>v=.int .i64 ((if b=true then 1 else 0:Nat):Int)∧H'=H:=by
 refine acalls_ofN h95 za197 rfl ?_
 cases b with
 | true=>simp only[c197,sA,sB,Int.reduceNegSucc,reduceCtorEq,Nat.reduceEqDiff,↓reduceIte,Nat.reduceAdd,Int.reduceEq,Int.reduceLT,Int.reduceLE,Nat.reduceLT]; exact⟨by trivial,by trivial⟩
 | false=>simp only[c197,sA,sB,Int.reduceNegSucc,reduceCtorEq,Nat.reduceEqDiff,↓reduceIte,Nat.reduceAdd,Int.reduceEq,Int.reduceLT,Int.reduceLE,Nat.reduceLT]; exact⟨by trivial,by trivial⟩
theorem log10_spec(h93:natT.is 195=false){x:Nat}(hx:x≤64){H:AHeap} :
  ACalls Tryz.prog natT 195 [.int .i64 (x:Int)] H fun v H'=>v=.int .i64 ((x*78913 / 262144:Nat):Int)∧H'=H:=by
 refine acalls_ofN h93 za195 rfl ?_
 have w1:IntKind.i64.wrap ((x:Int)*78913)=((x*78913:Nat):Int):=by rw[wrap64 om om]; omega
 have e1:=shrN .i64 .u64 (x*78913) (b:=18) dD
 simp only[Int.cast_ofNat_Int]at e1
 simp only[c195,sA,sB,Int.reduceNegSucc,reduceCtorEq,Nat.reduceEqDiff,↓reduceIte,Nat.reduceAdd,Int.reduceEq,Int.reduceLT,Int.reduceLE,Nat.reduceLT,w1,e1]
 exact⟨by trivial,by trivial⟩
def len8:Bs:=[0,1,2,2,3,3,3,3,4,4,4,4,4,4,4,4,5,5,5,5,5,5,5,5,5,5,5,5,5,5,5,5,6,6,6,6,6,6,6,6,6,6,6,6,6,6,6,6,6,6,6,6,6,6,6,6,6,6,6,6,6,6,6,6,7,7,7,7,7,7,7,7,7,7,7,7,7,7,7,7,7,7,7,7,7,7,7,7,7,7,7,7,7,7,7,7,7,7,7,7,7,7,7,7,7,7,7,7,7,7,7,7,7,7,7,7,7,7,7,7,7,7,7,7,7,7,7,7,8,8,8,8,8,8,8,8,8,8,8,8,8,8,8,8,8,8,8,8,8,8,8,8,8,8,8,8,8,8,8,8,8,8,8,8,8,8,8,8,8,8,8,8,8,8,8,8,8,8,8,8,8,8,8,8,8,8,8,8,8,8,8,8,8,8,8,8,8,8,8,8,8,8,8,8,8,8,8,8,8,8,8,8,8,8,8,8,8,8,8,8,8,8,8,8,8,8,8,8,8,8,8,8,8,8,8,8,8,8,8,8,8,8,8,8,8,8,8,8,8,8,8,8,8,8,8,8]
theorem len8_lit:len8=[0,1,2,2,3,3,3,3,4,4,4,4,4,4,4,4,5,5,5,5,5,5,5,5,5,5,5,5,5,5,5,5,6,6,6,6,6,6,6,6,6,6,6,6,6,6,6,6,6,6,6,6,6,6,6,6,6,6,6,6,6,6,6,6,7,7,7,7,7,7,7,7,7,7,7,7,7,7,7,7,7,7,7,7,7,7,7,7,7,7,7,7,7,7,7,7,7,7,7,7,7,7,7,7,7,7,7,7,7,7,7,7,7,7,7,7,7,7,7,7,7,7,7,7,7,7,7,7,8,8,8,8,8,8,8,8,8,8,8,8,8,8,8,8,8,8,8,8,8,8,8,8,8,8,8,8,8,8,8,8,8,8,8,8,8,8,8,8,8,8,8,8,8,8,8,8,8,8,8,8,8,8,8,8,8,8,8,8,8,8,8,8,8,8,8,8,8,8,8,8,8,8,8,8,8,8,8,8,8,8,8,8,8,8,8,8,8,8,8,8,8,8,8,8,8,8,8,8,8,8,8,8,8,8,8,8,8,8,8,8,8,8,8,8,8,8,8,8,8,8,8,8,8,8,8,8]:=rfl
theorem len8_at{v:Nat}(h:v<256):∃l:UInt8,len8[v]?=some l∧v<2 ^ l.toNat∧(0<v→2 ^ l.toNat≤2*v)∧l.toNat≤8:=by
 have:∀v,v<256→(match len8[v]? with | some l=>decide (v<2 ^ l.toNat)&&(decide (v=0)||decide (2 ^ l.toNat≤2*v))&&decide (l.toNat≤8) | none=>false)=true:=of_decide_eq_true (by kernel_rfl)
 have:=this v h
 cases hl:len8[v]? with
 | none=>rw[hl]at this; simp at this
 | some l=>
  rw[hl]at this
  simp only[Bool.and_eq_true,Bool.or_eq_true,decide_eq_true_eq]at this
  exact⟨l,rfl,this.1.1,fun h0=>by rcases this.1.2 with h | h; omega; exact h,this.2⟩
set_option maxRecDepth 100000 in
theorem len64_spec(h94:natT.is 196=false){u:Nat}(h0:0<u)(hu:u<4294967296){H:AHeap} :
  ACalls Tryz.prog natT 196 [.int .u64 (u:Int)] H fun v H'=>(∃L:Nat,v=.int .i64 (L:Int)∧u<2 ^ L∧2 ^ L≤2*u∧L≤32)∧H'=H:=by
 refine acalls_ofN h94 za196 rfl ?_
 simp only[c196,← len8_lit]
 have n32:¬(4294967296:Int)≤(u:Int):=om
 have e16:=shrN .u64 .u64 u (b:=16) dD
 simp only[Int.cast_ofNat_Int,Nat.reducePow]at e16
 have key:∀(x:Nat) (s l:Nat),u / 2 ^ s=x→0<x→x<2 ^ l→2 ^ l≤2*x→s≤24→u<2 ^ (s+l)∧2 ^ (s+l)≤2*u:=by
  intro x s l hx hx0 h1 h2 hs
  have hp:0<2 ^ s:=Nat.pos_of_ne_zero (by simp)
  rw[Nat.pow_add]
  generalize 2 ^ s=p at *
  generalize 2 ^ l=q at *
  subst hx
  have h3:=Nat.div_mul_le_self u p
  have h4:=Nat.lt_div_mul_add hp (a:=u)
  constructor
  ·have:(u / p+1)*p≤q*p:=Nat.mul_le_mul_right _ h1
   rw[Nat.add_mul,Nat.one_mul]at this
   rw[Nat.mul_comm p q]
   omega
  ·calc p*q≤p*(2*(u / p)):=Nat.mul_le_mul_left _ h2
    _=2*(u / p*p):=by rw[Nat.mul_comm p,Nat.mul_assoc]
    _≤2*u:=om
 by_cases c1:65536≤u
 ·have c1':(65536:Int)≤(u:Int):=om
  have e8:=shrN .u64 .u64 (u / 65536) (b:=8) dD
  simp only[Int.cast_ofNat_Int,Nat.reducePow]at e8
  have w1:IntKind.i64.wrap (0+16)=16:=by decide
  by_cases c2:256≤u / 65536
  ·have c2':(256:Int)≤((u / 65536:Nat):Int):=om
   have w2:IntKind.i64.wrap (16+8)=24:=by decide
   obtain⟨l,l1,l2,l3,l4⟩:=len8_at (v:=u / 65536 / 256) om
   have w3:IntKind.u8.wrap ((u / 65536 / 256:Nat):Int)=((u / 65536 / 256:Nat):Int):=wrapU8 om om
   have w4:IntKind.i64.wrap (l.toNat:Int)=(l.toNat:Int):=wrap64 om om
   have w5:IntKind.i64.wrap (24+(l.toNat:Int))=((24+l.toNat:Nat):Int):=by rw[wrap64 om om]; omega
   simp only[sA,sB,Int.reduceNegSucc,reduceCtorEq,Nat.reduceEqDiff,↓reduceIte,Nat.reduceAdd,Int.reduceEq,Int.reduceLT,Int.reduceLE,Nat.reduceLT,n32,e16,c1',w1,c2',e8,w2,w3,str_idx l1,w4,w5]
   obtain⟨k1,k2⟩:=key (u / 65536 / 256) 24 l.toNat om om l2 (l3 om) om
   exact⟨⟨24+l.toNat,by trivial,k1,k2,om⟩,by trivial⟩
  ·have c2':¬(256:Int)≤((u / 65536:Nat):Int):=om
   obtain⟨l,l1,l2,l3,l4⟩:=len8_at (v:=u / 65536) om
   have w3:IntKind.u8.wrap ((u / 65536:Nat):Int)=((u / 65536:Nat):Int):=wrapU8 om om
   have w4:IntKind.i64.wrap (l.toNat:Int)=(l.toNat:Int):=wrap64 om om
   have w5:IntKind.i64.wrap (16+(l.toNat:Int))=((16+l.toNat:Nat):Int):=by rw[wrap64 om om]; omega
   simp only[sA,sB,Int.reduceNegSucc,reduceCtorEq,Nat.reduceEqDiff,↓reduceIte,Nat.reduceAdd,Int.reduceEq,Int.reduceLT,Int.reduceLE,Nat.reduceLT,n32,e16,c1',w1,c2',w3,str_idx l1,w4,w5]
   obtain⟨k1,k2⟩:=key (u / 65536) 16 l.toNat om om l2 (l3 om) om
   exact⟨⟨16+l.toNat,by trivial,k1,k2,om⟩,by trivial⟩
 ·have c1':¬(65536:Int)≤(u:Int):=om
  have e8:=shrN .u64 .u64 u (b:=8) dD
  simp only[Int.cast_ofNat_Int,Nat.reducePow]at e8
  by_cases c2:256≤u
  ·have c2':(256:Int)≤(u:Int):=om
   have w2:IntKind.i64.wrap (0+8)=8:=by decide
   obtain⟨l,l1,l2,l3,l4⟩:=len8_at (v:=u / 256) om
   have w3:IntKind.u8.wrap ((u / 256:Nat):Int)=((u / 256:Nat):Int):=wrapU8 om om
   have w4:IntKind.i64.wrap (l.toNat:Int)=(l.toNat:Int):=wrap64 om om
   have w5:IntKind.i64.wrap (8+(l.toNat:Int))=((8+l.toNat:Nat):Int):=by rw[wrap64 om om]; omega
   simp only[sA,sB,Int.reduceNegSucc,reduceCtorEq,Nat.reduceEqDiff,↓reduceIte,Nat.reduceAdd,Int.reduceEq,Int.reduceLT,Int.reduceLE,Nat.reduceLT,n32,c1',c2',e8,w2,w3,str_idx l1,w4,w5]
   obtain⟨k1,k2⟩:=key (u / 256) 8 l.toNat om om l2 (l3 om) om
   exact⟨⟨8+l.toNat,by trivial,k1,k2,om⟩,by trivial⟩
  ·have c2':¬(256:Int)≤(u:Int):=om
   obtain⟨l,l1,l2,l3,l4⟩:=len8_at (v:=u) om
   have w3:IntKind.u8.wrap (u:Int)=(u:Int):=wrapU8 om om
   have w4:IntKind.i64.wrap (l.toNat:Int)=(l.toNat:Int):=wrap64 om om
   have w5:IntKind.i64.wrap (0+(l.toNat:Int))=(l.toNat:Int):=by rw[wrap64 om om]; omega
   simp only[sA,sB,Int.reduceNegSucc,reduceCtorEq,Nat.reduceEqDiff,↓reduceIte,Nat.reduceAdd,Int.reduceEq,Int.reduceLT,Int.reduceLE,Nat.reduceLT,n32,c1',c2',w3,str_idx l1,w4,w5]
   exact⟨⟨l.toNat,by trivial,l2,l3 h0,om⟩,by trivial⟩
def powL:List AVal:=(List.range 20).map fun i=>.int .u64 ((10 ^ i:Nat):Int)
theorem powL_get{i:Nat}(h:i<20):powL[i]?=some (.int .u64 ((10 ^ i:Nat):Int)):=by
 simp[powL,h]
theorem digits_spec(h78:natT.is 178=false)(h93:natT.is 195=false)(h94:natT.is 196=false)(h95:natT.is 197=false){u:Nat}(h0:0<u)(hu:u<4294967296){H:AHeap}(G:Glo H 1 powL) :
  ACalls Tryz.prog natT 178 [.int .u64 (u:Int)] H fun v H'=>(∃k:Nat,v=.int .i64 ((k+1:Nat):Int)∧10 ^ k≤u∧u<10 ^ (k+1)∧k<10)∧H'=H:=by
 refine acalls_ofN h78 za178 rfl ?_
 simp only[c178,sA,sB,Int.reduceNegSucc,reduceCtorEq,Nat.reduceEqDiff,↓reduceIte,Nat.reduceAdd,Int.reduceEq,Int.reduceLT,Int.reduceLE,Nat.reduceLT]
 refine (len64_spec h94 h0 hu).mono ?_
 rintro v _ ⟨⟨L,rfl,l1,l2,l3⟩,rfl⟩
 simp only[sA,sB,Int.reduceNegSucc,reduceCtorEq,Nat.reduceEqDiff,↓reduceIte,Nat.reduceAdd,Int.reduceEq,Int.reduceLT,Int.reduceLE,Nat.reduceLT]
 refine (log10_spec h93 (show L≤64 by omega)).mono ?_
 rintro v _ ⟨rfl,rfl⟩
 have hL:1≤L:=by
  rcases Nat.eq_zero_or_pos L with h | h
  ·subst h; simp at l1; omega
  ·exact h
 have all:∀L,L≤32→1≤L→2 ^ L≤10 ^ (L*78913 / 262144+1)∧(10 ^ (L*78913 / 262144-1)*2≤2 ^ L)∧L*78913 / 262144<10:=of_decide_eq_true (by kernel_rfl)
 obtain⟨a1,a2,a3⟩:=all L l3 hL
 generalize L*78913 / 262144=t at *
 have ht:t<20:=om
 simp only[sA,sB,Int.reduceNegSucc,reduceCtorEq,Nat.reduceEqDiff,↓reduceIte,Nat.reduceAdd,Int.reduceEq,Int.reduceLT,Int.reduceLE,Nat.reduceLT,gl_idx G (n:=20) dD ht,gl_load G (n:=20) dD (powL_get ht)]
 refine (bool2_spec h95 _).mono ?_
 rintro v _ ⟨rfl,rfl⟩
 by_cases hc:10 ^ t≤u
 ·have hc':((10 ^ t:Nat):Int)≤(u:Int):=om
  have w:IntKind.i64.wrap ((t:Int)+1)=((t+1:Nat):Int):=by rw[wrap64 om om]; omega
  simp only[sA,sB,Int.reduceNegSucc,reduceCtorEq,Nat.reduceEqDiff,↓reduceIte,Nat.reduceAdd,Int.reduceEq,Int.reduceLT,Int.reduceLE,Nat.reduceLT,hc',w]
  exact⟨⟨t,by trivial,hc,om,a3⟩,by trivial⟩
 ·have hc':¬((10 ^ t:Nat):Int)≤(u:Int):=om
  have w:IntKind.i64.wrap ((t:Int)+0)=(t:Int):=by rw[wrap64 om om]; omega
  simp only[sA,sB,Int.reduceNegSucc,reduceCtorEq,Nat.reduceEqDiff,↓reduceIte,Nat.reduceAdd,Int.reduceEq,Int.reduceLT,Int.reduceLE,Nat.reduceLT,hc',w]
  have ht0:t≠0:=by rintro rfl; simp at hc; omega
  obtain⟨s,rfl⟩:=Nat.exists_eq_succ_of_ne_zero ht0
  exact⟨⟨s,rfl,by simp at a2; omega,by simpa using hc,om⟩,by trivial⟩
open Go.Abs Go.Abs.S
def put:Nat→List Nat→Nat→List Nat
 | 0,l,_=>l
 | i+1,l,u=>put i (l.set i (48+u % 10)) (u / 10)
def set2(l:List Nat)(i d:Nat):List Nat:=(l.set (i+1) (48+d % 10)).set i (48+d / 10)
theorem set2_len(l:List Nat)(i d:Nat):(set2 l i d).length=l.length:=by simp[set2]
theorem put_two(i:Nat)(l:List Nat)(u:Nat):put (i+2) l u=put i (set2 l i (u % 100)) (u / 100):=by
 simp only[put,set2]
 rw[Nat.div_div_eq_div_mul]
 congr 3
 ·omega
 ·omega
theorem put_spec:∀(k:Nat) (l:List Nat) (u:Nat),k≤l.length→put k l u=(pd k u).map (48+·)++l.drop k
 | 0,l,u,_=>by simp[put,pd]
 | k+1,l,u,h=>by
  rw[put,put_spec k _ _ (by simp; omega),pd,List.map_append,List.append_assoc]
  congr 1
  have hlt:k<(l.set k (48+u % 10)).length:=by simp; omega
  rw[List.drop_eq_getElem_cons hlt]
  simp[List.drop_set]
theorem put_len:∀(k:Nat) (l:List Nat) (u:Nat),(put k l u).length=l.length
 | 0,l,u=>rfl
 | k+1,l,u=>by rw[put,put_len k]; simp
theorem pair_row{H:AHeap}{b:Nat}{l:List Nat}(hr:Row H b (u8s l))(hl:l.length=24){i d:Nat}(hi:i+1<24) :
  ∃H1 H2,oStore 1 H (cellR b 24 (i+1)) (.int .u8 ((48+d % 10:Nat):Int))=some H1∧oStore 1 H1 (cellR b 24 i) (.int .u8 ((48+d / 10:Nat):Int))=some H2∧Row H2 b (u8s (set2 l i d))∧H2.next=H.next∧∀c,c≠b→H2.get c=H.get c:=by
 obtain⟨H1,m1,r1,n1,k1⟩:=row_store hr (n:=24) (by rw[u8s_len,hl]) (i:=i+1) om (x:=.int .u8 ((48+d % 10:Nat):Int)) rfl
 rw[← u8s_set]at r1
 obtain⟨H2,m2,r2,n2,k2⟩:=row_store r1 (n:=24) (by rw[u8s_len]; simpa using hl) (i:=i) om (x:=.int .u8 ((48+d / 10:Nat):Int)) rfl
 rw[← u8s_set]at r2
 exact⟨H1,H2,m1,m2,r2,om,fun c hc=>(k2 c hc).trans (k1 c hc)⟩
def seq2:ACode→ACode
 | .seq _ b=>b
 | c=>c
def pre79(t:ACode):ACode:=match c179.body with
 | .seq a (.seq b (.seq c (.seq d _)))=>.seq a (.seq b (.seq c (.seq d t)))
 | x=>x
def code79:ACode:=seq2 (seq2 (seq2 (seq2 c179.body)))
set_option maxRecDepth 100000 in
theorem tail79{b k:Nat}(hk:k≤24){R:List Nat}{Q:AHeap→Prop}(hQ:∀H',Row H' b (u8s R)→Q H'→Q H'){H0:AHeap}{H:AHeap}{m:List Nat}(hm:m.length=24){i x:Nat}(hi:i<4)(hik:i≤k)(hx:x<10 ^ i)(hp:put i m x=R)
  {T:Env} (g0:T 0=bufS b 24 k) (g4:T 4=.int .i64 (i:Int)) (g12:T 12=.int .u32 (x:Int)) (hr:Row H b (u8s m)) (hn:H.next=H0.next) (ho:∀c,c≠b→H.get c=H0.get c) :
  wp (ACalls Tryz.prog natT) code79 (fin c179.res fun v H'=>Row H' b (u8s R)∧H'.next=H0.next∧∀c,c≠b→H'.get c=H0.get c) T H:=by
 simp only[code79,seq2,c179,← smalls_lit,sA,sB,seval]
 have fin1:∀{T:Env} {H:AHeap} {m:List Nat} {x:Nat},x<10→m.length=24→put 1 m x=R→Row H b (u8s m)→H.next=H0.next→(∀c,c≠b→H.get c=H0.get c)→1≤k →
   IntKind.u32.wrap (48+(x:Int))=((48+x:Nat):Int)∧IntKind.u8.wrap ((48+x:Nat):Int)=((48+x:Nat):Int)∧aIdxA 1 (bufS b 24 k) (.int .i64 0)=some (cellR b 24 0) ∧
   ∃H',oStore 1 H (cellR b 24 0) (.int .u8 ((48+x:Nat):Int))=some H'∧Row H' b (u8s R)∧H'.next=H0.next∧∀c,c≠b→H'.get c=H0.get c:=by
  intro T H m x hx hm hp hr hn ho hk1
  refine⟨by rw[wrapU32 om om]; omega,wrapU8 om om,buf_idx .i64 (i:=0) hk1,?_⟩
  obtain⟨H1,m1,r1,n1,k1⟩:=row_store hr (n:=24) (by rw[u8s_len,hm]) (i:=0) om (x:=.int .u8 ((48+x:Nat):Int)) rfl
  rw[← u8s_set]at r1
  refine⟨H1,m1,?_,om,fun c hc=>(k1 c hc).trans (ho c hc)⟩
  have:x % 10=x:=om
  rw[← hp]
  simpa only [put,this] using r1
 by_cases c2:2≤i
 ·obtain⟨j,rfl⟩:∃j,i=j+2:=⟨i-2,om⟩
  have c2':(2:Int)≤((j+2:Nat):Int):=om
  have e1:=remU32 (a:=x) 100 om
  have hx4:x<10 ^ 4:=Nat.lt_of_lt_of_le hx (Nat.pow_le_pow_right om om)
  have e2:=quoU32 (a:=x) 100 om om
  simp only[Int.cast_ofNat_Int]at e1 e2
  have w1:IntKind.u32.wrap (((x % 100:Nat):Int)*2)=((x % 100*2:Nat):Int):=by rw[wrapU32 om om]; omega
  have w2:IntKind.u32.wrap (((x % 100*2:Nat):Int)+1)=((x % 100*2+1:Nat):Int):=by rw[wrapU32 om om]; omega
  have s1:IntKind.i64.wrap (((j+2:Nat):Int)-1)=((j+1:Nat):Int):=by rw[wrap64 om om]; omega
  have s2:IntKind.i64.wrap (((j+2:Nat):Int)-2)=((j:Nat):Int):=by rw[wrap64 om om]; omega
  obtain⟨H1,H2,m1,m2,r2,n2,k2⟩:=pair_row hr hm (i:=j) (d:=x % 100) om
  have hd:x % 100<100:=om
  rw[put_two]at hp
  by_cases c0:0<j
  ·have hj:j=1:=om
   have c0':(0:Int)<(j:Int):=om
   have hx2:x / 100<10:=by
    rw[hj]at hx
    have:x<10 ^ 3:=hx
    omega
   rw[hj]at hp r2
   obtain⟨f1,f2,f3,H3,f4,f5⟩:=fin1 (T:=T) hx2 (by rw[set2_len,hm]) hp r2 om (fun c hc=>(k2 c hc).trans (ho c hc)) om
   simp only[sA,sB,seval,g0,g4,g12,c2',e1,e2,w1,w2,s1,s2,small_at hd,small_at1 hd,buf_idx .i64 (show j+1<k by omega),buf_idx .i64 (show j<k by omega),m1,m2,c0',f1,f2,f3,f4,fin_n0]
   exact f5
  ·have hj:j=0:=om
   have c0':¬(0:Int)<(j:Int):=om
   rw[hj]at hp r2
   simp only[sA,sB,seval,g0,g4,g12,c2',e1,e2,w1,w2,s1,s2,small_at hd,small_at1 hd,buf_idx .i64 (show j+1<k by omega),buf_idx .i64 (show j<k by omega),m1,m2,c0',fin_n0]
   refine⟨by rw[← hp]; exact r2,om,fun c hc=>(k2 c hc).trans (ho c hc)⟩
 ·have c2':¬(2:Int)≤(i:Int):=om
  by_cases c0:0<i
  ·have hj:i=1:=om
   have c0':(0:Int)<(i:Int):=om
   rw[hj]at hp hx
   obtain⟨f1,f2,f3,H3,f4,f5⟩:=fin1 (T:=T) (by simpa using hx) hm hp hr hn ho om
   simp only[sA,sB,seval,g0,g4,g12,c2',c0',f1,f2,f3,f4,fin_n0]
   exact f5
  ·have hj:i=0:=om
   have c0':¬(0:Int)<(i:Int):=om
   rw[hj]at hp
   simp only[sA,sB,seval,g0,g4,g12,c2',c0',fin_n0]
   exact⟨by rw[← hp]; exact hr,hn,ho⟩
set_option maxRecDepth 100000 in
theorem fmt_spec(h79:natT.is 179=false){b k u:Nat}{l:List Nat}{H:AHeap}(hr:Row H b (u8s l))(hl:l.length=24)(hk:k≤24)(hu:u<10 ^ k)(hu64:u<18446744073709551616) :
  ACalls Tryz.prog natT 179 [bufS b 24 k,.int .u64 (u:Int)] H fun v H'=>Row H' b (u8s (put k l u))∧H'.next=H.next∧∀c,c≠b→H'.get c=H.get c:=by
 refine acalls_ofN h79 za179 rfl ?_
 have t:=fun (T:Env) (H1:AHeap) (m:List Nat) (i x:Nat) hm hi hik hx hp g0 g4 g12 hr hn ho=>tail79 (b:=b) (k:=k) hk (R:=put k l u) (Q:=fun _=>True) (fun _ _ h=>h) (H0:=H) (H:=H1) (m:=m) hm (i:=i) (x:=x) hi hik hx hp (T:=T) g0 g4 g12 hr hn ho
 show wp _ (pre79 code79) (fin c179.res _) _ _
 simp only[pre79,c179,← smalls_lit,sA,sB,seval,buf_len]
 refine aw_loop (fun q (T:Env) H'=>∃(i x:Nat) (m:List Nat),i≤k∧i=q∧m.length=24∧x<10 ^ i∧x<18446744073709551616∧T 0=bufS b 24 k∧T 1=.int .u64 (x:Int)∧T 4=.int .i64 (i:Int)∧put i m x=put k l u∧Row H' b (u8s m)∧H'.next=H.next∧∀c,c≠b→H'.get c=H.get c) k
  ⟨k,u,l,Nat.le_refl _,rfl,hl,hu,hu64,by simp only[sA,sB,seval],by simp only[sA,sB,seval],by simp only[sA,sB,seval],rfl,hr,rfl,fun c _=>rfl⟩ ?_
 rintro q T H1 ⟨i,x,m,hi,rfl,hm,hx,hx64,g0,g1,g4,hp,hr1,hn,ho⟩
 clear hr
 by_cases c8:8≤i
 ·obtain⟨j,rfl⟩:∃j,i=j+8:=⟨i-8,om⟩
  have c8':(8:Int)≤((j+8:Nat):Int):=om
  have e1:=remU64 (a:=x) 100000000 om
  have e2:=quoU64 (a:=x) 100000000 om hx64
  have w0:IntKind.u32.wrap ((x % 100000000:Nat):Int)=((x % 100000000:Nat):Int):=wrapU32 om om
  have p1:x % 100000000 % 10000 % 100=x % 100:=om
  have p2:x % 100000000 % 10000 / 100=x / 100 % 100:=om
  have p3:x % 100000000 / 10000 % 100=x / 100 / 100 % 100:=om
  have p4:x % 100000000 / 10000 / 100=x / 100 / 100 / 100 % 100:=om
  have p5:x / 100 / 100 / 100 / 100=x / 100000000:=om
  rw[put_two (j+6),put_two (j+4),put_two (j+2),put_two j,p5,← p1,← p2,← p3,← p4]at hp
  have hA:x % 100000000<100000000:=om
  have hx':x / 100000000<10 ^ j:=by
   rw[Nat.pow_add]at hx
   exact Nat.div_lt_of_lt_mul (by rw[Nat.mul_comm]; exact hx)
  have hxx:x / 100000000<18446744073709551616:=om
  generalize x / 100000000=x' at *
  generalize x % 100000000=A at *
  have e3:=quoU32 (a:=A) 10000 om om
  have e4:=remU32 (a:=A) 10000 om
  have hB:A / 10000<10000:=om
  have hC:A % 10000<10000:=om
  generalize A / 10000=B at *
  generalize A % 10000=C at *
  have e5:=quoU32 (a:=C) 100 om om
  have e6:=remU32 (a:=C) 100 om
  have e7:=quoU32 (a:=B) 100 om om
  have e8:=remU32 (a:=B) 100 om
  have d1:C % 100<100:=om
  have d2:C / 100<100:=om
  have d3:B % 100<100:=om
  have d4:B / 100<100:=om
  generalize C % 100=y1 at *
  generalize C / 100=y2 at *
  generalize B % 100=y3 at *
  generalize B / 100=y4 at *
  simp only[Int.cast_ofNat_Int]at e1 e2 e3 e4 e5 e6 e7 e8
  have ww:∀y:Nat,y<100→IntKind.u32.wrap ((y:Int)*2)=((y*2:Nat):Int):=fun y hy=>by rw[wrapU32 om om]; omega
  have wa:∀y:Nat,y<100→IntKind.u32.wrap (((y*2:Nat):Int)+1)=((y*2+1:Nat):Int):=fun y hy=>by rw[wrapU32 om om]; omega
  have s1:IntKind.i64.wrap (((j+8:Nat):Int)-1)=((j+6+1:Nat):Int):=by rw[wrap64 om om]; omega
  have s2:IntKind.i64.wrap (((j+8:Nat):Int)-2)=((j+6:Nat):Int):=by rw[wrap64 om om]; omega
  have s3:IntKind.i64.wrap (((j+8:Nat):Int)-3)=((j+4+1:Nat):Int):=by rw[wrap64 om om]; omega
  have s4:IntKind.i64.wrap (((j+8:Nat):Int)-4)=((j+4:Nat):Int):=by rw[wrap64 om om]; omega
  have s5:IntKind.i64.wrap (((j+8:Nat):Int)-5)=((j+2+1:Nat):Int):=by rw[wrap64 om om]; omega
  have s6:IntKind.i64.wrap (((j+8:Nat):Int)-6)=((j+2:Nat):Int):=by rw[wrap64 om om]; omega
  have s7:IntKind.i64.wrap (((j+8:Nat):Int)-7)=((j+1:Nat):Int):=by rw[wrap64 om om]; omega
  have s8:IntKind.i64.wrap (((j+8:Nat):Int)-8)=((j:Nat):Int):=by rw[wrap64 om om]; omega
  obtain⟨H2,H3,m2,m3,r3,n3,k3⟩:=pair_row hr1 hm (i:=j+6) (d:=y1) om
  obtain⟨H4,H5,m4,m5,r5,n5,k5⟩:=pair_row r3 (by rw[set2_len,hm]) (i:=j+4) (d:=y2) om
  obtain⟨H6,H7,m6,m7,r7,n7,k7⟩:=pair_row r5 (by rw[set2_len,set2_len,hm]) (i:=j+2) (d:=y3) om
  obtain⟨H8,H9,m8,m9,r9,n9,k9⟩:=pair_row r7 (by rw[set2_len,set2_len,set2_len,hm]) (i:=j) (d:=y4) om
  have ix:∀i,i<k→aIdxA 1 (bufS b 24 k) (.int .i64 (i:Int))=some (cellR b 24 i):=fun i h=>buf_idx .i64 h
  simp only[sA,sB,seval,g0,g1,g4,c8',e1,e2,e3,e4,e5,e6,e7,e8,w0,ww y1 d1,ww y2 d2,ww y3 d3,ww y4 d4,wa y1 d1,wa y2 d2,wa y3 d3,wa y4 d4,s1,s2,s3,s4,s5,s6,s7,s8,small_at d1,small_at1 d1,small_at d2,small_at1 d2,small_at d3,small_at1 d3,small_at d4,small_at1 d4,
   ix (j+6+1) om,ix (j+6) om,ix (j+4+1) om,ix (j+4) om,ix (j+2+1) om,ix (j+2) om,ix (j+1) om,ix j om,m2,m3,m4,m5,m6,m7,m8,m9]
  refine⟨_,Nat.lt_add_of_pos_right om,j,x',_,om,rfl,?_,hx',hxx,by trivial,by trivial,by trivial,hp,r9,om,fun c hc=>(k9 c hc).trans ((k7 c hc).trans ((k5 c hc).trans ((k3 c hc).trans (ho c hc))))⟩
  simp only[set2_len,hm]
 ·have c8':¬(8:Int)≤(i:Int):=om
  have hx7:x<10 ^ 7:=Nat.lt_of_lt_of_le hx (Nat.pow_le_pow_right om om)
  have w0:IntKind.u32.wrap (x:Int)=(x:Int):=wrapU32 om om
  by_cases c4:4≤i
  ·obtain⟨j,rfl⟩:∃j,i=j+4:=⟨i-4,om⟩
   have c4':(4:Int)≤((j+4:Nat):Int):=om
   have e1:=remU32 (a:=x) 10000 om
   have e2:=quoU32 (a:=x) 10000 om om
   have p1:x % 10000 % 100=x % 100:=om
   have p2:x % 10000 / 100=x / 100 % 100:=om
   have p5:x / 100 / 100=x / 10000:=om
   rw[put_two (j+2),put_two j,p5,← p1,← p2]at hp
   have hx':x / 10000<10 ^ j:=by
    rw[Nat.pow_add]at hx
    exact Nat.div_lt_of_lt_mul (by rw[Nat.mul_comm]; exact hx)
   have hC:x % 10000<10000:=om
   generalize x / 10000=x' at *
   generalize x % 10000=C at *
   have e5:=quoU32 (a:=C) 100 om om
   have e6:=remU32 (a:=C) 100 om
   have d1:C % 100<100:=om
   have d2:C / 100<100:=om
   generalize C % 100=y1 at *
   generalize C / 100=y2 at *
   simp only[Int.cast_ofNat_Int]at e1 e2 e5 e6
   have ww:∀y:Nat,y<100→IntKind.u32.wrap ((y:Int)*2)=((y*2:Nat):Int):=fun y hy=>by rw[wrapU32 om om]; omega
   have wa:∀y:Nat,y<100→IntKind.u32.wrap (((y*2:Nat):Int)+1)=((y*2+1:Nat):Int):=fun y hy=>by rw[wrapU32 om om]; omega
   have s1:IntKind.i64.wrap (((j+4:Nat):Int)-1)=((j+2+1:Nat):Int):=by rw[wrap64 om om]; omega
   have s2:IntKind.i64.wrap (((j+4:Nat):Int)-2)=((j+2:Nat):Int):=by rw[wrap64 om om]; omega
   have s3:IntKind.i64.wrap (((j+4:Nat):Int)-3)=((j+1:Nat):Int):=by rw[wrap64 om om]; omega
   have s4:IntKind.i64.wrap (((j+4:Nat):Int)-4)=((j:Nat):Int):=by rw[wrap64 om om]; omega
   obtain⟨H2,H3,m2,m3,r3,n3,k3⟩:=pair_row hr1 hm (i:=j+2) (d:=y1) om
   obtain⟨H4,H5,m4,m5,r5,n5,k5⟩:=pair_row r3 (by rw[set2_len,hm]) (i:=j) (d:=y2) om
   have ix:∀i,i<k→aIdxA 1 (bufS b 24 k) (.int .i64 (i:Int))=some (cellR b 24 i):=fun i h=>buf_idx .i64 h
   simp only[sA,sB,seval,g0,g1,g4,c8',w0,c4',e1,e2,e5,e6,ww y1 d1,ww y2 d2,wa y1 d1,wa y2 d2,s1,s2,s3,s4,small_at d1,small_at1 d1,small_at d2,small_at1 d2,ix (j+2+1) om,ix (j+2) om,ix (j+1) om,ix j om,m2,m3,m4,m5]
   refine t _ _ (set2 (set2 m (j+2) y1) j y2) j x' ?_ om om hx' hp ?_ ?_ ?_ r5 om fun c hc=>(k5 c hc).trans ((k3 c hc).trans (ho c hc))
   ·simp only[set2_len,hm]
   all_goals simp only[sA,sB,seval,g0]
  ·have c4':¬(4:Int)≤(i:Int):=om
   simp only[sA,sB,seval,g0,g1,g4,c8',w0,c4']
   refine t _ _ m i x hm om hi hx hp ?_ ?_ ?_ hr1 hn ho
   all_goals simp only[sA,sB,seval,g0,g4]
open Go.Abs Go.Abs.S
theorem map_byts{l:List Nat}(h:∀d∈l,d≤9):u8s (l.map (48+·))=byts (asc l):=by
 simp only[u8s,byts,asc,List.map_map]
 apply List.map_congr_left
 intro d hd
 have:=h d hd
 have e:(UInt8.ofNat (48+d)).toNat=48+d:=by rw[UInt8.toNat_ofNat']; omega
 simp[e]; omega
theorem pd_dig:∀(k u:Nat),∀d∈pd k u,d≤9
 | 0,_,d,h=>by simp[pd]at h
 | k+1,u,d,h=>by
  rcases List.mem_append.1 h with h | h
  ·exact pd_dig k _ d h
  ·simp at h; omega
structure NStr(N:ANat):Prop where
 (h56:N.is 145=false) (h77:N.is 177=false) (h78:N.is 178=false) (h79:N.is 179=false) (h93:N.is 195=false) (h94:N.is 196=false) (h95:N.is 197=false) (h33:N.is 186=false)
theorem app_spec(hN:NStr natT){b cap u:Nat}{s:Bs}{H:AHeap}(hb:Buf H b cap s)(hbn:b<H.next)(hn1:1<H.next)(G:Glo H 1 powL)(hu:u<4294967296)(hf:s.length+10≤cap)(hc:cap≤1000000) :
  ACalls Tryz.prog natT 145 [bufS b cap s.length,.int .u64 (u:Int),.int .i64 10] H fun v H'=>v=bufS b cap (s++asc (decD u)).length∧Buf H' b cap (s++asc (decD u))∧H.next≤H'.next∧∀c,c<H.next→c≠b→H'.get c=H.get c:=by
 refine acalls_ofN hN.h56 za145 rfl ?_
 by_cases c1:u<100
 ·have c1':(u:Int)<100:=om
  have w1:IntKind.i64.wrap (u:Int)=(u:Int):=wrap64 om om
  simp only[c145,sA,sB,seval,c1',w1]
  refine (small_spec hN.h77 c1).mono ?_
  rintro v _ ⟨rfl,rfl⟩
  have hl:=decD_len 9 u om
  obtain⟨H2,m2,b2,n2,k2⟩:=ap_buf hb (src_str _ (asc (decD u))) (asc_ne u) (by rw[asc_len]; omega) hc
  simp only[sA,sB,seval,m2]
  exact⟨by trivial,b2,om,fun c _ hne=>k2 c hne⟩
 ·have c1':¬(u:Int)<100:=om
  obtain⟨H1,m1,r1,n1,k1⟩:=row_newL H (u8s (List.replicate 24 0)) (n:=24) rfl
  have hz:u8s (List.replicate 24 0)=[.int .u8 0,.int .u8 0,.int .u8 0,.int .u8 0,.int .u8 0,.int .u8 0,.int .u8 0,.int .u8 0,.int .u8 0,.int .u8 0,.int .u8 0,.int .u8 0,.int .u8 0,.int .u8 0,.int .u8 0,.int .u8 0,.int .u8 0,.int .u8 0,.int .u8 0,.int .u8 0,.int .u8 0,.int .u8 0,.int .u8 0,.int .u8 0]:=rfl
  rw[hz]at m1
  simp only[c145,sA,sB,seval,c1',m1]
  have G1:Glo H1 1 powL:=by unfold Glo; rw[k1 1 om]; exact G
  refine (digits_spec hN.h78 hN.h93 hN.h94 hN.h95 (u:=u) om hu G1).mono ?_
  rintro v _ ⟨⟨k,rfl,q1,q2,q3⟩,rfl⟩
  simp only[sA,sB,seval,slA_buf (show k+1≤24 by omega) om]
  refine (fmt_spec hN.h79 r1 (by simp) (show k+1≤24 by omega) q2 om).mono ?_
  rintro v H2 ⟨r2,n2,k2⟩
  have hB:Buf H2 H.next 24 (asc (decD u)):=by
   refine⟨_,r2,by rw[u8s_len,put_len]; simp,?_⟩
   rw[put_spec _ _ _ (by simp; omega),pd_dec k u q1 q2]
   have e:u8s ((decD u).map (48+·))=byts (asc (decD u)):=by
    rw[← pd_dec k u q1 q2]; exact map_byts (pd_dig _ _)
   simp only[u8s,List.map_append]at e ⊢
   rw[e]
   have:(asc (decD u)).length=(byts (asc (decD u))).length:=by rw[byts_len]
   rw[this,List.take_left]
  have hlen:(asc (decD u)).length=k+1:=by rw[asc_len,← pd_dec k u q1 q2,pd_len]
  have hb2:Buf H2 b cap s:=by
   refine hb.same ?_
   rw[k2 b om,k1 b om]
  have hs:=buf_src hB om
  obtain⟨H3,m3,b3,n3,k3⟩:=ap_buf hb2 hs (asc_ne u) om hc
  rw[hlen]at m3
  simp only[sA,sB,seval,slA_buf (show k+1≤24 by omega) om,m3]
  exact⟨by trivial,b3,om,fun c hc hne=>by rw[k3 c hne,k2 c om,k1 c om]⟩
theorem append_spec(hN:NStr natT){b cap u:Nat}{s:Bs}{H:AHeap}(hb:Buf H b cap s)(hbn:b<H.next)(hn1:1<H.next)(G:Glo H 1 powL)(hu:u<4294967296)(hf:s.length+10≤cap)(hc:cap≤1000000) :
  ACalls Tryz.prog natT 186 [bufS b cap s.length,.int .u64 (u:Int),.int .i64 10] H fun v H'=>v=bufS b cap (s++asc (decD u)).length∧Buf H' b cap (s++asc (decD u))∧H.next≤H'.next∧∀c,c<H.next→c≠b→H'.get c=H.get c:=by
 refine acalls_ofN hN.h33 za186 rfl ?_
 simp only[c186,sA,sB,seval]
 refine (app_spec hN hb hbn hn1 G hu hf hc).mono ?_
 rintro v H' ⟨rfl,h⟩
 simp only[sA,sB,seval]
 exact⟨by trivial,h⟩
def pre9(t:ACode):ACode:=match c162.body with
 | .seq a (.seq b (.seq c (.seq d _)))=>.seq a (.seq b (.seq c (.seq d t)))
 | x=>x
def code9:ACode:=seq2 (seq2 (seq2 (seq2 c162.body)))
theorem tail9(hN:NStr natT){H0:AHeap}(hn0:1<H0.next)(G:Glo H0 1 powL){sg:Bs}(hsg:sg.length≤1){n:Nat}(hn:n≤9223372036854775808){T:Env}{H:AHeap}{b:Nat}(hb:Buf H b 48 sg)(hb0:H0.next≤b)(hbn:b<H.next)(hE:Ext H0.next H0 H)
  (g3:T 3=.int .u64 (n:Int)) (g4:T 4=bufS b 48 sg.length) :
  wp (ACalls Tryz.prog natT) code9 (fin c162.res fun v H'=>v=.str (sg++(asc (decD (n / 4294967296))++tailF (n % 4294967296)))∧Ext H0.next H0 H') T H:=by
 have e1:=shrN .u64 .u64 n (b:=32) dD
 simp only[Int.cast_ofNat_Int,Nat.reducePow]at e1
 have e2:=bin_andU64 (a:=n) (b:=4294967295) om dD
 have e2':n &&& 4294967295=n % 4294967296:=Nat.and_two_pow_sub_one_eq_mod n 32
 rw[e2']at e2
 simp only[Int.cast_ofNat_Int]at e2
 have hl10:(asc (decD (n / 4294967296))).length≤10:=by rw[asc_len]; exact decD_len 9 _ om
 simp only[code9,seq2,c162,sA,sB,seval,g3,g4,e1]
 refine (append_spec hN hb hbn (by have:=hE.next; omega) (G.ext hn0 hE) (show n / 4294967296<4294967296 by omega) om om).mono ?_
 rintro v H1 ⟨rfl,hb1,hn1,ho1⟩
 have hE1:Ext H0.next H0 H1:=⟨by have:=hE.next; omega,fun c hc=>by rw[ho1 c (by have:=hE.next; omega) om,hE.old c hc]⟩
 have hr:n % 4294967296<4294967296:=om
 generalize n % 4294967296=r at *
 generalize asc (decD (n / 4294967296))=w at *
 have hbn1:b<H1.next:=om
 clear hb hbn hE ho1 hn1
 by_cases hr0:r=0
 ·subst hr0
  have hbs:=bs_buf hb1 (by simp; omega)
  simp only[sA,sB,seval,g3,e2,hbs]
  exact⟨by simp[tailF],hE1⟩
 ·have hz:¬((r:Nat):Int)=0:=om
  have ht:tailF r=[46]++asc (fracD 32 r):=by rw[tailF,if_neg hr0]; rfl
  rw[ht]
  have hb2:Buf (H1.push (.cells [.int .u8 46] 0 false)) b 48 (sg++w):=hb1.same (get_push_lt hbn1)
  obtain⟨H2,m2,b2,n2,k2⟩:=ap_buf hb2 (x:=[46]) (src1 H1 (.int .u8 46)) (by simp) (by simp; omega) om
  have hE2:Ext H0.next H0 H2:=⟨by rw[n2,push_next]; have:=hE1.next; omega,fun c hc=>by rw[k2 c om,get_push_lt (by have:=hE1.next; omega),hE1.old c hc]⟩
  have hbn2:b<H2.next:=by rw[n2,push_next]; omega
  simp only[sA,sB,seval,g3,e2,hz,build1 _ _ (x:=.int .u8 46) rfl,m2]
  refine aw_loop (fun q (T:Env) H'=>∃(x:Nat) (acc:Bs),q≤32∧x<4294967296∧2 ^ (32-q) ∣ x∧acc.length+q≤44∧T 5=.int .u64 (x:Int)∧T 4=bufS b 48 acc.length∧Buf H' b 48 acc∧b<H'.next∧acc++asc (fracD q x)=sg++(w++([46]++asc (fracD 32 r)))∧Ext H0.next H0 H') 32
   ⟨r,sg++w++[46],Nat.le_refl _,hr,by simp,by simp; omega,by simp only[sA,sB,seval],by simp only[sA,sB,seval],b2,hbn2,by simp,hE2⟩ ?_
  clear g3 g4 hb1 hb2 b2 m2 n2 k2 hE1 hE2 hbn1 hbn2 T H H1 H2 e1 e2 hz
  rintro q T H1 ⟨x,acc,hq,hx,hdv,hal,g5,g4,hb1,hbn1,hA,hE1⟩
  by_cases hx0:x=0
  ·subst hx0
   have hf:fracD q 0=[]:=by cases q <;> simp[fracD]
   rw[hf]at hA
   simp only[asc,List.map_nil,List.append_nil]at hA
   have hbs:=bs_buf hb1 om
   simp only[sA,sB,seval,g4,g5,hbs,Int.cast_ofNat_Int]
   exact⟨by rw[hA]; rfl,hE1⟩
  ·obtain⟨k',rfl,hf,hdv'⟩:=frac_step hq hx hdv hx0
   have hz:¬((x:Nat):Int)=0:=om
   have w1:IntKind.u64.wrap ((x:Int)*10)=((x*10:Nat):Int):=by rw[wrapU64 om om]; omega
   have e1:=shrN .u64 .u64 (x*10) (b:=32) dD
   simp only[Int.cast_ofNat_Int,Nat.reducePow]at e1
   have e2:=bin_andU64 (a:=x*10) (b:=4294967295) om dD
   have e2':x*10 &&& 4294967295=x*10 % 4294967296:=Nat.and_two_pow_sub_one_eq_mod (x*10) 32
   rw[e2']at e2
   simp only[Int.cast_ofNat_Int]at e2
   have w4:IntKind.u8.wrap ((x*10 / 4294967296:Nat):Int)=((x*10 / 4294967296:Nat):Int):=wrapU8 om om
   have w5:IntKind.u8.wrap (48+((x*10 / 4294967296:Nat):Int))=((48+x*10 / 4294967296:Nat):Int):=by rw[wrapU8 om om]; omega
   have hd:x*10 / 4294967296<10:=om
   have hu:(UInt8.ofNat (48+x*10 / 4294967296)).toNat=48+x*10 / 4294967296:=by rw[UInt8.toNat_ofNat']; omega
   have hb2:Buf (H1.push (.cells [.int .u8 ((48+x*10 / 4294967296:Nat):Int)] 0 false)) b 48 acc:=hb1.same (get_push_lt hbn1)
   have hsrc:=src1 H1 (.int .u8 ((48+x*10 / 4294967296:Nat):Int))
   have hby:[AVal.int .u8 ((48+x*10 / 4294967296:Nat):Int)]=byts [UInt8.ofNat (48+x*10 / 4294967296)]:=by simp only[byts,List.map_cons,List.map_nil,hu]
   obtain⟨H2,m2,b2,n2,k2⟩:=ap_buf hb2 (x:=[UInt8.ofNat (48+x*10 / 4294967296)]) (by rw[← hby]; exact hsrc) (by simp) (by simp; omega) om
   have hE2:Ext H0.next H0 H2:=⟨by rw[n2,push_next]; have:=hE1.next; omega,fun c hc=>by rw[k2 c om,get_push_lt (by have:=hE1.next; omega),hE1.old c hc]⟩
   simp only[sA,sB,seval,g4,g5,hz,w1,e1,e2,w4,w5,build1 _ _ (x:=.int .u8 ((48+x*10 / 4294967296:Nat):Int)) rfl,m2]
   refine⟨k',om,x*10 % 4294967296,_,om,om,hdv',?_,by trivial,rfl,b2,by rw[n2,push_next]; omega,?_,hE2⟩
   ·simp; omega
   ·refine Eq.trans ?_ hA
    rw[hf]; simp[asc]
theorem said_spec(hN:NStr natT)(h9:natT.is 162=false){n:Int}(h1:-9223372036854775808≤n)(h2:n≤9223372036854775807){H:AHeap}(hn:1<H.next)(G:Glo H 1 powL) :
  ACalls Tryz.prog natT 162 [.int .i64 n] H fun v H'=>v=.str (numeralF n)∧Ext H.next H H':=by
 refine acalls_ofN h9 za162 rfl ?_
 have hsz:n.natAbs≤9223372036854775808:=om
 obtain⟨H1,m1,b1,n1,k1⟩:=buf_make (H:=H) (.int .u8 0) 48 om
 simp only[Int.cast_ofNat_Int]at m1
 have hE1:Ext H.next H H1:=Ext.of_new n1 k1 rL
 by_cases hneg:n<0
 ·have w1:IntKind.u64.wrap n=n+18446744073709551616:=by rw[IntKind.wrap_u64]; omega
  have w2:IntKind.u64.wrap (0-(n+18446744073709551616))=(n.natAbs:Int):=by rw[IntKind.wrap_u64]; omega
  have hd:numeralF n=[45]++(asc (decD (n.natAbs / 4294967296))++tailF (n.natAbs % 4294967296)):=by rw[numeralF,if_pos hneg]
  rw[hd]
  have hb2:Buf (H1.push (.cells [.int .u8 45] 0 false)) H.next 48 []:=b1.same (get_push_lt om)
  obtain⟨H2,m2,b2,n2,k2⟩:=ap_buf hb2 (x:=[45]) (src1 H1 (.int .u8 45)) (by simp) (by simp) om
  simp only[List.length_nil]at m2
  have hE2:Ext H.next H H2:=⟨by rw[n2,push_next]; omega,fun c hc=>by rw[k2 c om,get_push_lt om,hE1.old c hc]⟩
  have t:=fun (T:Env) g3 g4=>tail9 hN (H0:=H) hn G (sg:=[45]) (by simp) (n:=n.natAbs) hsz (T:=T) (H:=H2) (b:=H.next) b2 rL (by rw[n2,push_next]; omega) hE2 g3 g4
  show wp _ (pre9 code9) (fin c162.res _) _ _
  simp only[pre9,c162,sA,sB,seval,hneg,w1,un_neg,w2,m1,build1 _ _ (x:=.int .u8 45) rfl,m2]
  refine t _ ?_ ?_ <;> simp only[sA,sB,seval] <;> rfl
 ·have w1:IntKind.u64.wrap n=(n.natAbs:Int):=by rw[IntKind.wrap_u64]; omega
  have hd:numeralF n=[]++(asc (decD (n.natAbs / 4294967296))++tailF (n.natAbs % 4294967296)):=by rw[numeralF,if_neg hneg]
  rw[hd]
  have t:=fun (T:Env) g3 g4=>tail9 hN (H0:=H) hn G (sg:=[]) (by simp) (n:=n.natAbs) hsz (T:=T) (H:=H1) (b:=H.next) b1 rL om hE1 g3 g4
  show wp _ (pre9 code9) (fin c162.res _) _ _
  simp only[pre9,c162,sA,sB,seval,hneg,w1,m1]
  refine t _ ?_ ?_ <;> simp only[sA,sB,seval] <;> rfl
end Go.Proofs.Wo
