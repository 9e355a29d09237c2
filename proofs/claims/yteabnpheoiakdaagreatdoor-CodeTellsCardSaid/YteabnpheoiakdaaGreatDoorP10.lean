/- Part of a proof (YWA YWB YWD YWI YWJ YWK YP0 YPF YPH YC2 YP1 YP2 YP3 YP4 YP5 YP6 YP7 YP8 YP9 YC3 YQ1); no condition. -/
import Derived.Test.YteabnpheoiakdaaGreatDoorProg
import Derived.KernelRfl
import Derived.Test.YteabnpheoiakdaaGreatDoorP8
import Derived.Test.YteabnpheoiakdaaGreatDoorP9
set_option linter.unusedSimpArgs false
set_option linter.unusedVariables false
set_option linter.unnecessarySimpa false
namespace Go.Proofs.Wo
open Go.Abs Go.Abs.S
def keyF(s:Bs):Bool:=decide (s=[108,101,116])||(decide (s=[115,101,116])||(decide (s=[105,102])||(decide (s=[101,108,115,101])||(decide (s=[119,104,105,108,101])||decide (s=[114,101,116,117,114,110])))))
theorem key_spec(hN:natT.is 110=false)(s:Bs){H:AHeap}:ACalls Tryz.prog natT 110 [.str s] H fun v H'=>v=.bool (keyF s)∧H=H':=by
 refine acalls_ofN hN za110 rfl ?_
 unfold keyF
 by_cases h1:s=[108,101,116]
 ·subst h1; simp only[c110,sA,sB,seval]; exact⟨by simp,by trivial⟩
 by_cases h2:s=[115,101,116]
 ·subst h2; simp only[c110,sA,sB,seval,h1]; exact⟨by simp,by trivial⟩
 by_cases h3:s=[105,102]
 ·subst h3; simp only[c110,sA,sB,seval,h1,h2]; exact⟨by simp,by trivial⟩
 by_cases h4:s=[101,108,115,101]
 ·subst h4; simp only[c110,sA,sB,seval,h1,h2,h3]; exact⟨by simp,by trivial⟩
 by_cases h5:s=[119,104,105,108,101]
 ·subst h5; simp only[c110,sA,sB,seval,h1,h2,h3,h4]; exact⟨by simp,by trivial⟩
 by_cases h6:s=[114,101,116,117,114,110]
 ·subst h6; simp only[c110,sA,sB,seval,h1,h2,h3,h4,h5]; exact⟨by simp,by trivial⟩
 simp only[c110,sA,sB,seval,h1,h2,h3,h4,h5,h6]
 exact⟨by simp,by trivial⟩
def pre(s t:Bs):Bool:=decide (s.take t.length=t)
theorem pre2_spec(h75:natT.is 183=false)(s t:Bs){H:AHeap}:ACalls Tryz.prog natT 183 [.str s,.str t] H fun v H'=>v=.bool (pre s t)∧H=H':=by
 refine acalls_ofN h75 za183 rfl ?_
 by_cases h:t.length≤s.length
 ·have h':(t.length:Int)≤(s.length:Int):=om
  simp only[c183,sA,sB,seval,h',str_slH h]
  exact⟨by trivial,by trivial⟩
 ·have h':¬(t.length:Int)≤(s.length:Int):=om
  have e:pre s t=false:=by
   unfold pre
   rw[decide_eq_false]
   intro he
   have:=congrArg List.length he
   simp at this; omega
  simp only[c183,sA,sB,seval,h',e]
  exact⟨by trivial,by trivial⟩
theorem pre_spec(h51:natT.is 154=false)(h75:natT.is 183=false)(s t:Bs){H:AHeap}:ACalls Tryz.prog natT 154 [.str s,.str t] H fun v H'=>v=.bool (pre s t)∧H=H':=by
 refine acalls_ofN h51 za154 rfl ?_
 simp only[c154,sA,sB,seval]
 have key:=pre2_spec h75 s t (H:=H)
 refine key.mono ?_
 rintro v _ ⟨rfl,rfl⟩
 simp only[sA,sB,seval]
 exact⟨by trivial,by trivial⟩
theorem cbF_count(s:Bs)(n:Nat):cbF 10 s n=n+s.count 10:=by
 induction s generalizing n with
 | nil=>simp[cbF]
 | cons c r ih=>
  rw[cbF]
  by_cases h:c=10
  ·subst h
   have e:Nat.beq (UInt8.toNat 10) 10=true:=rfl
   rw[e,cond_true,ih]; simp; omega
  ·have e:Nat.beq c.toNat 10=false:=by
    cases hb:Nat.beq c.toNat 10 with
    | false=>rfl
    | true=>exact absurd (UInt8.toNat_inj.1 (Nat.eq_of_beq_eq_true hb)) h
   rw[e,cond_false,ih,List.count_cons_of_ne (by exact h)]
theorem count_spec(hN:natT.is 102=false)(s:Bs){H:AHeap}:ACalls Tryz.prog natT 102 [.str s,.str [10]] H fun v H'=>v=.int .i64 (s.count 10:Int)∧H=H':=by
 refine acalls_ofN hN za102 rfl ?_
 have hl1:((List.length [(10:UInt8)]:Nat):Int)=1:=rfl
 have i0:aIdxS (.str [10]) (.int .i64 0)=some (.int .u8 10):=rfl
 have e:aPf .cbs [.str s,.int .u8 10]=some (.int .i64 (s.count 10:Int)):=by
  have:aPf .cbs [.str s,.int .u8 10]=some (.int .i64 (cbF 10 s 0:Int)):=rfl
  rw[this,cbF_count,Nat.zero_add]
 simp only[c102,sA,sB,seval,hl1,i0,e]
 exact⟨by trivial,by trivial⟩
theorem line_spec(hN:natT.is 113=false){s:Bs}{i:Nat}(hi:i≤s.length)(hs:s.length≤4611686018427387904){H:AHeap}:ACalls Tryz.prog natT 113 [.str s,.int .i64 (i:Int)] H fun v H'=>v=.int .i64 (lineF s i:Int)∧H=H':=by
 refine acalls_ofN hN za113 rfl ?_
 simp only[c113,sA,sB,seval]
 refine aw_loop (fun q (T:Env) H'=>∃j:Nat,j≤i∧q=i-j∧T 0=.str s∧T 1=.int .i64 (i:Int)∧T 5=.int .i64 (lineF s j:Int)∧lineF s j≤j+1∧T 6=.int .i64 (j:Int)∧H=H') i ⟨0,Nat.zero_le _,rfl,rfl,rfl,rfl,by simp[lineF],rfl,rfl⟩ ?_
 rintro q T _ ⟨j,hj,rfl,g0,g1,g5,hle,g6,rfl⟩
 by_cases hlt:j<i
 ·have hlt':(j:Int)<(i:Int):=om
  obtain⟨c,hc⟩:=isSome_of_lt (l:=s) (i:=j) om
  have hst:=line_succ hc
  by_cases h10:(c.toNat:Int)=10
  ·rw[if_pos om]at hst
   simp only[sA,sB,seval,g0,g1,g5,g6,hlt',str_idx hc,h10,wrap1 (lineF s j) om,wrap1 j om]
   exact⟨_,om,j+1,om,rfl,by trivial,by trivial,by rw[hst],om,rfl,by trivial⟩
  ·rw[if_neg om]at hst
   simp only[sA,sB,seval,g0,g1,g5,g6,hlt',str_idx hc,h10,wrap1 j om]
   exact⟨_,om,j+1,om,rfl,by trivial,by trivial,by rw[hst]; rfl,om,rfl,by trivial⟩
 ·obtain rfl:j=i:=om
  simp only[sA,sB,seval,g0,g1,g5,g6,Int.lt_irrefl]
  exact⟨by trivial,by trivial⟩
theorem letter_spec(hN:natT.is 158=false):Says natT 158 beg:=by
 intro c H
 refine acalls_ofN hN za158 rfl ?_
 have e:beg c=(((decide ((97:Int)≤c.toNat)&&decide ((c.toNat:Int)≤122))||(decide ((65:Int)≤c.toNat)&&decide ((c.toNat:Int)≤90)))||decide ((c.toNat:Int)=95)):=by
  rw[Bool.eq_iff_iff]; simp[beg]; omega
 rw[e]
 by_cases h1:(97:Int)≤(c.toNat:Int) <;> by_cases h2:(c.toNat:Int)≤122 <;> by_cases h3:(65:Int)≤(c.toNat:Int) <;> by_cases h4:(c.toNat:Int)≤90 <;> by_cases h5:(c.toNat:Int)=95
 all_goals first
  | (exfalso; omega)
  | (simp only [c158, sA, sB, seval, h1, h2, h3, h4, h5]
     exact ⟨by simp, by trivial⟩)
open Go.Abs Go.Abs.S
theorem ibF_has(c:UInt8)(s:Bs)(n:Nat):(0≤ibF c s n)↔c∈s:=by
 induction s generalizing n with
 | nil=>simp[ibF]
 | cons b r ih=>
  rw[ibF]
  by_cases h:b=c
  ·subst h
   have e:Nat.beq b.toNat b.toNat=true:=Nat.beq_refl _
   rw[e,cond_true]; simp
  ·have e:Nat.beq b.toNat c.toNat=false:=by
    cases hb:Nat.beq b.toNat c.toNat with
    | false=>rfl
    | true=>exact absurd (UInt8.toNat_inj.1 (Nat.eq_of_beq_eq_true hb)) h
   rw[e,cond_false,ih]
   rw[List.mem_cons]
   constructor
   ·exact .inr
   ·rintro (h' | h')
    ·exact absurd h'.symm h
    ·exact h'
theorem ixb_spec(h52:natT.is 155=false)(h76:natT.is 184=false)(s:Bs)(c:UInt8){H:AHeap}:ACalls Tryz.prog natT 155 [.str s,by8 c] H fun v H'=>v=.int .i64 (ibF c s 0)∧H=H':=by
 refine acalls_ofN h52 za155 rfl ?_
 simp only[c155,sA,sB,seval]
 have key:ACalls Tryz.prog natT 184 [.str s,by8 c] H fun v H'=>v=.int .i64 (ibF c s 0)∧H=H':=by
  refine acalls_ofN h76 za184 rfl ?_
  have e:aPf .ibs [.str s,by8 c]=some (.int .i64 (ibF c s 0)):=by
   have:aPf .ibs [.str s,by8 c]=some (.int .i64 (ibF c.toNat.toUInt8 s 0)):=rfl
   rw[this]
   congr 3
   exact UInt8.ofNat_toNat
  simp only[c184,sA,sB,seval,e]
  exact⟨by trivial,by trivial⟩
 refine key.mono ?_
 rintro v _ ⟨rfl,rfl⟩
 simp only[sA,sB,seval]
 exact⟨by trivial,by trivial⟩
def twos:List Bs:=[[38,38],[124,124],[61,61],[33,61],[60,61],[62,61]]
def ones:Bs:=[60,62,43,45,42,47,33,40,41,123,125,44,59,61]
def signF(s:Bs):Bs:=match twos.find? (pre s) with
 | some t=>t
 | none=>match s with
  | []=>[]
  | c::_=>if c∈ones then [c] else []
theorem sign_spec(h29:natT.is 111=false)(h51:natT.is 154=false)(h75:natT.is 183=false)(h52:natT.is 155=false)(h76:natT.is 184=false){s:Bs}{i:Nat}(hi:i<s.length){H:AHeap} :
  ACalls Tryz.prog natT 111 [.str s,.int .i64 (i:Int)] H fun v H'=>v=.str (signF (s.drop i))∧H=H':=by
 refine acalls_ofN h29 za111 rfl ?_
 have e0:=str_slL (s:=s) (l:=i) om
 have b0:aBuild [.str [],.str [],.str [],.str [],.str [],.str []] [(0,1,.str [38,38]),(1,1,.str [124,124]),(2,1,.str [61,61]),(3,1,.str [33,61]),(4,1,.str [60,61]),(5,1,.str [62,61])]=some (.agg (twos.map .str)):=rfl
 obtain⟨c,hc⟩:=isSome_of_lt (l:=s) (i:=i) hi
 have hdr:=drop_some hc
 simp only[c111,sA,sB,seval,e0,b0]
 rw[hdr]
 generalize s.drop (i+1)=r at *
 refine aw_loop (fun q (T:Env) H'=>∃k:Nat,k≤6∧q=6-k∧T 5=.str (c::r)∧T 11=.agg (twos.map .str)∧T 12=.int .i64 (k:Int)∧(twos.take k).find? (pre (c::r))=none∧H=H') 6 ⟨0,Nat.zero_le _,rfl,by simp only[sA,sB,seval],by simp only[sA,sB,seval],by simp only[sA,sB,seval]; try rfl,rfl,rfl⟩ ?_
 rintro q T _ ⟨k,hk,rfl,g5,g11,g12,hA,rfl⟩
 by_cases hlt:k<6
 ·have hlt':(k:Int)<6:=om
  obtain⟨t,ht⟩:=isSome_of_lt (l:=twos) (i:=k) hlt
  have ix:aIdx 6 1 false (.agg (twos.map .str)) (.int .i64 (k:Int))=some (.str t):=by
   have hk6:k=0∨k=1∨k=2∨k=3∨k=4∨k=5:=om
   rcases hk6 with rfl | rfl | rfl | rfl | rfl | rfl <;> (simp only[twos,List.getElem?_cons_zero,List.getElem?_cons_succ,sJ]at ht; subst ht; rfl)
  simp only[sA,sB,seval,g5,g11,g12,hlt',ix]
  refine (pre_spec h51 h75 (c::r) t).mono ?_
  rintro v _ ⟨rfl,rfl⟩
  cases hp:pre (c::r) t with
  | true=>
   have hf:twos.find? (pre (c::r))=some t:=by
    have h1:(twos.take (k+1)).find? (pre (c::r))=some t:=by
     rw[List.take_add_one,ht,List.find?_append,hA]
     simp[hp]
    have h2:twos=twos.take (k+1)++twos.drop (k+1):=(List.take_append_drop _ _).symm
    rw[h2,List.find?_append,h1]; rfl
   simp only[sA,sB,seval,g5,g11,g12]
   exact⟨by rw[signF,hf],by trivial⟩
  | false=>
   simp only[sA,sB,seval,g5,g11,g12,wrap1 k om]
   refine⟨_,om,k+1,om,rfl,by trivial,by trivial,rfl,?_,by trivial⟩
   rw[List.take_add_one,ht,List.find?_append,hA]
   simp[hp]
 ·obtain rfl:k=6:=om
  have hf:twos.find? (pre (c::r))=none:=hA
  have i0:aIdxS (.str (c::r)) (.int .i64 0)=some (by8 c):=str_idx (s:=c::r) (i:=0) rfl .i64
  have e1:aSlStr (.str (c::r)) none (some (.int .i64 1))=some (.str [c]):=str_slH (s:=c::r) (h:=1) (by simp)
  simp only[sA,sB,seval,g5,g11,g12,Int.cast_ofNat_Int,Int.lt_irrefl,i0]
  refine (ixb_spec h52 h76 ones c).mono ?_
  rintro v _ ⟨rfl,rfl⟩
  by_cases hm:c∈ones
  ·have h0:=(ibF_has c ones 0).2 hm
   simp only[sA,sB,seval,g5,g11,g12,h0,e1]
   exact⟨by rw[signF,hf]; simp[hm],by trivial⟩
  ·have h0:¬0≤ibF c ones 0:=fun h=>hm ((ibF_has c ones 0).1 h)
   simp only[sA,sB,seval,g5,g11,g12,h0]
   exact⟨by rw[signF,hf]; simp[hm],by trivial⟩
open Go.Abs Go.Abs.S
theorem passed_spec(h30:natT.is 112=false){s:Bs}{i:Nat}(hi:i≤s.length)(hs:s.length≤4611686018427387904){H:AHeap} :
  ACalls Tryz.prog natT 112 [.str s,.int .i64 (i:Int)] H fun v H'=>v=.int .i64 (skipF s i:Int)∧H=H':=by
 refine acalls_ofN h30 za112 rfl ?_
 simp only[c112,sA,sB,seval]
 refine aw_loop (fun q (T:Env) H'=>∃j:Nat,j≤s.length∧q=s.length-j∧T 0=.str s∧T 1=.int .i64 (j:Int)∧skipF s i=skipF s j∧H=H') (s.length-i) ⟨i,hi,rfl,rfl,rfl,rfl,rfl⟩ ?_
 rintro q T _ ⟨j,hj,rfl,g0,g1,hA,rfl⟩
 by_cases hlt:j<s.length
 ·have hlt':(j:Int)<(s.length:Int):=om
  obtain⟨c,hc⟩:=isSome_of_lt hlt
  by_cases h35:(c.toNat:Int)=35
  ·simp only[sA,sB,seval,g0,g1,hlt',str_idx hc,h35]
   have hn:nln c=true:=by simp[nln]; omega
   have hgt:j<runF nln s j:=by rw[runF_go hc hn]; have:=runF_ge nln s (j+1); omega
   have hle:=runF_le (p:=nln) hj
   have hsk:=skip_remark hc om
   refine aw_cut (fun (T:Env) H'=>T 0=.str s∧T 1=.int .i64 (runF nln s j:Int)∧H=H') (calls_mono _ _) ?_ ?_
   ·refine aw_loop (fun q (T:Env) H'=>∃m:Nat,m≤s.length∧q=s.length-m∧T 0=.str s∧T 1=.int .i64 (m:Int)∧runF nln s j=runF nln s m∧H=H') (s.length-j) ⟨j,hj,rfl,by simp only[sA,sB,seval,g0],by simp only[sA,sB,seval,g1],rfl,rfl⟩ ?_
    clear g0 g1
    rintro q T _ ⟨m,hm,rfl,g0,g1,hB,rfl⟩
    by_cases hml:m<s.length
    ·have hml':(m:Int)<(s.length:Int):=om
     obtain⟨d,hd⟩:=isSome_of_lt hml
     by_cases h10:(d.toNat:Int)=10
     ·have hnd:nln d=false:=by simp[nln]; omega
      simp only[sA,sB,seval,g0,g1,hml',str_idx hd,h10]
      exact⟨by trivial,by rw[hB,runF_no hd hnd],by trivial⟩
     ·have hnd:nln d=true:=by simp[nln]; omega
      simp only[sA,sB,seval,g0,g1,hml',str_idx hd,h10,wrap1 m om]
      exact⟨_,om,m+1,om,rfl,by trivial,rfl,by rw[hB,runF_go hd hnd],by trivial⟩
    ·have hml':¬(m:Int)<(s.length:Int):=om
     simp only[sA,sB,seval,g0,g1,hml']
     exact⟨by trivial,by rw[hB,runF_end om],by trivial⟩
   clear g0 g1
   rintro T _ ⟨g0,g1,rfl⟩
   simp only[sA,sB,seval,g0,g1]
   exact⟨_,om,runF nln s j,hle,rfl,by trivial,by trivial,by rw[hA,hsk],by trivial⟩
  ·have e:blk c=(((decide ((c.toNat:Int)=9)||decide ((c.toNat:Int)=10))||decide ((c.toNat:Int)=13))||decide ((c.toNat:Int)=32)):=by
    rw[Bool.eq_iff_iff]; simp[blk]; omega
   have fwd:blk c=true→skipF s i=skipF s (j+1):=fun h=>by rw[hA,skip_blank hc h]
   have stp:blk c=false→skipF s i=j:=fun h=>by rw[hA,skip_stop hc h om]
   rw[e]at fwd stp
   by_cases h1:(c.toNat:Int)=9
   ·simp only[sA,sB,seval,g0,g1,hlt',str_idx hc,h1,wrap1 j om]
    exact⟨_,om,j+1,om,rfl,by trivial,rfl,fwd (by simp[h1]),by trivial⟩
   by_cases h2:(c.toNat:Int)=10
   ·simp only[sA,sB,seval,g0,g1,hlt',str_idx hc,h1,h2,wrap1 j om]
    exact⟨_,om,j+1,om,rfl,by trivial,rfl,fwd (by simp[h2]),by trivial⟩
   by_cases h3:(c.toNat:Int)=13
   ·simp only[sA,sB,seval,g0,g1,hlt',str_idx hc,h1,h2,h3,wrap1 j om]
    exact⟨_,om,j+1,om,rfl,by trivial,rfl,fwd (by simp[h3]),by trivial⟩
   by_cases h4:(c.toNat:Int)=32
   ·simp only[sA,sB,seval,g0,g1,hlt',str_idx hc,h1,h2,h3,h4,wrap1 j om]
    exact⟨_,om,j+1,om,rfl,by trivial,rfl,fwd (by simp[h4]),by trivial⟩
   simp only[sA,sB,seval,g0,g1,hlt',str_idx hc,h35,h1,h2,h3,h4]
   exact⟨by rw[stp (by simp[h1,h2,h3,h4])],by trivial⟩
 ·have hlt':¬(j:Int)<(s.length:Int):=om
  simp only[sA,sB,seval,g0,g1,hlt']
  exact⟨by rw[hA,skip_end om],by trivial⟩
theorem in_spec(h55:natT.is 160=false){n:Nat}{H:AHeap}{t:AVal}{l:List Bs}(h:Cel n H t (l.map .str))(hl:l.length≤4611686018427387904)(s:Bs) :
  ACalls Tryz.prog natT 160 [.str s,t] H fun v H'=>v=.bool (decide (s∈l))∧H=H':=by
 refine acalls_ofN h55 za160 rfl ?_
 simp only[c160,sA,sB,seval]
 refine aw_loop (fun q (T:Env) H'=>∃i:Nat,i≤l.length∧q=l.length-i∧T 0=.str s∧T 1=t∧T 5=.int .i64 (i:Int)∧(¬s∈l.take i)∧H=H') l.length ⟨0,Nat.zero_le _,rfl,rfl,rfl,rfl,by simp,rfl⟩ ?_
 rintro q T _ ⟨i,hi,rfl,g0,g1,g5,hA,rfl⟩
 by_cases hlt:i<l.length
 ·have hlt':(i:Int)<(l.length:Int):=om
  obtain⟨x,hx⟩:=isSome_of_lt hlt
  have e1:=h.idx .i64 (i:=i) (by simpa using hlt)
  have e2:=h.load (i:=i) (x:=.str x) (by simp[hx])
  by_cases hxs:x=s
  ·subst hxs
   simp only[sA,sB,seval,g0,g1,g5,h.len,List.length_map,hlt',e1,e2]
   exact⟨by rw[decide_eq_true (List.mem_of_getElem? hx)],by trivial⟩
  ·simp only[sA,sB,seval,g0,g1,g5,h.len,List.length_map,hlt',e1,e2,hxs,wrap1 i om]
   refine⟨_,om,i+1,om,rfl,by trivial,by trivial,rfl,?_,by trivial⟩
   rw[List.take_add_one,hx]
   intro hm
   rcases List.mem_append.1 hm with hm | hm
   ·exact hA hm
   ·simp at hm; exact hxs hm.symm
 ·obtain rfl:i=l.length:=om
  rw[List.take_length]at hA
  simp only[sA,sB,seval,g0,g1,g5,h.len,List.length_map,Int.lt_irrefl]
  exact⟨by rw[decide_eq_false hA],by trivial⟩
open Go.Abs Go.Abs.S
structure NWo(N:ANat):Prop where
 no:∀f,(f≠153∧f≠19)→N.is f=false
 yes:N.is 153=true
 clone:∀(s:Bs) (H:AHeap),s.length≤281474976710656→N.run 153 [.str s] H=some (.str s,H)
theorem clone_spec(hN:NWo natT){s:Bs}(hs:s.length≤281474976710656){H:AHeap}:ACalls Tryz.prog natT 109 [.str s] H fun v H'=>v=.str s∧H=H':=by
 refine acalls_ofN (hN.no _ dD) za109 rfl ?_
 simp only[c109,sA,sB,seval]
 refine acalls_nat hN.yes (hN.clone s H hs) ?_
 simp only[sA,sB,seval]
 exact⟨by trivial,by trivial⟩
def sub(s:Bs)(i e:Nat):Bs:=(s.drop i).take (e-i)
def wdL(k:Nat)(S:Bs)(n line at_ en:Nat):List AVal:=[.int .u8 (k:Int),.str S,.int .i64 (n:Int),.int .i64 (line:Int),.int .i64 (at_:Int),.int .i64 (en:Int)]
def flL(e line:Nat):List AVal:=[.int .i64 (e:Int),.int .i64 (line:Int)]
structure Tok where
 k:Nat
 S:Bs
 n:Nat
 e:Nat
def oneF(s:Bs)(i:Nat):Option Tok:=match s[i]? with
 | none=>none
 | some c=>
  if dig c=true then (match saysF (sub s i (numF s i)) with | some n=>some ⟨1,[],n,numF s i⟩ | none=>none)
  else if beg c=true then some ⟨if keyF (sub s i (runF bgd s i))=true then 3 else 2,sub s i (runF bgd s i),0,runF bgd s i⟩
  else if signF (s.drop i)=[] then none else some ⟨4,signF (s.drop i),0,i+(signF (s.drop i)).length⟩
def oneA(i:Nat):Option Tok→List AVal
 | some t=>wdL t.k t.S t.n 0 i t.e
 | none=>wdL 0 [] 0 0 0 0
theorem numF_pos{s:Bs}{i:Nat}{c:UInt8}(h:s[i]?=some c):i<numF s i↔dig c=true:=by
 cases hc:dig c with
 | false=>
  have h1:=runF_no h hc
  have:numF s i=i:=by rw[numF,h1,if_pos (.inl rfl)]
  rw[this]; simp
 | true=>
  have h1:=runF_go h hc
  have h2:=runF_ge dig s (i+1)
  have h3:i<numF s i:=by
   unfold numF
   split
   ·omega
   ·split <;> omega
  simp[h3]
def signsL:List Bs:=[[38,38],[124,124],[61,61],[33,61],[60,61],[62,61],[60],[62],[43],[45],[42],[47],[33],[40],[41],[123],[125],[44],[59],[61]]
theorem signs_split:signsL=twos++ones.map (fun c=>[c]):=by decide
theorem signF_find{c:UInt8}{r:Bs}:signF (c::r)=((signsL.find? (pre (c::r))).getD []):=by
 rw[signs_split,List.find?_append,signF]
 cases twos.find? (pre (c::r)) with
 | some t=>rfl
 | none=>
  simp only[Option.none_or]
  have key:∀l:Bs,(if c∈l then [c] else [])=((l.map fun c=>[c]).find? (pre (c::r))).getD []:=by
   intro l
   induction l with
   | nil=>simp
   | cons d l ih=>
    have hp:pre (c::r) [d]=decide (c=d):=by simp[pre]
    rw[List.map_cons]
    by_cases h:c=d
    ·subst h
     rw[List.find?_cons_of_pos (by rw[hp]; simp)]
     simp
    ·rw[List.find?_cons_of_neg (by rw[hp]; simpa using h),← ih]
     simp[h]
  exact key ones
theorem signsL_ne:∀t∈signsL,t≠[]:=by decide
theorem pre_iff{s t:Bs}{i:Nat}(hi:i≤s.length):pre (s.drop i) t=(decide (i+t.length≤s.length)&&decide ((s.drop i).take t.length=t)):=by
 unfold pre
 by_cases h:i+t.length≤s.length
 ·simp[h]
 ·have:¬(s.drop i).take t.length=t:=by
   intro e
   have:=congrArg List.length e
   simp at this; omega
  simp[this]
theorem signF_le{s:Bs}{i:Nat}(hi:i≤s.length):i+(signF (s.drop i)).length≤s.length:=by
 rcases Nat.lt_or_ge i s.length with h | h
 ·obtain⟨c,hc⟩:=isSome_of_lt h
  rw[drop_some hc,signF_find,← drop_some hc]
  cases hf:signsL.find? (pre (s.drop i)) with
  | none=>simpa using hi
  | some t=>
   have:=List.find?_some hf
   rw[pre_iff hi]at this
   simp only[Bool.and_eq_true,decide_eq_true_eq]at this
   exact this.1
 ·rw[List.drop_eq_nil_of_le h]
  have:signF []=[]:=by decide
  rw[this]; simpa using hi
theorem wdL_one(k:Nat)(S:Bs)(n line at_ en:Nat):(wdL k S n line at_ en).all AVal.one=true:=rfl
theorem wdL_len(k:Nat)(S:Bs)(n line at_ en:Nat):(wdL k S n line at_ en).length=6:=rfl
theorem keys_mem(s:Bs):decide (s∈[[108,101,116],[115,101,116],[105,102],[101,108,115,101],[119,104,105,108,101],[114,101,116,117,114,110]])=keyF s:=by
 rw[Bool.eq_iff_iff]; simp[keyF]
def ZW:List AVal:=[.int .u8 0,.str [],.int .i64 0,.int .i64 0,.int .i64 0,.int .i64 0]
theorem bw_none:aBuild ZW []=some (.agg (wdL 0 [] 0 0 0 0)):=rfl
theorem bw_num(n i e:Nat):aBuild ZW [(0,1,.int .u8 1),(2,1,.int .i64 (n:Int)),(4,1,.int .i64 (i:Int)),(5,1,.int .i64 (e:Int))]=some (.agg (wdL 1 [] n 0 i e)):=rfl
theorem bw_name(S:Bs)(i e:Nat):aBuild ZW [(0,1,.int .u8 2),(1,1,.str S),(4,1,.int .i64 (i:Int)),(5,1,.int .i64 (e:Int))]=some (.agg (wdL 2 S 0 0 i e)):=rfl
theorem bw_sign(S:Bs)(i e:Nat):aBuild ZW [(0,1,.int .u8 4),(1,1,.str S),(4,1,.int .i64 (i:Int)),(5,1,.int .i64 (e:Int))]=some (.agg (wdL 4 S 0 0 i e)):=rfl
theorem bw_at(i line:Nat):aBuild ZW [(4,1,.int .i64 (i:Int)),(5,1,.int .i64 (i:Int)),(3,1,.int .i64 (line:Int))]=some (.agg (wdL 0 [] 0 line i i)):=rfl
theorem bw_end(i line:Nat):aBuild ZW [(0,1,.int .u8 5),(3,1,.int .i64 (line:Int)),(4,1,.int .i64 (i:Int)),(5,1,.int .i64 (i:Int))]=some (.agg (wdL 5 [] 0 line i i)):=rfl
theorem find_at{α:Type}{p:α→Bool}{l:List α}{k:Nat}{x:α}(h:l[k]?=some x)(hn:(l.take k).find? p=none)(hp:p x=true):l.find? p=some x:=by
 have hlt:=(List.getElem?_eq_some_iff.1 h).1
 have e:l=l.take k++x::l.drop (k+1):=by
  rw[List.getElem?_eq_getElem hlt]at h
  simp only[sJ]at h
  rw[← h,← List.drop_eq_getElem_cons hlt,List.take_append_drop]
 rw[e,List.find?_append,hn,Option.none_or,List.find?_cons_of_pos hp]
theorem find_next{α:Type}{p:α→Bool}{l:List α}{k:Nat}{x:α}(h:l[k]?=some x)(hn:(l.take k).find? p=none)(hp:p x=false):(l.take (k+1)).find? p=none:=by
 rw[List.take_add_one,h,List.find?_append,hn,Option.none_or]
 simp[hp]
theorem one_spec(hN:NWo natT){s:Bs}{i:Nat}(hi:i<s.length)(hs:s.length≤1099511627776){H:AHeap} :
  ACalls Tryz.prog natT 114 [.str s,.int .i64 (i:Int)] H fun v H'=>v=.agg (oneA i (oneF s i))∧Ext H.next H H':=by
 refine acalls_ofN (hN.no _ dD) za114 rfl ?_
 obtain⟨c,hc⟩:=isSome_of_lt hi
 obtain⟨H1,m1,r1,n1,k1⟩:=row_newL H ZW (n:=6) rfl
 have hE1:Ext H.next H H1:=Ext.of_new n1 k1 rL
 have hz:([.int .u8 0,.str [],.int .i64 0,.int .i64 0,.int .i64 0,.int .i64 0]:List AVal)=ZW:=rfl
 simp only[c114,sA,sB,seval,hz,m1]
 refine (rnumeral_spec (hN.no _ dD) (hN.no _ dD) (i:=i) om om).mono ?_
 rintro v _ ⟨rfl,rfl⟩
 have hle:=numF_le (s:=s) (i:=i) om
 have hge:=numF_ge s i
 have hpos:=numF_pos hc
 have hone:oneF s i=if dig c=true then (match saysF (sub s i (numF s i)) with | some n=>some ⟨1,[],n,numF s i⟩ | none=>none)
  else if beg c=true then some ⟨if keyF (sub s i (runF bgd s i))=true then 3 else 2,sub s i (runF bgd s i),0,runF bgd s i⟩
  else if signF (s.drop i)=[] then none else some ⟨4,signF (s.drop i),0,i+(signF (s.drop i)).length⟩:=by rw[oneF,hc]
 rw[hone]
 by_cases hd:dig c=true
 ·have hlt:=hpos.2 hd
  rw[if_pos hd]
  have c1:(0:Int)<((numF s i-i:Nat):Int):=om
  have w1:IntKind.i64.wrap ((i:Int)+((numF s i-i:Nat):Int))=(numF s i:Int):=by rw[wrap64 om om]; omega
  have s1:aSlStr (.str s) (some (.int .i64 (i:Int))) (some (.int .i64 (numF s i:Int)))=some (.str (sub s i (numF s i))):=str_sl om om
  simp only[sA,sB,seval,c1,w1,s1]
  refine (rnumber_spec (hN.no _ dD) (hN.no _ dD) (hN.no _ dD) (by simp[sub]; omega)).mono ?_
  rintro v H2 ⟨rfl,hE2⟩
  have hE12:=hE1.trans (hE2.less om)
  have r2:=r1.same (hE2.old _ om)
  cases hn:saysF (sub s i (numF s i)) with
  | none=>
   obtain⟨H3,m3,r3,n3,k3⟩:=row_storeN r2 (n:=6) rfl (wdL_len 0 [] 0 0 0 0) (wdL_one 0 [] 0 0 0 0)
   simp only[told,sA,sB,seval,ext_0,ext_1,bw_none,m3]
   refine fin_c1 _ _ _ _ (v:=.agg (wdL 0 [] 0 0 0 0)) (by simp only[sA,sB,seval]; exact row_loadN r3 rfl) ⟨by trivial,⟨by have:=hE12.next; omega,fun c hc=>by rw[k3 c om,hE12.old c hc]⟩⟩
  | some n=>
   obtain⟨H3,m3,r3,n3,k3⟩:=row_storeN r2 (n:=6) rfl (wdL_len 1 [] n 0 i (numF s i)) (wdL_one 1 [] n 0 i (numF s i))
   simp only[told,sA,sB,seval,ext_0,ext_1,w1,bw_num,m3]
   refine fin_c1 _ _ _ _ (v:=.agg (wdL 1 [] n 0 i (numF s i))) (by simp only[sA,sB,seval]; exact row_loadN r3 rfl) ⟨by trivial,⟨by have:=hE12.next; omega,fun c hc=>by rw[k3 c om,hE12.old c hc]⟩⟩
 ·rw[if_neg hd]
  have hn0:numF s i-i=0:=by
   have:¬i<numF s i:=fun h=>hd (hpos.1 h)
   omega
  have c1:¬(0:Int)<((numF s i-i:Nat):Int):=om
  simp only[sA,sB,seval,c1,str_idx hc]
  refine (letter_spec (hN.no _ dD) c _).mono ?_
  rintro v _ ⟨rfl,rfl⟩
  by_cases hb:beg c=true
  ·rw[if_pos hb,hb]
   simp only[sA,sB,seval]
   refine aw_cut (fun (T:Env) H'=>T 0=.str s∧T 1=.int .i64 (i:Int)∧T 4=cellR H.next 6 0∧T 8=.int .i64 (runF bgd s i:Int)∧H1=H') (calls_mono _ _) ?_ ?_
   ·refine aw_loop (fun q (T:Env) H'=>∃j:Nat,j≤s.length∧q=s.length-j∧T 0=.str s∧T 1=.int .i64 (i:Int)∧T 4=cellR H.next 6 0∧T 8=.int .i64 (j:Int)∧runF bgd s i=runF bgd s j∧H1=H') (s.length-i) ⟨i,om,rfl,by simp only[sA,sB,seval],by simp only[sA,sB,seval],by simp only[sA,sB,seval],by simp only[sA,sB,seval],rfl,rfl⟩ ?_
    rintro q T _ ⟨j,hj,rfl,g0,g1,g4,g8,hA,rfl⟩
    by_cases hlt:j<s.length
    ·obtain⟨d,hdj⟩:=isSome_of_lt hlt
     have hlt':(j:Int)<(s.length:Int):=om
     simp only[sA,sB,seval,g0,g1,g4,g8,hlt',str_idx hdj]
     refine (letter_spec (hN.no _ dD) d _).mono ?_
     rintro v _ ⟨rfl,rfl⟩
     cases hbd:beg d with
     | true=>
      have hg:bgd d=true:=by simp[bgd,hbd]
      simp only[sA,sB,seval,g0,g1,g4,g8,wrap1 j om]
      exact⟨_,om,j+1,om,rfl,by trivial,by trivial,by trivial,by trivial,by rw[hA,runF_go hdj hg],by trivial⟩
     | false=>
      simp only[sA,sB,seval,g0,g1,g4,g8,str_idx hdj]
      refine (rdigit_spec (hN.no _ dD) d _).mono ?_
      rintro v _ ⟨rfl,rfl⟩
      cases hdd:dig d with
      | true=>
       have hg:bgd d=true:=by simp[bgd,hdd]
       simp only[sA,sB,seval,g0,g1,g4,g8,wrap1 j om]
       exact⟨_,om,j+1,om,rfl,by trivial,by trivial,by trivial,by trivial,by rw[hA,runF_go hdj hg],by trivial⟩
      | false=>
       have hg:bgd d=false:=by simp[bgd,hbd,hdd]
       simp only[sA,sB,seval,g0,g1,g4,g8]
       exact⟨by trivial,by trivial,by trivial,by rw[hA,runF_no hdj hg],by trivial⟩
    ·have hlt':¬(j:Int)<(s.length:Int):=om
     simp only[sA,sB,seval,g0,g1,g4,g8,hlt']
     exact⟨by trivial,by trivial,by trivial,by rw[hA,runF_end om],by trivial⟩
   ·rintro T _ ⟨g0,g1,g4,g8,rfl⟩
    have hje:=runF_le (p:=bgd) (s:=s) (i:=i) om
    have hjg:=runF_ge bgd s i
    have s1:aSlStr (.str s) (some (.int .i64 (i:Int))) (some (.int .i64 (runF bgd s i:Int)))=some (.str (sub s i (runF bgd s i))):=str_sl hjg hje
    generalize sub s i (runF bgd s i)=S at *
    generalize runF bgd s i=j at *
    obtain⟨H2,m2,r2,n2,k2⟩:=row_newL H1 ZW (n:=6) rfl
    obtain⟨H3,m3,r3,n3,k3⟩:=row_storeN r2 (n:=6) rfl (wdL_len 2 S 0 0 i j) (wdL_one 2 S 0 0 i j)
    have b4:aBuildSl 6 [.str []] H3 [(0,1,.str [108,101,116]),(1,1,.str [115,101,116]),(2,1,.str [105,102]),(3,1,.str [101,108,115,101]),(4,1,.str [119,104,105,108,101]),(5,1,.str [114,101,116,117,114,110])]=some (slR H3.next 6 (.known 6),H3.push (.cells ((([[108,101,116],[115,101,116],[105,102],[101,108,115,101],[119,104,105,108,101],[114,101,116,117,114,110]]:List Bs).map .str)) 0 false)):=rfl
    have C4:=(row_push H3 (([[108,101,116],[115,101,116],[105,102],[101,108,115,101],[119,104,105,108,101],[114,101,116,117,114,110]]:List Bs).map .str)).cel (r:=.known 6) (n:=6) rfl (Nat.lt_succ_self _)
    have l1:=row_load r3 (n:=6) rfl (i:=1) (x:=.str S) rfl
    simp only[sA,sB,seval,g0,g1,g4,g8,s1,bw_name,hz,m2,m3,fld0,l1,b4]
    refine (in_spec (hN.no _ dD) C4 dD S).mono ?_
    rintro v _ ⟨rfl,rfl⟩
    rw[keys_mem]
    generalize hH4:H3.push (.cells ((([[108,101,116],[115,101,116],[105,102],[101,108,115,101],[119,104,105,108,101],[114,101,116,117,114,110]]:List Bs).map .str)) 0 false)=H4
    have n4:H4.next=H3.next+1:=by rw[← hH4]; rfl
    have k4:∀c,c<H3.next→H4.get c=H3.get c:=fun c hc=>by rw[← hH4]; exact get_push_lt hc
    have r4:=r3.same (k4 _ om)
    have r1':Row H4 H.next ZW:=r1.same (by rw[k4 _ om,k3 _ om,k2 _ om])
    have hE4:Ext H.next H H4:=⟨om,fun c hc=>by rw[k4 c om,k3 c om,k2 c om,k1 c om]⟩
    clear b4 C4 hH4
    cases hk:keyF S with
    | true=>
     obtain⟨H5,m5,r5,n5,k5⟩:=row_store r4 (n:=6) rfl (i:=0) om (x:=.int .u8 3) rfl
     have e5:(wdL 2 S 0 0 i j).set 0 (.int .u8 3)=wdL 3 S 0 0 i j:=rfl
     rw[e5]at r5
     have r1'':=r1'.same (k5 _ om)
     obtain⟨H6,m6,r6,n6,k6⟩:=row_storeN r1'' (n:=6) rfl (wdL_len 3 S 0 0 i j) (wdL_one 3 S 0 0 i j)
     simp only[sA,sB,seval,g4,fld0,m5,row_loadN r5 (n:=6) rfl,m6]
     refine fin_c1 _ _ _ _ (v:=.agg (wdL 3 S 0 0 i j)) (by simp only[sA,sB,seval,g4]; exact row_loadN r6 rfl) ⟨by simp only[oneA,if_true],⟨om,fun c hc=>by rw[k6 c om,k5 c om,hE4.old c hc]⟩⟩
    | false=>
     obtain⟨H6,m6,r6,n6,k6⟩:=row_storeN r1' (n:=6) rfl (wdL_len 2 S 0 0 i j) (wdL_one 2 S 0 0 i j)
     simp only[sA,sB,seval,g4,row_loadN r4 (n:=6) rfl,m6]
     refine fin_c1 _ _ _ _ (v:=.agg (wdL 2 S 0 0 i j)) (by simp only[sA,sB,seval,g4]; exact row_loadN r6 rfl) ⟨by simp[oneA],⟨om,fun c hc=>by rw[k6 c om,hE4.old c hc]⟩⟩
  ·rw[if_neg hb]
   have hbf:beg c=false:=by simpa using hb
   rw[hbf]
   have hsg:signF (s.drop i)=(signsL.find? (pre (s.drop i))).getD []:=by rw[drop_some hc]; exact signF_find
   have b2:aBuildSl 20 [.str []] H1 [(0,1,.str [38,38]),(1,1,.str [124,124]),(2,1,.str [61,61]),(3,1,.str [33,61]),(4,1,.str [60,61]),(5,1,.str [62,61]),(6,1,.str [60]),(7,1,.str [62]),(8,1,.str [43]),(9,1,.str [45]),(10,1,.str [42]),(11,1,.str [47]),(12,1,.str [33]),(13,1,.str [40]),(14,1,.str [41]),(15,1,.str [123]),(16,1,.str [125]),(17,1,.str [44]),(18,1,.str [59]),(19,1,.str [61])]=some (slR H1.next 20 (.known 20),H1.push (.cells (signsL.map .str) 0 false)):=rfl
   have C2:=(row_push H1 (signsL.map .str)).cel (r:=.known 20) (n:=20) rfl (Nat.lt_succ_self _)
   simp only[sA,sB,seval,b2]
   generalize hH2:H1.push (.cells (signsL.map .str) 0 false)=H2 at *
   have n2:H2.next=H1.next+1:=by rw[← hH2]; rfl
   have k2:∀c,c<H1.next→H2.get c=H1.get c:=fun c hc=>by rw[← hH2]; exact get_push_lt hc
   have r2:Row H2 H.next ZW:=r1.same (k2 _ om)
   have hE2:Ext H.next H H2:=⟨om,fun c hc=>by rw[k2 c om,k1 c om]⟩
   clear b2
   have hll:signsL.length=20:=rfl
   refine aw_loop (fun q (T:Env) H'=>∃k:Nat,k≤20∧q=20-k∧T 0=.str s∧T 1=.int .i64 (i:Int)∧T 4=cellR H.next 6 0∧T 10=slR H1.next 20 (.known 20)∧T 11=.int .i64 (k:Int)∧(signsL.take k).find? (pre (s.drop i))=none∧H2=H') 20 ⟨0,Nat.zero_le _,rfl,by simp only[sA,sB,seval],by simp only[sA,sB,seval],by simp only[sA,sB,seval],by simp only[sA,sB,seval],by simp only[sA,sB,seval]; try rfl,rfl,rfl⟩ ?_
   rintro q T _ ⟨k,hk,rfl,g0,g1,g4,g10,g11,hA,rfl⟩
   by_cases hlt:k<20
   ·have hlt':(k:Int)<20:=om
    obtain⟨t,ht⟩:=isSome_of_lt (l:=signsL) (i:=k) om
    have e1:=C2.idx .i64 (i:=k) (by rw[List.length_map,hll]; exact hlt)
    have e2:=C2.load (i:=k) (x:=.str t) (by simp[ht])
    have htl:t.length≤2:=by
     have:∀t∈signsL,t.length≤2:=by decide
     exact this t (List.mem_of_getElem? ht)
    have w1:=wrapN i t.length om
    have hpre:=pre_iff (s:=s) (t:=t) (i:=i) om
    have hl:=C2.len
    by_cases c1:i+t.length≤s.length
    ·have c1':((i+t.length:Nat):Int)≤(s.length:Int):=om
     have s1:=str_sl (s:=s) (l:=i) (h:=i+t.length) om c1
     rw[Nat.add_sub_cancel_left]at s1
     by_cases c2:(s.drop i).take t.length=t
     ·have hp:pre (s.drop i) t=true:=by rw[hpre]; simp[c1,c2]
      have hf:=find_at ht hA hp
      rw[hf]at hsg
      simp only[Option.getD_some]at hsg
      have hne:=signsL_ne t (List.mem_of_getElem? ht)
      rw[hsg,if_neg hne]
      obtain⟨H3,m3,r3,n3,k3⟩:=row_storeN r2 (n:=6) rfl (wdL_len 4 t 0 0 i (i+t.length)) (wdL_one 4 t 0 0 i (i+t.length))
      simp only[sA,sB,seval,g0,g1,g4,g10,g11,row_len,hlt',e1,e2,w1,c1',s1,c2,bw_sign,m3]
      refine fin_c1 _ _ _ _ (v:=.agg (wdL 4 t 0 0 i (i+t.length))) (by simp only[sA,sB,seval,g4]; exact row_loadN r3 rfl) ⟨by trivial,⟨om,fun c hc=>by rw[k3 c om,hE2.old c hc]⟩⟩
     ·have hp:pre (s.drop i) t=false:=by rw[hpre]; simp[c2]
      simp only[sA,sB,seval,g0,g1,g4,g10,g11,row_len,hlt',e1,e2,w1,c1',s1,c2,wrap1 k om]
      exact⟨_,om,k+1,om,rfl,by trivial,by trivial,by trivial,by trivial,rfl,find_next ht hA hp,by trivial⟩
    ·have c1':¬((i+t.length:Nat):Int)≤(s.length:Int):=om
     have hp:pre (s.drop i) t=false:=by rw[hpre]; simp[c1]
     simp only[sA,sB,seval,g0,g1,g4,g10,g11,row_len,hlt',e1,e2,w1,c1',wrap1 k om]
     exact⟨_,om,k+1,om,rfl,by trivial,by trivial,by trivial,by trivial,rfl,find_next ht hA hp,by trivial⟩
   ·obtain rfl:k=20:=om
    rw[List.take_of_length_le om]at hA
    rw[hA,Option.getD_none]at hsg
    rw[hsg,if_pos rfl]
    obtain⟨H3,m3,r3,n3,k3⟩:=row_storeN r2 (n:=6) rfl (wdL_len 0 [] 0 0 0 0) (wdL_one 0 [] 0 0 0 0)
    simp only[sA,sB,seval,g0,g1,g4,g10,g11,row_len,Int.lt_irrefl,hz,bw_none,m3]
    refine fin_c1 _ _ _ _ (v:=.agg (wdL 0 [] 0 0 0 0)) (by simp only[sA,sB,seval,g4]; exact row_loadN r3 rfl) ⟨by trivial,⟨om,fun c hc=>by rw[k3 c om,hE2.old c hc]⟩⟩
open Go.Abs Go.Abs.S
def pairA(w f:List AVal):AVal:=.tuple [.agg w,.agg f]
def nextA(s:Bs)(p:Int):AVal:=
 if 16384<s.length then pairA (wdL 0 [] 0 0 0 0) (flL 3 0)
 else if p<0∨(s.length:Int)<p then pairA (wdL 0 [] 0 0 0 0) (flL 2 0)
 else if skipF s p.toNat=s.length then pairA (wdL 5 [] 0 (lineF s (skipF s p.toNat)) (skipF s p.toNat) (skipF s p.toNat)) (flL 0 0)
 else match oneF s (skipF s p.toNat) with
  | some t=>pairA (wdL t.k t.S t.n (lineF s (skipF s p.toNat)) (skipF s p.toNat) t.e) (flL 0 0)
  | none=>pairA (wdL 0 [] 0 0 0 0) (flL 100 (lineF s (skipF s p.toNat)))
theorem two_rows{H:AHeap}{b:Nat}{l m:List AVal}(h6:Row H b l)(hl:l.length=6)(h2:Row H (b+1) m)(hm:m.length=2){xs ys:List AVal}(hx:xs.length=6)(ox:xs.all AVal.one=true)(hy:ys.length=2)(oy:ys.all AVal.one=true) :
  ∃H1 H2,oStore 6 H (cellR b 6 0) (.agg xs)=some H1∧oStore 2 H1 (cellR (b+1) 2 0) (.agg ys)=some H2∧Row H2 b xs∧Row H2 (b+1) ys∧H2.next=H.next∧(∀c,c<b→H2.get c=H.get c)∧∀c,c≠b→H1.get c=H.get c:=by
 obtain⟨H1,m1,r1,n1,k1⟩:=row_storeN h6 hl hx ox
 obtain⟨H2,m2,r2,n2,k2⟩:=row_storeN (h2.same (k1 _ om)) hm hy oy
 exact⟨H1,H2,m1,m2,r1.same (k2 _ om),r2,om,fun c hc=>by rw[k2 c om,k1 c om],k1⟩
theorem flL_one(e l:Nat):(flL e l).all AVal.one=true:=rfl
theorem flL_len(e l:Nat):(flL e l).length=2:=rfl
abbrev Z2:List AVal:=[.int .i64 0,.int .i64 0]
theorem new_two(H:AHeap):∃H1 H2,oNew H ZW=(cellR H.next 6 0,H1)∧oNew H1 [.int .i64 0,.int .i64 0]=(cellR (H.next+1) 2 0,H2)∧Row H2 H.next ZW∧Row H2 (H.next+1) Z2∧H2.next=H.next+2∧∀c,c<H.next→H2.get c=H.get c:=by
 obtain⟨H1,m1,r1,n1,k1⟩:=row_newL H ZW (n:=6) rfl
 obtain⟨H2,m2,r2,n2,k2⟩:=row_newL H1 Z2 (n:=2) rfl
 rw[n1]at m2 r2
 exact⟨H1,H2,m1,m2,r1.same (k2 _ om),r2,om,fun c hc=>by rw[k2 c om,k1 c om]⟩
theorem rnext_spec(hN:NWo natT){s:Bs}{p:Int}(h1:-9223372036854775808≤p)(h2:p≤9223372036854775807){H:AHeap} :
  ACalls Tryz.prog natT 71 [.str s,.int .i64 p] H fun v H'=>v=nextA s p∧Ext H.next H H':=by
 refine acalls_ofN (hN.no _ dD) za71 rfl ?_
 obtain⟨H1,H2,m1,m2,r6,r2,n2,k2⟩:=new_two H
 have hz:([.int .u8 0,.str [],.int .i64 0,.int .i64 0,.int .i64 0,.int .i64 0]:List AVal)=ZW:=rfl
 have g3:aBuild [.int .i64 0,.int .i64 0] [(0,1,.int .i64 3)]=some (.agg (flL 3 0)):=rfl
 have g2:aBuild [.int .i64 0,.int .i64 0] [(0,1,.int .i64 2)]=some (.agg (flL 2 0)):=rfl
 have g0:aBuild [.int .i64 0,.int .i64 0] []=some (.agg (flL 0 0)):=rfl
 have E2:Ext H.next H H2:=⟨om,fun c hc=>k2 c hc⟩
 have fini:∀(T:Env) (K:AHeap) (xs ys:List AVal),T 4=cellR H.next 6 0→T 5=cellR (H.next+1) 2 0→Row K H.next xs→Row K (H.next+1) ys→xs.length=6→ys.length=2→pairA xs ys=nextA s p→Ext H.next H K →
   fin [.cell true 6 4,.cell true 2 5] (fun v H'=>v=nextA s p∧Ext H.next H H') .ret T K:=by
  intro T K xs ys t4 t5 q6 q2 lx ly he hE
  refine fin_c2 _ _ _ _ _ _ _ (v:=.agg xs) (v':=.agg ys) (by rw[t4]; exact row_loadN q6 lx) (by rw[t5]; exact row_loadN q2 ly) ⟨he,hE⟩
 simp only[c71,sA,sB,seval,hz,m1,m2]
 by_cases a1:16384<s.length
 ·have a1':(16384:Int)<(s.length:Int):=om
  obtain⟨H3,H4,m3,m4,q6,q2,n4,k4,_⟩:=two_rows r6 rfl r2 rfl (wdL_len 0 [] 0 0 0 0) (wdL_one 0 [] 0 0 0 0) (flL_len 3 0) (flL_one 3 0)
  simp only[sA,sB,seval,a1',hz,bw_none,g3,m3,m4]
  refine fini _ _ _ _ (by simp only[sA,sB,seval]) (by simp only[sA,sB,seval]) q6 q2 rfl rfl (by rw[nextA,if_pos a1]) ⟨om,fun c hc=>by rw[k4 c hc,k2 c hc]⟩
 have a1':¬(16384:Int)<(s.length:Int):=om
 by_cases a2:p<0
 ·obtain⟨H3,H4,m3,m4,q6,q2,n4,k4,_⟩:=two_rows r6 rfl r2 rfl (wdL_len 0 [] 0 0 0 0) (wdL_one 0 [] 0 0 0 0) (flL_len 2 0) (flL_one 2 0)
  simp only[sA,sB,seval,a1',a2,hz,bw_none,g2,m3,m4]
  refine fini _ _ _ _ (by simp only[sA,sB,seval]) (by simp only[sA,sB,seval]) q6 q2 rfl rfl (by rw[nextA,if_neg a1,if_pos (.inl a2)]) ⟨om,fun c hc=>by rw[k4 c hc,k2 c hc]⟩
 by_cases a3:(s.length:Int)<p
 ·obtain⟨H3,H4,m3,m4,q6,q2,n4,k4,_⟩:=two_rows r6 rfl r2 rfl (wdL_len 0 [] 0 0 0 0) (wdL_one 0 [] 0 0 0 0) (flL_len 2 0) (flL_one 2 0)
  simp only[sA,sB,seval,a1',a2,a3,hz,bw_none,g2,m3,m4]
  refine fini _ _ _ _ (by simp only[sA,sB,seval]) (by simp only[sA,sB,seval]) q6 q2 rfl rfl (by rw[nextA,if_neg a1,if_pos (.inr a3)]) ⟨om,fun c hc=>by rw[k4 c hc,k2 c hc]⟩
 obtain⟨i,rfl⟩:∃i:Nat,p=(i:Int):=⟨p.toNat,om⟩
 have hd:nextA s (i:Int)=if skipF s i=s.length then pairA (wdL 5 [] 0 (lineF s (skipF s i)) (skipF s i) (skipF s i)) (flL 0 0) else match oneF s (skipF s i) with
  | some t=>pairA (wdL t.k t.S t.n (lineF s (skipF s i)) (skipF s i) t.e) (flL 0 0)
  | none=>pairA (wdL 0 [] 0 0 0 0) (flL 100 (lineF s (skipF s i))):=by
  rw[nextA,if_neg a1,if_neg (by rintro (h | h); exact a2 h; exact a3 h),Int.toNat_natCast]
 simp only[sA,sB,seval,a1',a2,a3]
 refine (passed_spec (hN.no _ dD) (i:=i) om om).mono ?_
 rintro v _ ⟨rfl,rfl⟩
 have hj1:=skipF_le s i
 rw[hd]at fini
 rw[hd]
 generalize skipF s i=j at *
 by_cases hj:j=s.length
 ·have hj':(j:Int)=(s.length:Int):=om
  simp only[sA,sB,seval,hj']
  rw[← hj']
  refine (line_spec (hN.no _ dD) (i:=j) hj1 om).mono ?_
  rintro v _ ⟨rfl,rfl⟩
  obtain⟨H3,H4,m3,m4,q6,q2,n4,k4,_⟩:=two_rows r6 rfl r2 rfl (wdL_len 5 [] 0 (lineF s j) j j) (wdL_one 5 [] 0 (lineF s j) j j) (flL_len 0 0) (flL_one 0 0)
  simp only[sA,sB,seval,← hj',hz,bw_end,g0,m3,m4]
  refine fini _ _ _ _ (by simp only[sA,sB,seval]) (by simp only[sA,sB,seval]) q6 q2 rfl rfl (by rw[if_pos hj]) ⟨om,fun c hc=>by rw[k4 c hc,k2 c hc]⟩
 have hj':¬(j:Int)=(s.length:Int):=om
 rw[if_neg hj]at fini
 rw[if_neg hj]
 simp only[sA,sB,seval,hj']
 refine (one_spec hN (i:=j) om om).mono ?_
 rintro v H3 ⟨rfl,hE3⟩
 have q6:=r6.same (hE3.old _ om)
 have q2:=r2.same (hE3.old _ om)
 obtain⟨H4,m4,q4,n4,k4⟩:=row_newL H3 ZW (n:=6) rfl
 have ho:(oneA j (oneF s j)).length=6∧(oneA j (oneF s j)).all AVal.one=true:=by cases oneF s j <;> exact⟨rfl,rfl⟩
 obtain⟨H5,m5,q5,n5,k5⟩:=row_storeN q4 (n:=6) rfl ho.1 ho.2
 have p6:Row H5 H.next ZW:=q6.same (by rw[k5 _ (by have:=hE3.next; omega),k4 _ (by have:=hE3.next; omega)])
 have p2:Row H5 (H.next+1) Z2:=q2.same (by rw[k5 _ (by have:=hE3.next; omega),k4 _ (by have:=hE3.next; omega)])
 have E5:Ext H.next H H5:=⟨by have:=hE3.next; omega,fun c hc=>by have:=hE3.next; rw[k5 c om,k4 c om,hE3.old c om,k2 c hc]⟩
 have hb3:=hE3.next
 cases ht:oneF s j with
 | none=>
  rw[ht]at q5 m5 fini
  have l0:=row_load q5 (n:=6) rfl (i:=0) (x:=.int .u8 ((0:Nat):Int)) rfl
  obtain⟨H6,H7,m6,m7,s6,s2,n7,k7,_⟩:=two_rows p6 rfl p2 rfl (wdL_len 0 [] 0 0 0 0) (wdL_one 0 [] 0 0 0 0) (flL_len 100 (lineF s j)) (flL_one 100 (lineF s j))
  simp only[Int.cast_ofNat_Int]at l0
  simp only[sA,sB,seval,hz,m4,m5,fld0,l0,bw_none]
  refine (line_spec (hN.no _ dD) (i:=j) hj1 om).mono ?_
  rintro v _ ⟨rfl,rfl⟩
  have gl:aBuild [.int .i64 0,.int .i64 0] [(0,1,.int .i64 100),(1,1,.int .i64 (lineF s j:Int))]=some (.agg (flL 100 (lineF s j))):=rfl
  simp only[sA,sB,seval,gl,m6,m7]
  refine fini _ _ _ _ (by simp only[sA,sB,seval]) (by simp only[sA,sB,seval]) s6 s2 rfl rfl rfl ⟨by have:=E5.next; omega,fun c hc=>by rw[k7 c hc,E5.old c hc]⟩
 | some t=>
  have hk:¬(t.k:Int)=0:=by
   rw[oneF]at ht
   split at ht
   ·simp at ht
   ·split at ht
    ·split at ht
     ·simp only[sJ]at ht; subst ht; simp
     ·simp at ht
    ·split at ht
     ·simp only[sJ]at ht; subst ht; simp only; split <;> simp
     ·split at ht
      ·simp at ht
      ·simp only[sJ]at ht; subst ht; simp
  rw[ht]at q5 m5 fini
  have l0:=row_load q5 (n:=6) rfl (i:=0) (x:=.int .u8 (t.k:Int)) rfl
  simp only[sA,sB,seval,hz,m4,m5,fld0,l0,hk]
  refine (line_spec (hN.no _ dD) (i:=j) hj1 om).mono ?_
  rintro v _ ⟨rfl,rfl⟩
  obtain⟨H6,m6,q6',n6,k6⟩:=row_store q5 (n:=6) rfl (i:=3) om (x:=.int .i64 (lineF s j:Int)) rfl
  have e6:(oneA j (some t)).set 3 (.int .i64 (lineF s j:Int))=wdL t.k t.S t.n (lineF s j) j t.e:=rfl
  rw[e6]at q6'
  obtain⟨H7,H8,m7,m8,s6,s2,n8,k8,_⟩:=two_rows (p6.same (k6 _ om)) rfl (p2.same (k6 _ om)) rfl (wdL_len t.k t.S t.n (lineF s j) j t.e) (wdL_one t.k t.S t.n (lineF s j) j t.e) (flL_len 0 0) (flL_one 0 0)
  simp only[sA,sB,seval,fld0,m6,row_loadN q6' (n:=6) rfl,g0,m7,m8]
  refine fini _ _ _ _ (by simp only[sA,sB,seval]) (by simp only[sA,sB,seval]) s6 s2 rfl rfl rfl ⟨by have:=E5.next; omega,fun c hc=>by rw[k8 c hc,k6 c om,E5.old c hc]⟩
open Go.Abs Go.Abs.S
theorem aeq_two(a b:Int):aeq (.agg [.int .i64 a,.int .i64 b]) (.agg [.int .i64 a,.int .i64 b])=true:=by
 simp[aeq,aeqs,eqF_eq]
theorem next_spec(hN:NWo natT){s:Bs}{p:Int}(h1:-9223372036854775808≤p)(h2:p≤9223372036854775807){H:AHeap} :
  ACalls Tryz.prog natT 62 [.str s,.int .i64 p] H fun v H'=>v=nextA s p∧Ext H.next H H':=by
 refine acalls_ofN (hN.no _ dD) za62 rfl ?_
 obtain⟨H1,H2,m1,m2,r6,r2,n2,k2⟩:=new_two H
 have hz:([.int .u8 0,.str [],.int .i64 0,.int .i64 0,.int .i64 0,.int .i64 0]:List AVal)=ZW:=rfl
 have g3:aBuild [.int .i64 0,.int .i64 0] [(0,1,.int .i64 3)]=some (.agg (flL 3 0)):=rfl
 have g2:aBuild [.int .i64 0,.int .i64 0] [(0,1,.int .i64 2)]=some (.agg (flL 2 0)):=rfl
 have g0:aBuild [.int .i64 0,.int .i64 0] []=some (.agg (flL 0 0)):=rfl
 have fini:∀(T:Env) (K:AHeap) (xs ys:List AVal),T 4=cellR H.next 6 0→T 5=cellR (H.next+1) 2 0→Row K H.next xs→Row K (H.next+1) ys→xs.length=6→ys.length=2→pairA xs ys=nextA s p→Ext H.next H K →
   fin [.cell true 6 4,.cell true 2 5] (fun v H'=>v=nextA s p∧Ext H.next H H') .ret T K:=by
  intro T K xs ys t4 t5 q6 q2 lx ly he hE
  refine fin_c2 _ _ _ _ _ _ _ (v:=.agg xs) (v':=.agg ys) (by rw[t4]; exact row_loadN q6 lx) (by rw[t5]; exact row_loadN q2 ly) ⟨he,hE⟩
 simp only[c62,sA,sB,seval,hz,m1,m2]
 by_cases a1:16384<s.length
 ·have a1':(16384:Int)<(s.length:Int):=om
  obtain⟨H3,H4,m3,m4,q6,q2,n4,k4,_⟩:=two_rows r6 rfl r2 rfl (wdL_len 0 [] 0 0 0 0) (wdL_one 0 [] 0 0 0 0) (flL_len 3 0) (flL_one 3 0)
  simp only[sA,sB,seval,a1',hz,bw_none,g3,m3,m4]
  refine fini _ _ _ _ (by simp only[sA,sB,seval]) (by simp only[sA,sB,seval]) q6 q2 rfl rfl (by rw[nextA,if_pos a1]) ⟨om,fun c hc=>by rw[k4 c hc,k2 c hc]⟩
 have a1':¬(16384:Int)<(s.length:Int):=om
 by_cases a2:p<0
 ·obtain⟨H3,H4,m3,m4,q6,q2,n4,k4,_⟩:=two_rows r6 rfl r2 rfl (wdL_len 0 [] 0 0 0 0) (wdL_one 0 [] 0 0 0 0) (flL_len 2 0) (flL_one 2 0)
  simp only[sA,sB,seval,a1',a2,hz,bw_none,g2,m3,m4]
  refine fini _ _ _ _ (by simp only[sA,sB,seval]) (by simp only[sA,sB,seval]) q6 q2 rfl rfl (by rw[nextA,if_neg a1,if_pos (.inl a2)]) ⟨om,fun c hc=>by rw[k4 c hc,k2 c hc]⟩
 by_cases a3:(s.length:Int)<p
 ·obtain⟨H3,H4,m3,m4,q6,q2,n4,k4,_⟩:=two_rows r6 rfl r2 rfl (wdL_len 0 [] 0 0 0 0) (wdL_one 0 [] 0 0 0 0) (flL_len 2 0) (flL_one 2 0)
  simp only[sA,sB,seval,a1',a2,a3,hz,bw_none,g2,m3,m4]
  refine fini _ _ _ _ (by simp only[sA,sB,seval]) (by simp only[sA,sB,seval]) q6 q2 rfl rfl (by rw[nextA,if_neg a1,if_pos (.inr a3)]) ⟨om,fun c hc=>by rw[k4 c hc,k2 c hc]⟩
 obtain⟨i,rfl⟩:∃i:Nat,p=(i:Int):=⟨p.toNat,om⟩
 have hd:nextA s (i:Int)=if skipF s i=s.length then pairA (wdL 5 [] 0 (lineF s (skipF s i)) (skipF s i) (skipF s i)) (flL 0 0) else match oneF s (skipF s i) with
  | some t=>pairA (wdL t.k t.S t.n (lineF s (skipF s i)) (skipF s i) t.e) (flL 0 0)
  | none=>pairA (wdL 0 [] 0 0 0 0) (flL 100 (lineF s (skipF s i))):=by
  rw[nextA,if_neg a1,if_neg (by rintro (h | h); exact a2 h; exact a3 h),Int.toNat_natCast] <;> rfl
 simp only[sA,sB,seval,a1',a2,a3]
 refine (skip_spec (hN.no _ dD) (hN.no _ dD) (hN.no _ dD) (hN.no _ dD) (i:=i) om om).mono ?_
 rintro v _ ⟨rfl,rfl⟩
 have hj1:=skipF_le s i
 rw[hd]at fini
 rw[hd]
 generalize skipF s i=j at *
 simp only[sA,sB,seval,str_slH hj1]
 refine (count_spec (hN.no _ dD) (s.take j)).mono ?_
 rintro v _ ⟨rfl,rfl⟩
 have hcl:(s.take j).count 10≤j:=by
  have:=List.count_le_length (a:=(10:UInt8)) (l:=s.take j)
  simp at this; omega
 have wl:IntKind.i64.wrap (1+((s.take j).count 10:Int))=(lineF s j:Int):=by rw[wrap64 om om]; unfold lineF; omega
 obtain⟨H3,m3,q3,n3,k3⟩:=row_newL H2 ZW (n:=6) rfl
 obtain⟨H4,m4,q4,n4,k4⟩:=row_storeN q3 (n:=6) rfl (wdL_len 0 [] 0 (lineF s j) j j) (wdL_one 0 [] 0 (lineF s j) j j)
 have l3:=row_load q4 (n:=6) rfl (i:=3) (x:=.int .i64 (lineF s j:Int)) rfl
 obtain⟨H5,m5,q5,n5,k5⟩:=row_newL H4 Z2 (n:=2) rfl
 have gl:aBuild [.int .i64 0,.int .i64 0] [(0,1,.int .i64 100),(1,1,.int .i64 (lineF s j:Int))]=some (.agg (flL 100 (lineF s j))):=rfl
 obtain⟨H6,m6,q6,n6,k6⟩:=row_storeN q5 (n:=2) rfl (flL_len 100 (lineF s j)) (flL_one 100 (lineF s j))
 simp only[sW,sL,sXs,sXO,sXP,sB,seval,wl,hz,bw_at,m3,m4,fld0,l3,gl,m5,m6]
 rw[aw_block]
 have b6:Row H6 H2.next (wdL 0 [] 0 (lineF s j) j j):=q4.same (by rw[k6 _ om,k5 _ om])
 have p6:Row H6 H.next ZW:=r6.same (by rw[k6 _ om,k5 _ om,k4 _ om,k3 _ om])
 have p2:Row H6 (H.next+1) Z2:=r2.same (by rw[k6 _ om,k5 _ om,k4 _ om,k3 _ om])
 have E6:Ext H.next H H6:=⟨om,fun c hc=>by rw[k6 c om,k5 c om,k4 c om,k3 c om,k2 c hc]⟩
 have hn4:H4.next=H2.next+1:=om
 have hn6:H6.next=H2.next+2:=om
 rw[hn4]at q6
 rw[hn4]
 generalize H2.next=b at *
 clear m1 m2 m3 m4 m5 m6 k3 k4 k5 k6 q3 q4 q5 r6 r2 k2 n3 n4 n5 n6 l3
 refine aw_cut (fun (T:Env) H'=>T 4=cellR H.next 6 0∧T 5=cellR (H.next+1) 2 0∧T 6=cellR b 6 0∧Ext H.next H H'∧Row H' H.next ZW∧Row H' (H.next+1) Z2∧b<H'.next ∧
   ∃(k:Nat) (S:Bs) (n e:Nat),Row H' b (wdL k S n (lineF s j) j e)∧pairA (wdL k S n (lineF s j) j e) (flL 0 0)=if j=s.length then pairA (wdL 5 [] 0 (lineF s j) j j) (flL 0 0) else match oneF s j with
    | some t=>pairA (wdL t.k t.S t.n (lineF s j) j t.e) (flL 0 0)
    | none=>pairA (wdL 0 [] 0 0 0 0) (flL 100 (lineF s j))) (calls_mono _ _) ?_ ?_
 rotate_left
 ·rintro T H7 ⟨t4,t5,t6,hE7,s6,s2,_,k,S,n,e,hr,he⟩
  obtain⟨H8,H9,m8,m9,u6,u2,n9,k9,_⟩:=two_rows s6 rfl s2 rfl (wdL_len k S n (lineF s j) j e) (wdL_one k S n (lineF s j) j e) (flL_len 0 0) (flL_one 0 0)
  simp only[sA,sB,seval,t4,t5,t6,row_loadN hr (n:=6) rfl,g0,m8,m9]
  refine fini _ _ _ _ (by simp only[sA,sB,seval,t4]) (by simp only[sA,sB,seval,t5]) u6 u2 rfl rfl he ⟨by have:=hE7.next; omega,fun c hc=>by rw[k9 c hc,hE7.old c hc]⟩
 have hne:H.next+1<b:=om
 by_cases hj:j=s.length
 ·have hj':(j:Int)=(s.length:Int):=om
  obtain⟨H7,m7,q7,n7,k7⟩:=row_store b6 (n:=6) rfl (i:=0) om (x:=.int .u8 5) rfl
  simp only[sA,sB,seval,hj',fld0,m7]
  refine⟨by trivial,by trivial,by trivial,⟨by have:=E6.next; omega,fun c hc=>by rw[k7 c om,E6.old c hc]⟩,p6.same (k7 _ om),p2.same (k7 _ om),om,5,[],0,j,q7,by rw[if_pos hj]⟩
 have hj':¬(j:Int)=(s.length:Int):=om
 obtain⟨c,hc⟩:=isSome_of_lt (l:=s) (i:=j) om
 have hone:oneF s j=if dig c=true then (match saysF (sub s j (numF s j)) with | some n=>some ⟨1,[],n,numF s j⟩ | none=>none)
  else if beg c=true then some ⟨if keyF (sub s j (runF bgd s j))=true then 3 else 2,sub s j (runF bgd s j),0,runF bgd s j⟩
  else if signF (s.drop j)=[] then none else some ⟨4,signF (s.drop j),0,j+(signF (s.drop j)).length⟩:=by
  rw[oneF,hc] <;> rfl
 rw[if_neg hj]at fini
 rw[if_neg hj]
 simp only[sA,sB,seval,hj',str_idx hc]
 refine (digit_spec (hN.no _ dD) c _).mono ?_
 rintro v _ ⟨rfl,rfl⟩
 cases hdc:dig c with
 | true=>
  rw[if_pos hdc]at hone
  simp only[sA,sB,seval]
  refine (numeral_spec (hN.no _ dD) (hN.no _ dD) (hN.no _ dD) (i:=j) om om).mono ?_
  rintro v _ ⟨rfl,rfl⟩
  have hge:=numF_ge s j
  have hle:=numF_le (s:=s) (i:=j) om
  have s1:aSlStr (.str s) (some (.int .i64 (j:Int))) (some (.int .i64 (numF s j:Int)))=some (.str (sub s j (numF s j))):=str_sl om om
  have hsub:(sub s j (numF s j)).length≤4611686018427387904:=by simp[sub]; omega
  generalize numF s j=e at *
  obtain⟨H7,m7,q7,n7,k7⟩:=row_store b6 (n:=6) rfl (i:=5) om (x:=.int .i64 (e:Int)) rfl
  have e7:(wdL 0 [] 0 (lineF s j) j j).set 5 (.int .i64 (e:Int))=wdL 0 [] 0 (lineF s j) j e:=rfl
  rw[e7]at q7
  have l5:=row_load q7 (n:=6) rfl (i:=5) (x:=.int .i64 (e:Int)) rfl
  simp only[sA,sB,seval,fld0,m7,l5,s1]
  refine (number_spec (hN.no _ dD) (hN.no _ dD) (hN.no _ dD) (hN.no _ dD) (hN.no _ dD) (hN.no _ dD) (hN.no _ dD) (hN.no _ dD) (hN.no _ dD) hsub).mono ?_
  rintro v H8 ⟨rfl,hE8⟩
  have hb8:=hE8.next
  have b8:=q7.same (hE8.old b om)
  have p68:Row H8 H.next ZW:=p6.same (by rw[hE8.old _ om,k7 _ om])
  have p28:Row H8 (H.next+1) Z2:=p2.same (by rw[hE8.old _ om,k7 _ om])
  have f8:Row H8 (b+1) (flL 100 (lineF s j)):=q6.same (by rw[hE8.old _ om,k7 _ om])
  have E8:Ext H.next H H8:=⟨by have:=E6.next; omega,fun c hc=>by rw[hE8.old c (by have:=E6.next; omega),k7 c om,E6.old c hc]⟩
  clear l5 m7 q7
  cases hs:saysF (sub s j e) with
  | none=>
   rw[hs]at hone
   rw[hone]at fini ⊢
   simp only[told,sA,sB,seval,ext_0,ext_1]
   obtain⟨H9,H10,m9,m10,u6,u2,n10,k10,k9⟩:=two_rows p68 rfl p28 rfl (wdL_len 0 [] 0 0 0 0) (wdL_one 0 [] 0 0 0 0) (flL_len 100 (lineF s j)) (flL_one 100 (lineF s j))
   refine aw_drawC rfl ?_
   have lf:=row_loadN f8 (n:=2) rfl
   have f9:Row H9 (b+1) (flL 100 (lineF s j)):=f8.same (k9 _ om)
   have lf9:=row_loadN f9 (n:=2) rfl
   simp only[sA,sB,seval,sR,hz,bw_none,lf,m9,m10]
   simp only[ck_nil',ck_cons,ckP_load,ckP_nil,ck_end,and_true,true_and,List.map_cons,List.map_nil,sA,sB,seval]
   refine⟨⟨_,rfl,fun _=>⟨_,lf9,aeq_two _ _⟩⟩,?_⟩
   refine fini _ _ _ _ (by simp only[sA,sB,seval]) (by simp only[sA,sB,seval]) u6 u2 rfl rfl rfl ⟨by have:=E8.next; omega,fun c hc=>by rw[k10 c hc,E8.old c hc]⟩
  | some n=>
   rw[hs]at hone
   rw[hone]
   obtain⟨H9,m9,q9,n9,k9⟩:=row_store b8 (n:=6) rfl (i:=0) om (x:=.int .u8 1) rfl
   obtain⟨H10,m10,q10,n10,k10⟩:=row_store q9 (n:=6) rfl (i:=2) om (x:=.int .i64 (n:Int)) rfl
   simp only[told,sA,sB,seval,ext_0,ext_1,fld0,m9,m10]
   refine⟨by trivial,by trivial,by trivial,⟨by have:=E8.next; omega,fun c hc=>by rw[k10 c om,k9 c om,E8.old c hc]⟩,p68.same (by rw[k10 _ om,k9 _ om]),p28.same (by rw[k10 _ om,k9 _ om]),om,1,[],n,e,q10,rfl⟩
 | false=>
  rw[if_neg (by rw[hdc]; simp)]at hone
  simp only[sA,sB,seval,str_idx hc]
  refine (begins_spec (hN.no _ dD) c _).mono ?_
  rintro v _ ⟨rfl,rfl⟩
  cases hbc:beg c with
  | true=>
   rw[if_pos hbc]at hone
   rw[hone]
   simp only[sA,sB,seval]
   refine (run_spec (hN.no _ dD) (namy_spec (hN.no _ dD) (hN.no _ dD) (hN.no _ dD)) (i:=j) om om).mono ?_
   rintro v _ ⟨rfl,rfl⟩
   have hje:=runF_le (p:=bgd) (s:=s) (i:=j) om
   have hjg:=runF_ge bgd s j
   have s1:aSlStr (.str s) (some (.int .i64 (j:Int))) (some (.int .i64 (runF bgd s j:Int)))=some (.str (sub s j (runF bgd s j))):=str_sl hjg hje
   have hsub:(sub s j (runF bgd s j)).length≤281474976710656:=by simp[sub]; omega
   generalize sub s j (runF bgd s j)=S at *
   generalize runF bgd s j=e at *
   obtain⟨H7,m7,q7,n7,k7⟩:=row_store b6 (n:=6) rfl (i:=5) om (x:=.int .i64 (e:Int)) rfl
   have e7:(wdL 0 [] 0 (lineF s j) j j).set 5 (.int .i64 (e:Int))=wdL 0 [] 0 (lineF s j) j e:=rfl
   rw[e7]at q7
   have l5:=row_load q7 (n:=6) rfl (i:=5) (x:=.int .i64 (e:Int)) rfl
   simp only[sA,sB,seval,fld0,m7,l5,s1]
   refine (clone_spec hN hsub).mono ?_
   rintro v _ ⟨rfl,rfl⟩
   obtain⟨H8,m8,q8,n8,k8⟩:=row_store q7 (n:=6) rfl (i:=0) om (x:=.int .u8 2) rfl
   obtain⟨H9,m9,q9,n9,k9⟩:=row_store q8 (n:=6) rfl (i:=1) om (x:=.str S) rfl
   have e9:((wdL 0 [] 0 (lineF s j) j e).set 0 (.int .u8 2)).set 1 (.str S)=wdL 2 S 0 (lineF s j) j e:=rfl
   rw[e9]at q9
   have l1:=row_load q9 (n:=6) rfl (i:=1) (x:=.str S) rfl
   simp only[sA,sB,seval,fld0,m8,m9,l1]
   refine (key_spec (hN.no _ dD) S).mono ?_
   rintro v _ ⟨rfl,rfl⟩
   have k79:∀c,c≠b→H9.get c=H6.get c:=fun c hc=>by rw[k9 c hc,k8 c hc,k7 c hc]
   cases hk:keyF S with
   | true=>
    obtain⟨H10,m10,q10,n10,k10⟩:=row_store q9 (n:=6) rfl (i:=0) om (x:=.int .u8 3) rfl
    simp only[sA,sB,seval,fld0,m10]
    refine⟨by trivial,by trivial,by trivial,⟨by have:=E6.next; omega,fun c hc=>by rw[k10 c om,k79 c om,E6.old c hc]⟩,p6.same (by rw[k10 _ om,k79 _ om]),p2.same (by rw[k10 _ om,k79 _ om]),om,3,S,0,e,q10,by simp⟩
   | false=>
    simp only[sA,sB,seval]
    refine⟨by trivial,by trivial,by trivial,⟨by have:=E6.next; omega,fun c hc=>by rw[k79 c om,E6.old c hc]⟩,p6.same (k79 _ om),p2.same (k79 _ om),om,2,S,0,e,q9,by simp⟩
  | false=>
   rw[if_neg (by rw[hbc]; simp)]at hone
   simp only[sA,sB,seval]
   refine (sign_spec (hN.no _ dD) (hN.no _ dD) (hN.no _ dD) (hN.no _ dD) (hN.no _ dD) (i:=j) om).mono ?_
   rintro v _ ⟨rfl,rfl⟩
   have hsl:=signF_le (s:=s) (i:=j) om
   generalize signF (s.drop j)=S at *
   by_cases hS:S=[]
   ·rw[if_pos hS]at hone
    rw[hone]at fini ⊢
    simp only[sA,sB,seval,hS]
    obtain⟨H9,H10,m9,m10,u6,u2,n10,k10,k9⟩:=two_rows p6 rfl p2 rfl (wdL_len 0 [] 0 0 0 0) (wdL_one 0 [] 0 0 0 0) (flL_len 100 (lineF s j)) (flL_one 100 (lineF s j))
    refine aw_drawC rfl ?_
    have lf:=row_loadN q6 (n:=2) rfl
    have f9:Row H9 (b+1) (flL 100 (lineF s j)):=q6.same (k9 _ om)
    have lf9:=row_loadN f9 (n:=2) rfl
    simp only[sA,sB,seval,sR,hz,bw_none,lf,m9,m10]
    simp only[ck_nil',ck_cons,ckP_load,ckP_nil,ck_end,and_true,true_and,List.map_cons,List.map_nil,sA,sB,seval]
    refine⟨⟨_,rfl,fun _=>⟨_,lf9,aeq_two _ _⟩⟩,?_⟩
    refine fini _ _ _ _ (by simp only[sA,sB,seval]) (by simp only[sA,sB,seval]) u6 u2 rfl rfl rfl ⟨by have:=E6.next; omega,fun c hc=>by rw[k10 c hc,E6.old c hc]⟩
   ·rw[if_neg hS]at hone
    rw[hone]
    simp only[sA,sB,seval,hS]
    refine (clone_spec hN (s:=S) om).mono ?_
    rintro v _ ⟨rfl,rfl⟩
    obtain⟨H7,m7,q7,n7,k7⟩:=row_store b6 (n:=6) rfl (i:=0) om (x:=.int .u8 4) rfl
    obtain⟨H8,m8,q8,n8,k8⟩:=row_store q7 (n:=6) rfl (i:=1) om (x:=.str S) rfl
    obtain⟨H9,m9,q9,n9,k9⟩:=row_store q8 (n:=6) rfl (i:=5) om (x:=.int .i64 ((j+S.length:Nat):Int)) rfl
    have k79:∀c,c≠b→H9.get c=H6.get c:=fun c hc=>by rw[k9 c hc,k8 c hc,k7 c hc]
    simp only[sA,sB,seval,fld0,wrapN j S.length om,m7,m8,m9]
    refine⟨by trivial,by trivial,by trivial,⟨by have:=E6.next; omega,fun c hc=>by rw[k79 c om,E6.old c hc]⟩,p6.same (k79 _ om),p2.same (k79 _ om),om,4,S,0,_,q9,rfl⟩
open Go.Abs Go.Abs.S
inductive Ex where
 | mk (k:Nat) (s:Bs) (n:Int) (kids:List Ex)
inductive St where
 | mk (k:Nat) (s:Bs) (e:Ex) (body els:List St) (line:Int)
abbrev Flt:=Nat×Nat
structure Wd where
 k:Nat
 S:Bs
 n:Nat
 line:Nat
 at_:Nat
 en:Nat
def nextW(s:Bs)(p:Nat):Except Flt Wd:=
 if 16384<s.length then .error (3,0)
 else if s.length<p then .error (2,0)
 else if skipF s p=s.length then .ok ⟨5,[],0,lineF s (skipF s p),skipF s p,skipF s p⟩
 else match oneF s (skipF s p) with
  | some t=>.ok ⟨t.k,t.S,t.n,lineF s (skipF s p),skipF s p,t.e⟩
  | none=>.error (100,lineF s (skipF s p))
mutual
def Ex.size:Ex→Nat
 | .mk _ _ _ kids=>sizesE kids+1
def sizesE:List Ex→Nat
 | []=>0
 | e::l=>e.size+sizesE l
end
mutual
def Ex.deep:Ex→Nat
 | .mk _ _ _ kids=>deepsE kids+1
def deepsE:List Ex→Nat
 | []=>0
 | e::l=>max e.deep (deepsE l)
end
mutual
def St.size:St→Nat
 | .mk _ _ e body els _=>e.size+sizesS body+sizesS els+1
def sizesS:List St→Nat
 | []=>0
 | x::l=>x.size+sizesS l
end
mutual
def St.deep:St→Nat
 | .mk _ _ e body els _=>max e.deep (max (deepsS body) (deepsS els))+1
def deepsS:List St→Nat
 | []=>0
 | x::l=>max x.deep (deepsS l)
end
def nameF(s:Bs):Bool:=match nextW s 0 with
 | .ok w=>Nat.beq w.k 2&&decide (w.S=s)
 | .error _=>false
def opF(s:Bs)(n:Nat):Bool:=match n with
 | 1=>[[45],[33]].contains s
 | 2=>[[124,124],[38,38],[61,61],[33,61],[60,61],[62,61],[60],[62],[43],[45],[42],[47]].contains s
 | _=>false
def partF(k:Nat)(s:Bs)(n:Int)(kids:Nat):Bool:=
 if k=1 then decide (0≤n)&&(s.isEmpty&&Nat.beq kids 0)
 else if k=2 then decide (n=0)&&(nameF s&&Nat.beq kids 0)
 else if k=3 then decide (n=0)&&opF s kids
 else if k=4 then decide (n=0)&&nameF s
 else false
mutual
def okE:Ex→Bool
 | .mk k s n kids=>partF k s n kids.length&&oksE kids
def oksE:List Ex→Bool
 | []=>true
 | e::l=>okE e&&oksE l
end
def lineF'(k:Nat)(s:Bs)(body els:Nat):Bool:=
 if k=1∨k=2 then nameF s&&(Nat.beq body 0&&Nat.beq els 0)
 else if k=3 then s.isEmpty
 else if k=4 then s.isEmpty&&Nat.beq els 0
 else if k=5 then s.isEmpty&&(Nat.beq body 0&&Nat.beq els 0)
 else false
mutual
def okS:St→Bool
 | .mk k s e body els _=>lineF' k s body.length els.length&&(okE e&&(oksS body&&oksS els))
def oksS:List St→Bool
 | []=>true
 | x::l=>okS x&&oksS l
end
def fitsF(l:List St):Bool:=decide (sizesS l≤1000)&&decide (deepsS l≤40)
def rightF(l:List St):Bool:=oksS l&&fitsF l
open Go.Abs Go.Abs.S
end Go.Proofs.Wo
namespace Go.Proofs.Wo
open Go.Abs Go.Abs.S
def SlK(P:Nat→Prop)(H:AHeap)(m:Nat)(v:AVal)(k:Nat)(C:List AVal):Prop:=
 (isE v=true∧k=0∧C=[])∨∃a r,v=.slice (some a) k r∧P a.b∧rdCells H a (m*k)=some C
theorem SlK.mono{P Q:Nat→Prop}{H H':AHeap}{m k:Nat}{v:AVal}{C:List AVal}(h:SlK P H m v k C)(q:∀b,P b→Q b∧H'.get b=H.get b):SlK Q H' m v k C:=by
 rcases h with h | ⟨a,r,h1,h2,h3⟩
 ·exact .inl h
 ·exact .inr ⟨a,r,h1,(q _ h2).1,by rw[rd_congr (q _ h2).2]; exact h3⟩
theorem SlK.one{P:Nat→Prop}{H:AHeap}{m k:Nat}{v:AVal}{C:List AVal}(h:SlK P H m v k C):v.one=true:=by
 rcases h with⟨h,_⟩ | ⟨a,r,rfl,_⟩
 ·exact isE_one h
 ·rfl
theorem SlK.len{P:Nat→Prop}{H:AHeap}{m k:Nat}{v:AVal}{C:List AVal}(h:SlK P H m v k C):aLenK false v=some (.int .i64 (k:Int)):=by
 rcases h with⟨h,rfl,_⟩ | ⟨a,r,rfl,_⟩
 ·rcases isE_cases h with rfl | ⟨a,rfl⟩ <;> rfl
 ·rfl
theorem SlK.nil(P:Nat→Prop)(H:AHeap)(m:Nat):SlK P H m nilS 0 []:=.inl ⟨rfl,rfl,rfl⟩
theorem SlK.app{P:Nat→Prop}{H:AHeap}{m k:Nat}{v:AVal}{C:List AVal}(h:AppN m 0 H v C k)(hb:Blk v P):SlK P H m v k C:=by
 rcases h with⟨rfl,rfl,rfl⟩ | ⟨b,low,rfl,h2,h3,h4,h5,h6,h7⟩
 ·exact .nil P H m
 ·refine .inr ⟨_,_,rfl,hb _ _ _ rfl,?_⟩
  rw[← h2]
  exact rd_whole h5 h6
def placeK(m:Nat)(v:AVal)(i:Nat):AVal:=match v with
 | .slice (some a) _ _=>.ptr (some ⟨a.b,a.lim,a.o+i*m⟩)
 | _=>undefA
theorem SlK.idx{P:Nat→Prop}{H:AHeap}{m k:Nat}{v:AVal}{C:List AVal}(h:SlK P H m v k C){i:Nat}(hi:i<k):aIdxA m v (.int .i64 (i:Int))=some (placeK m v i):=by
 rcases h with⟨_,rfl,_⟩ | ⟨a,r,rfl,_⟩
 ·omega
 ·show (bif Nat.blt i k then some (AVal.ptr (some ⟨a.b,a.lim,a.o+i*m⟩)) else none)=_
  rw[show Nat.blt i k=true by simpa[Nat.blt_eq] using hi]; rfl
theorem rd_part{H:AHeap}{a:Ad}{n i j:Nat}{C:List AVal}(h:rdCells H a n=some C)(hij:i+j≤n):rdCells H ⟨a.b,a.lim,a.o+i⟩ j=some ((C.drop i).take j):=by
 obtain⟨l,low,ro,mk,h1,h2,h3,h4,rfl⟩:=rd_spec h
 unfold rdCells
 simp only[h1,Nat.ble_eq_true_of_le h2,Nat.ble_eq_true_of_le h3,Nat.ble_eq_true_of_le (show a.o+i+j≤a.lim by omega),Bool.and_self,cond_true]
 rw[List.drop_take,List.take_take,Nat.min_eq_left om,List.drop_drop]
theorem SlK.load{P:Nat→Prop}{H:AHeap}{m k:Nat}{v:AVal}{C:List AVal}(h:SlK P H m v k C){i:Nat}(hi:i<k):oLoad true m H (placeK m v i)=some (.agg ((C.drop (i*m)).take m)):=by
 rcases h with⟨_,rfl,_⟩ | ⟨a,r,rfl,_,h3⟩
 ·omega
 ·have hm:i*m+m≤m*k:=by
   have:(i+1)*m≤k*m:=Nat.mul_le_mul_right m hi
   rw[Nat.mul_comm m k]; rw[Nat.add_mul,Nat.one_mul]at this; exact this
  simp only[oLoad,placeK,rd_part h3 hm,cond_true]
theorem SlK.aeq{P:Nat→Prop}{H:AHeap}{m k:Nat}{v:AVal}{C:List AVal}(h:SlK P H m v k C):aeq v v=true:=by
 rcases h with⟨h,_⟩ | ⟨a,r,rfl,_⟩
 ·rcases isE_cases h with rfl | ⟨a,rfl⟩
  ·exact aeq_nilS
  ·simp[Go.Abs.aeq]
 ·cases r <;> simp[Go.Abs.aeq]
mutual
def XE(P:Nat→Prop)(H:AHeap):Ex→List AVal→Prop
 | .mk k s n kids,c=>∃v C,c=[.int .u8 (k:Int),.str s,.int .i64 n,v]∧SlK P H 4 v kids.length C∧XEs P H kids C
def XEs(P:Nat→Prop)(H:AHeap):List Ex→List AVal→Prop
 | [],C=>C=[]
 | e::l,C=>∃c D,C=c++D∧XE P H e c∧XEs P H l D
end
theorem XE.len{P:Nat→Prop}{H:AHeap}{e:Ex}{c:List AVal}(h:XE P H e c):c.length=4:=by
 cases e; obtain⟨v,C,rfl,_⟩:=h; rfl
theorem XE.one{P:Nat→Prop}{H:AHeap}{e:Ex}{c:List AVal}(h:XE P H e c):c.all AVal.one=true:=by
 cases e; obtain⟨v,C,rfl,h2,_⟩:=h
 simp only[List.all_cons,List.all_nil,h2.one]; rfl
theorem XE.aeqs{P:Nat→Prop}{H:AHeap}{e:Ex}{c:List AVal}(h:XE P H e c):aeqs c c=true:=by
 cases e; obtain⟨v,C,rfl,h2,_⟩:=h
 simp[Go.Abs.aeqs,aeq_int,aeq_str,h2.aeq]
mutual
theorem XE.mono{P Q:Nat→Prop}{H H':AHeap}(q:∀b,P b→Q b∧H'.get b=H.get b):∀{e:Ex} {c:List AVal},XE P H e c→XE Q H' e c
 | .mk _ _ _ _,_,h=>by
  obtain⟨v,C,h1,h2,h3⟩:=h
  exact⟨v,C,h1,h2.mono q,XEs.mono q h3⟩
theorem XEs.mono{P Q:Nat→Prop}{H H':AHeap}(q:∀b,P b→Q b∧H'.get b=H.get b):∀{l:List Ex} {C:List AVal},XEs P H l C→XEs Q H' l C
 | [],_,h=>h
 | _::_,_,h=>by
  obtain⟨c,D,h1,h2,h3⟩:=h
  exact⟨c,D,h1,XE.mono q h2,XEs.mono q h3⟩
end
theorem XEs.len{P:Nat→Prop}{H:AHeap}:∀{l:List Ex} {C:List AVal},XEs P H l C→C.length=4*l.length
 | [],_,h=>by rw[show _=[] from h]; rfl
 | _::l,_,⟨c,D,h1,h2,h3⟩=>by
  rw[h1,lA,h2.len,XEs.len h3,List.length_cons]; omega
theorem XEs.at{P:Nat→Prop}{H:AHeap}:∀{l:List Ex} {C:List AVal},XEs P H l C→∀{i:Nat} {e:Ex},l[i]?=some e→XE P H e ((C.drop (i*4)).take 4)
 | [],_,_,i,e,hi=>by simp at hi
 | x::l,_,⟨c,D,h1,h2,h3⟩,i,e,hi=>by
  subst h1
  have hl:=h2.len
  cases i with
  | zero=>
   simp only[List.getElem?_cons_zero,sJ]at hi
   subst hi
   rw[Nat.zero_mul,List.drop_zero,List.take_append_of_le_length om,List.take_of_length_le om]
   exact h2
  | succ i=>
   rw[List.getElem?_cons_succ]at hi
   have:=XEs.at h3 hi
   rw[show (i+1)*4=c.length+i*4 by omega,List.drop_append,List.drop_of_length_le om,List.nil_append,show c.length+i*4-c.length=i*4 by omega]
   exact this
mutual
def XS(P:Nat→Prop)(H:AHeap):St→List AVal→Prop
 | .mk k s e body els line,c=>∃ce vb Cb ve Ce,c=.int .u8 (k:Int)::.str s::(ce++[vb,ve,.int .i64 line])∧XE P H e ce∧SlK P H 9 vb body.length Cb∧XSs P H body Cb∧SlK P H 9 ve els.length Ce∧XSs P H els Ce
def XSs(P:Nat→Prop)(H:AHeap):List St→List AVal→Prop
 | [],C=>C=[]
 | e::l,C=>∃c D,C=c++D∧XS P H e c∧XSs P H l D
end
theorem XS.len{P:Nat→Prop}{H:AHeap}{e:St}{c:List AVal}(h:XS P H e c):c.length=9:=by
 cases e; obtain⟨ce,vb,Cb,ve,Ce,rfl,h2,_⟩:=h
 simp[h2.len]
theorem XS.one{P:Nat→Prop}{H:AHeap}{e:St}{c:List AVal}(h:XS P H e c):c.all AVal.one=true:=by
 cases e; obtain⟨ce,vb,Cb,ve,Ce,rfl,h2,h3,_,h5,_⟩:=h
 simp only[List.all_cons,List.all_append,List.all_nil,h2.one,h3.one,h5.one]; rfl
theorem aeqs_app:∀{l m l' m':List AVal},aeqs l l'=true→aeqs m m'=true→aeqs (l++m) (l'++m')=true
 | [],_,[],_,_,h=>h
 | [],_,_::_,_,h,_=>by simp[Go.Abs.aeqs]at h
 | _::_,_,[],_,h,_=>by simp[Go.Abs.aeqs]at h
 | x::l,m,y::l',m',h,h'=>by
  simp only[Go.Abs.aeqs,Bool.and_eq_true]at h
  simp only[List.cons_append,Go.Abs.aeqs,h.1,aeqs_app h.2 h',Bool.and_self]
theorem XS.aeqs{P:Nat→Prop}{H:AHeap}{e:St}{c:List AVal}(h:XS P H e c):aeqs c c=true:=by
 cases e; obtain⟨ce,vb,Cb,ve,Ce,rfl,h2,h3,_,h5,_⟩:=h
 simp only[Go.Abs.aeqs,aeq_int,aeq_str,Bool.true_and]
 exact aeqs_app h2.aeqs (by simp[Go.Abs.aeqs,h3.aeq,h5.aeq,aeq_int])
mutual
theorem XS.mono{P Q:Nat→Prop}{H H':AHeap}(q:∀b,P b→Q b∧H'.get b=H.get b):∀{e:St} {c:List AVal},XS P H e c→XS Q H' e c
 | .mk _ _ _ _ _ _,_,h=>by
  obtain⟨ce,vb,Cb,ve,Ce,h1,h2,h3,h4,h5,h6⟩:=h
  exact⟨ce,vb,Cb,ve,Ce,h1,h2.mono q,h3.mono q,XSs.mono q h4,h5.mono q,XSs.mono q h6⟩
theorem XSs.mono{P Q:Nat→Prop}{H H':AHeap}(q:∀b,P b→Q b∧H'.get b=H.get b):∀{l:List St} {C:List AVal},XSs P H l C→XSs Q H' l C
 | [],_,h=>h
 | _::_,_,h=>by
  obtain⟨c,D,h1,h2,h3⟩:=h
  exact⟨c,D,h1,XS.mono q h2,XSs.mono q h3⟩
end
theorem XSs.at{P:Nat→Prop}{H:AHeap}:∀{l:List St} {C:List AVal},XSs P H l C→∀{i:Nat} {e:St},l[i]?=some e→XS P H e ((C.drop (i*9)).take 9)
 | [],_,_,i,e,hi=>by simp at hi
 | x::l,_,⟨c,D,h1,h2,h3⟩,i,e,hi=>by
  subst h1
  have hl:=h2.len
  cases i with
  | zero=>
   simp only[List.getElem?_cons_zero,sJ]at hi
   subst hi
   rw[Nat.zero_mul,List.drop_zero,List.take_append_of_le_length om,List.take_of_length_le om]
   exact h2
  | succ i=>
   rw[List.getElem?_cons_succ]at hi
   have:=XSs.at h3 hi
   rw[show (i+1)*9=c.length+i*9 by omega,List.drop_append,List.drop_of_length_le om,List.nil_append,show c.length+i*9-c.length=i*9 by omega]
   exact this
def In(n m:Nat)(c:Nat):Prop:=n≤c∧c<m
def GE(n:Nat)(H:AHeap)(v:AVal)(l:List Ex):Prop:=∃C,AppN 4 0 H v C l.length∧Blk v (In n H.next)∧XEs (fun c=>In n H.next c∧Blk v (c≠·)) H l C
open Go.Abs Go.Abs.S
noncomputable section
def c99:AFn:=⟨9,zq [zo 4 (.mv (.c (.bool false)))] (zq [zm 5 0,zm 6 1,zx 7 130 [.t 5,.t 6],zk 8 .geq 7 0,zm 4 8] .ret),[.t 4]⟩
theorem za99:cN Tryz.prog 99=some c99:=by kernel_rfl
def c130:AFn:=⟨19,zq [zo 4 (.mv (zi 0))] (.seq (zq [zm 6 0,zh 7 6,zo 8 (.mv (zi 0))] (.block 0 (.loop (zq [zb 9 .lss 8 7] (.seq (.cond (.t 9) .skip (.exit 0)) (.seq (.block 1 (zq [zm 10 8,zm 5 10] (zq [zm 11 1,zm 12 0,zm 13 5,zd 14 12 13,zl 15 14,zb 16 .eql 11 15] (.cond (.t 16) (zq [zm 17 5,zm 4 17] .ret) .skip)))) (.reg [zk 18 .add 8 1,zm 8 18]))))))) (zq [zo 4 (.mv (.c (.int .i64 (.negSucc 0))))] .ret)),[.t 4]⟩
theorem za130:cN Tryz.prog 130=some c130:=by kernel_rfl
end
open Go.Abs Go.Abs.S
theorem resO_0(z:List AVal):resO z none=.cells z 0 false:=_root_.id rfl
theorem clOp_new(b:Nat)(z z':List AVal)(s:Option (Nat×Nat)):clOp b z s (.new z')=.claim b z s:=_root_.id rfl
theorem clOp_fill(b b':Nat)(k:LaidK)(z:List AVal)(s:Option (Nat×Nat))(xs:List Opd):clOp b z s (.hf (.fill b' k) xs)=.hf (.fill b k) xs:=_root_.id rfl
structure Fp(pb:Nat)(H H':AHeap):Prop where
 next:H.next≤H'.next
 old:∀c,c<H.next→c≠pb→H'.get c=H.get c
theorem Fp.refl(pb:Nat)(H:AHeap):Fp pb H H:=⟨Nat.le_refl _,fun _ _ _=>rfl⟩
theorem Fp.trans{pb:Nat}{H H' H2:AHeap}(a:Fp pb H H')(b:Fp pb H' H2):Fp pb H H2:=
 ⟨Nat.le_trans a.next b.next,fun c h1 h2=>by rw[b.old c (Nat.lt_of_lt_of_le h1 a.next) h2,a.old c h1 h2]⟩
theorem nextA_ok{s:Bs}{p:Nat}{w:Wd}(h:nextW s p=.ok w):nextA s (p:Int)=pairA (wdL w.k w.S w.n w.line w.at_ w.en) (flL 0 0):=by
 unfold nextW at h
 unfold nextA
 by_cases a1:16384<s.length
 ·rw[if_pos a1]at h; first | (simp at h; done) | (simp only[Except.error.injEq]at h; subst h; rw[if_pos a1])
 rw[if_neg a1]at h ⊢
 by_cases a2:s.length<p
 ·rw[if_pos a2]at h
  have a2':(p:Int)<0∨(s.length:Int)<(p:Int):=.inr om
  first | (simp at h; done) | (simp only[Except.error.injEq]at h; subst h; rw[if_pos a2'])
 have a2':¬((p:Int)<0∨(s.length:Int)<(p:Int)):=om
 rw[if_neg a2]at h
 rw[if_neg a2',Int.toNat_natCast]
 by_cases a3:skipF s p=s.length
 ·rw[if_pos a3]at h ⊢
  first | (simp at h; done) | (simp only[Except.ok.injEq]at h; subst h; rfl)
 rw[if_neg a3]at h ⊢
 split at h <;> first | (simp at h; done) | skip
 rename_i ht
 first | simp only[Except.ok.injEq]at h | simp only[Except.error.injEq]at h
 subst h
 simp only[ht]
theorem nextA_bad{s:Bs}{p:Nat}{e:Flt}(h:nextW s p=.error e):nextA s (p:Int)=pairA (wdL 0 [] 0 0 0 0) (flL e.1 e.2):=by
 unfold nextW at h
 unfold nextA
 by_cases a1:16384<s.length
 ·rw[if_pos a1]at h; first | (simp at h; done) | (simp only[Except.error.injEq]at h; subst h; rw[if_pos a1])
 rw[if_neg a1]at h ⊢
 by_cases a2:s.length<p
 ·rw[if_pos a2]at h
  have a2':(p:Int)<0∨(s.length:Int)<(p:Int):=.inr om
  first | (simp at h; done) | (simp only[Except.error.injEq]at h; subst h; rw[if_pos a2'])
 have a2':¬((p:Int)<0∨(s.length:Int)<(p:Int)):=om
 rw[if_neg a2]at h
 rw[if_neg a2',Int.toNat_natCast]
 by_cases a3:skipF s p=s.length
 ·rw[if_pos a3]at h ⊢
  first | (simp at h; done) | (simp only[Except.ok.injEq]at h; subst h; rfl)
 rw[if_neg a3]at h ⊢
 split at h <;> first | (simp at h; done) | skip
 rename_i ht
 first | simp only[Except.ok.injEq]at h | simp only[Except.error.injEq]at h
 subst h
 simp only[ht]
theorem row_st{H:AHeap}{b n:Nat}{l l':List AVal}(h:Row H b l)(hn:l.length=n){i:Nat}(hi:i<n){x:AVal}(hx:x.one=true)(e:l.set i x=l') :
  ∃H',oStore 1 H (cellR b n i) x=some H'∧Row H' b l'∧H'.next=H.next∧∀c,c≠b→H'.get c=H.get c:=by
 subst e; exact row_store h hn hi hx
theorem row_stK{H:AHeap}{b n:Nat}{l l':List AVal}(h:Row H b l)(hn:l.length=n){i k:Nat}(hik:i+k≤n){xs:List AVal}(hx:xs.length=k)(ho:xs.all AVal.one=true)(e:l.take i++(xs++l.drop (i+k))=l') :
  ∃H',oStore k H (cellR b n i) (.agg xs)=some H'∧Row H' b l'∧H'.next=H.next∧∀c,c≠b→H'.get c=H.get c:=by
 subst e; exact row_storeK h hn hik hx ho
theorem nwoT:NWo natT:=⟨fun f hf=>by show (Nat.beq f 153||Nat.beq f 19)=false; rw[beq_dec,beq_dec,decide_eq_false hf.1,decide_eq_false hf.2]; rfl,rfl,fun s H hs=>by
 show (bif Nat.beq 153 153 then aClone H [.str s] else (bif Nat.beq 153 19 then aTrue H [.str s] else none))=_
 rw[show Nat.beq 153 153=true from rfl,cond_true]
 simp only[aClone,Nat.ble_eq_true_of_le hs,cond_true]⟩
open Go.Abs Go.Abs.S
theorem nextW_err{s:Bs}{p:Nat}{e:Flt}(h:nextW s p=.error e):e.1≠0:=by
 unfold nextW at h
 split at h
 ·simp only[Except.error.injEq]at h; subst h; simp
 split at h
 ·simp only[Except.error.injEq]at h; subst h; simp
 split at h
 ·simp at h
 split at h
 ·simp at h
 ·simp only[Except.error.injEq]at h; subst h; simp
open Go.Abs Go.Abs.S
theorem pf_isU(x:AVal):aPf .isU [x]=some (.bool (isU x)):=_root_.id rfl
theorem isU_func(f:Fn)(a b:List AVal):isU (.func f a b)=false:=_root_.id rfl
theorem isU_0:isU (.tuple [])=true:=_root_.id rfl
theorem pf_dset(f:Nat)(a b:List AVal):aPf .dset [.tuple [],.func (.func f) a b]=some (.func (.func f) a b):=_root_.id rfl
theorem cellR_cells(b n i:Nat):(cellR b n i).cells=[cellR b n i]:=_root_.id rfl
theorem sls2(H:AHeap)(a b:Bs):aBuildSl 2 [.str []] H [(0,1,.str a),(1,1,.str b)]=some (slR H.next 2 (.known 2),H.push (.cells [.str a,.str b] 0 false)):=_root_.id rfl
open Go.Abs Go.Abs.S
end Go.Proofs.Wo
namespace Go.Proofs.Wo
open Go.Abs Go.Abs.S
open Go.Abs Go.Abs.S
end Go.Proofs.Wo
namespace Go.Proofs.Wo
open Go.Abs Go.Abs.S
open Go.Abs Go.Abs.S
end Go.Proofs.Wo
namespace Go.Proofs.Wo
open Go.Abs Go.Abs.S
open Go.Abs Go.Abs.S
noncomputable section
def c15:AFn:=⟨9,zq [zo 2 (.mv (.c (.bool false)))] (zq [zo 4 (.build [zI 0] []),zo 5 (.box (.t 4)),zm 3 5] (zq [zm 6 3,zm 7 0,zx 8 40 [.t 6,.t 7,zi 1],zm 2 8] .ret)),[.t 2]⟩
theorem za15:cN Tryz.prog 15=some c15:=by kernel_rfl
def c40:AFn:=⟨21,zq [zo 6 (.mv (.c (.bool false)))] (.seq (zq [zm 8 1,zh 9 8,zo 10 (.mv (zi 0))] (.block 0 (.loop (zq [zb 11 .lss 10 9] (.seq (.cond (.t 11) .skip (.exit 0)) (.seq (.block 1 (zq [zm 12 10,zm 7 12] (zq [zm 13 0,zm 14 1,zm 15 7,zo 16 (.idxA 9 (.t 14) (.t 15)),zm 17 2,zx 18 84 [.t 13,.t 16,.t 17],zo 19 (.un .not (.t 18))] (.cond (.t 19) (zq [zo 6 (.mv (.c (.bool false)))] .ret) .skip)))) (.reg [zk 20 .add 10 1,zm 10 20]))))))) (zq [zo 6 (.mv (.c (.bool true)))] .ret)),[.t 6]⟩
theorem za40:cN Tryz.prog 40=some c40:=by kernel_rfl
def c84:AFn:=⟨112,zq [zo 6 (.mv (.c (.bool false)))] (zr [zm 7 0,zm 8 2,zx 9 123 [.t 7,.t 8],zo 10 (.un .not (.t 9))] 10 (zq [zo 6 (.mv (.c (.bool false)))] .ret) .skip (.seq (zq [zm 11 1,zc 12 11,zf 13 0 12,zl 14 13] (.block 0 (zr [zo 16 (.bin .eql (.t 14) (zu 1)),zm 15 16] 15 .skip (.reg [zo 17 (.bin .eql (.t 14) (zu 2)),zm 15 17]) (.cond (.t 15) (zq [zm 18 1,zc 19 18,zf 20 1 19,zl 21 20,zx 22 124 [.t 21],zo 23 (.un .not (.t 22)),zm 24 23,zg 25 (.mv (.t 1)) 24 false,zg 26 (.nilChk (.t 25)) 24 false,zg 27 (.fieldA 6 (.t 26)) 24 false,zg 28 (.load false 1 (.t 27)) 24 false,zg 29 (.len false (.t 28)) 24 false,zg 30 (.bin .gtr (.t 29) (zi 0)) 24 false,zo 31 (.pick (.t 24) (.c (.bool true)) (.t 30)),zm 32 31,zg 33 (.mv (.t 1)) 32 false,zg 34 (.nilChk (.t 33)) 32 false,zg 35 (.fieldA 7 (.t 34)) 32 false,zg 36 (.load false 1 (.t 35)) 32 false,zg 37 (.len false (.t 36)) 32 false,zg 38 (.bin .gtr (.t 37) (zi 0)) 32 false,zo 39 (.pick (.t 32) (.c (.bool true)) (.t 38))] (.cond (.t 39) (zq [zo 6 (.mv (.c (.bool false)))] .ret) .skip)) (zq [zo 41 (.bin .eql (.t 14) (zu 3)),zm 40 41] (.cond (.t 40) (zq [zm 42 1,zc 43 42,zf 44 1 43,zl 45 44,zo 46 (.bin .neq (.t 45) (.c (.str [])))] (.cond (.t 46) (zq [zo 6 (.mv (.c (.bool false)))] .ret) .skip)) (zq [zo 48 (.bin .eql (.t 14) (zu 4)),zm 47 48] (.cond (.t 47) (zq [zm 49 1,zc 50 49,zf 51 1 50,zl 52 51,zo 53 (.bin .neq (.t 52) (.c (.str []))),zm 54 53,zg 55 (.mv (.t 1)) 54 false,zg 56 (.nilChk (.t 55)) 54 false,zg 57 (.fieldA 7 (.t 56)) 54 false,zg 58 (.load false 1 (.t 57)) 54 false,zg 59 (.len false (.t 58)) 54 false,zg 60 (.bin .gtr (.t 59) (zi 0)) 54 false,zo 61 (.pick (.t 54) (.c (.bool true)) (.t 60))] (.cond (.t 61) (zq [zo 6 (.mv (.c (.bool false)))] .ret) .skip)) (zq [zo 63 (.bin .eql (.t 14) (zu 5)),zm 62 63] (.cond (.t 62) (zq [zm 64 1,zc 65 64,zf 66 1 65,zl 67 66,zo 68 (.bin .neq (.t 67) (.c (.str []))),zm 69 68,zg 70 (.mv (.t 1)) 69 false,zg 71 (.nilChk (.t 70)) 69 false,zg 72 (.fieldA 6 (.t 71)) 69 false,zg 73 (.load false 1 (.t 72)) 69 false,zg 74 (.len false (.t 73)) 69 false,zg 75 (.bin .gtr (.t 74) (zi 0)) 69 false,zo 76 (.pick (.t 69) (.c (.bool true)) (.t 75)),zm 77 76,zg 78 (.mv (.t 1)) 77 false,zg 79 (.nilChk (.t 78)) 77 false,zg 80 (.fieldA 7 (.t 79)) 77 false,zg 81 (.load false 1 (.t 80)) 77 false,zg 82 (.len false (.t 81)) 77 false,zg 83 (.bin .gtr (.t 82) (zi 0)) 77 false,zo 84 (.pick (.t 77) (.c (.bool true)) (.t 83))] (.cond (.t 84) (zq [zo 6 (.mv (.c (.bool false)))] .ret) .skip)) (zq [zo 6 (.mv (.c (.bool false)))] .ret))))))))))) (zq [zm 85 0,zm 86 1,zc 87 86,zf 88 2 87,zm 89 2,zk 90 .add 89 1,zx 91 125 [.t 85,.t 88,.t 90],zm 92 91,zg 93 (.mv (.t 0)) 92 true,zg 94 (.mv (.t 1)) 92 true,zg 95 (.nilChk (.t 94)) 92 true,zg 96 (.fieldA 6 (.t 95)) 92 true,zg 97 (.load false 1 (.t 96)) 92 true,zg 98 (.mv (.t 2)) 92 true,zg 99 (.bin .add (.t 98) (zi 1)) 92 true,zg 100 (.call 40 [.t 93,.t 97,.t 99]) 92 true,zo 101 (.pick (.t 92) (.t 100) (.c (.bool false))),zm 102 101,zg 103 (.mv (.t 0)) 102 true,zg 104 (.mv (.t 1)) 102 true,zg 105 (.nilChk (.t 104)) 102 true,zg 106 (.fieldA 7 (.t 105)) 102 true,zg 107 (.load false 1 (.t 106)) 102 true,zg 108 (.mv (.t 2)) 102 true,zg 109 (.bin .add (.t 108) (zi 1)) 102 true,zg 110 (.call 40 [.t 103,.t 107,.t 109]) 102 true,zo 111 (.pick (.t 102) (.t 110) (.c (.bool false))),zm 6 111] .ret))),[.t 6]⟩
theorem za84:cN Tryz.prog 84=some c84:=by kernel_rfl
def c123:AFn:=⟨21,zq [zo 4 (.mv (.c (.bool false)))] (zq [zm 5 0,zc 6 5,zf 7 0 6,zl 8 7,zk 9 .add 8 1,zc 10 5,zf 11 0 10,zs 11 9] (zq [zm 12 0,zc 13 12,zf 14 0 13,zl 15 14,zk 16 .leq 15 1000,zm 17 16,zg 18 (.mv (.t 1)) 17 true,zg 19 (.bin .leq (.t 18) (zi 40)) 17 true,zo 20 (.pick (.t 17) (.t 19) (.c (.bool false))),zm 4 20] .ret)),[.t 4]⟩
theorem za123:cN Tryz.prog 123=some c123:=by kernel_rfl
def c124:AFn:=⟨24,zq [zo 2 (.mv (.c (.bool false)))] (zq [zm 6 0,zx 7 62 [.t 6,zi 0],zm 5 7,ze 8 0 5,ze 9 1 5,zo 3 (.new [zU 0,.str [],zI 0,zI 0,zI 0,zI 0]),zo 4 (.new [zI 0,zI 0]),zp (.store 6 (.t 3) (.t 8)),zp (.store 2 (.t 4) (.t 9))] (zq [zf 10 0 4,zl 11 10,zk 12 .eql 11 0,zm 13 12,zg 14 (.fieldA 0 (.t 3)) 13 true,zg 15 (.load false 1 (.t 14)) 13 true,zg 16 (.bin .eql (.t 15) (zu 2)) 13 true,zo 17 (.pick (.t 13) (.t 16) (.c (.bool false))),zm 18 17,zg 19 (.fieldA 1 (.t 3)) 18 true,zg 20 (.load false 1 (.t 19)) 18 true,zg 21 (.mv (.t 0)) 18 true,zg 22 (.bin .eql (.t 20) (.t 21)) 18 true,zo 23 (.pick (.t 18) (.t 22) (.c (.bool false))),zm 2 23] .ret)),[.t 2]⟩
theorem za124:cN Tryz.prog 124=some c124:=by kernel_rfl
def c125:AFn:=⟨115,zq [zo 6 (.mv (.c (.bool false)))] (zr [zm 8 0,zm 9 2,zx 10 123 [.t 8,.t 9],zo 11 (.un .not (.t 10))] 11 (zq [zo 6 (.mv (.c (.bool false)))] .ret) .skip (.seq (zq [zm 12 1,zc 13 12,zf 14 0 13,zl 15 14] (.block 0 (zq [zo 17 (.bin .eql (.t 15) (zu 1)),zm 16 17] (.cond (.t 16) (zq [zm 18 1,zc 19 18,zf 20 2 19,zl 21 20,zk 22 .geq 21 0,zm 23 22,zg 24 (.mv (.t 1)) 23 true,zg 25 (.nilChk (.t 24)) 23 true,zg 26 (.fieldA 1 (.t 25)) 23 true,zg 27 (.load false 1 (.t 26)) 23 true,zg 28 (.bin .eql (.t 27) (.c (.str []))) 23 true,zo 29 (.pick (.t 23) (.t 28) (.c (.bool false))),zm 30 29,zg 31 (.mv (.t 1)) 30 true,zg 32 (.nilChk (.t 31)) 30 true,zg 33 (.fieldA 3 (.t 32)) 30 true,zg 34 (.load false 1 (.t 33)) 30 true,zg 35 (.len false (.t 34)) 30 true,zg 36 (.bin .eql (.t 35) (zi 0)) 30 true,zo 37 (.pick (.t 30) (.t 36) (.c (.bool false))),zm 6 37] .ret) (zq [zo 39 (.bin .eql (.t 15) (zu 2)),zm 38 39] (.cond (.t 38) (zq [zm 40 1,zc 41 40,zf 42 2 41,zl 43 42,zk 44 .eql 43 0,zm 45 44,zg 46 (.mv (.t 1)) 45 true,zg 47 (.nilChk (.t 46)) 45 true,zg 48 (.fieldA 1 (.t 47)) 45 true,zg 49 (.load false 1 (.t 48)) 45 true,zg 50 (.call 124 [.t 49]) 45 true,zo 51 (.pick (.t 45) (.t 50) (.c (.bool false))),zm 52 51,zg 53 (.mv (.t 1)) 52 true,zg 54 (.nilChk (.t 53)) 52 true,zg 55 (.fieldA 3 (.t 54)) 52 true,zg 56 (.load false 1 (.t 55)) 52 true,zg 57 (.len false (.t 56)) 52 true,zg 58 (.bin .eql (.t 57) (zi 0)) 52 true,zo 59 (.pick (.t 52) (.t 58) (.c (.bool false))),zm 6 59] .ret) (zq [zo 61 (.bin .eql (.t 15) (zu 3)),zm 60 61] (.cond (.t 60) (zq [zm 62 1,zc 63 62,zf 64 2 63,zl 65 64,zk 66 .neq 65 0,zm 67 66,zg 68 (.mv (.t 1)) 67 false,zg 69 (.nilChk (.t 68)) 67 false,zg 70 (.fieldA 1 (.t 69)) 67 false,zg 71 (.load false 1 (.t 70)) 67 false,zg 72 (.mv (.t 1)) 67 false,zg 73 (.nilChk (.t 72)) 67 false,zg 74 (.fieldA 3 (.t 73)) 67 false,zg 75 (.load false 1 (.t 74)) 67 false,zg 76 (.len false (.t 75)) 67 false,zg 77 (.call 164 [.t 71,.t 76]) 67 false,zg 78 (.un .not (.t 77)) 67 false,zo 79 (.pick (.t 67) (.c (.bool true)) (.t 78))] (.cond (.t 79) (zq [zo 6 (.mv (.c (.bool false)))] .ret) .skip)) (zq [zo 81 (.bin .eql (.t 15) (zu 4)),zm 80 81] (.cond (.t 80) (zq [zm 82 1,zc 83 82,zf 84 2 83,zl 85 84,zk 86 .neq 85 0,zm 87 86,zg 88 (.mv (.t 1)) 87 false,zg 89 (.nilChk (.t 88)) 87 false,zg 90 (.fieldA 1 (.t 89)) 87 false,zg 91 (.load false 1 (.t 90)) 87 false,zg 92 (.call 124 [.t 91]) 87 false,zg 93 (.un .not (.t 92)) 87 false,zo 94 (.pick (.t 87) (.c (.bool true)) (.t 93))] (.cond (.t 94) (zq [zo 6 (.mv (.c (.bool false)))] .ret) .skip)) (zq [zo 6 (.mv (.c (.bool false)))] .ret))))))))))) (.seq (zq [zm 95 1,zc 96 95,zf 97 3 96,zl 98 97,zh 99 98,zo 100 (.mv (zi 0))] (.block 1 (.loop (zq [zb 101 .lss 100 99] (.seq (.cond (.t 101) .skip (.exit 1)) (.seq (.block 2 (zq [zm 102 100,zm 7 102] (zq [zm 103 0,zm 104 1,zc 105 104,zf 106 3 105,zl 107 106,zm 108 7,zo 109 (.idxA 4 (.t 107) (.t 108)),zm 110 2,zk 111 .add 110 1,zx 112 125 [.t 103,.t 109,.t 111],zo 113 (.un .not (.t 112))] (.cond (.t 113) (zq [zo 6 (.mv (.c (.bool false)))] .ret) .skip)))) (.reg [zk 114 .add 100 1,zm 100 114]))))))) (zq [zo 6 (.mv (.c (.bool true)))] .ret)))),[.t 6]⟩
theorem za125:cN Tryz.prog 125=some c125:=by kernel_rfl
def c164:AFn:=⟨30,zq [zo 4 (.mv (.c (.bool false)))] (.seq (zq [zm 5 1] (.block 0 (zq [zk 7 .eql 5 1,zm 6 7] (.cond (.t 6) (zq [zm 8 0,zo 9 (.bin .eql (.t 8) (.c (.str [45]))),zm 10 9,zg 11 (.mv (.t 0)) 10 false,zg 12 (.bin .eql (.t 11) (.c (.str [33]))) 10 false,zo 13 (.pick (.t 10) (.c (.bool true)) (.t 12)),zm 4 13] .ret) (zq [zk 15 .eql 5 2,zm 14 15] (.cond (.t 14) (zq [zm 16 0] (.block 1 (zr [zo 18 (.bin .eql (.t 16) (.c (.str [124,124]))),zm 17 18] 17 .skip (zq [zo 19 (.bin .eql (.t 16) (.c (.str [38,38]))),zm 17 19] (.cond (.t 17) .skip (zq [zo 20 (.bin .eql (.t 16) (.c (.str [61,61]))),zm 17 20] (.cond (.t 17) .skip (zq [zo 21 (.bin .eql (.t 16) (.c (.str [33,61]))),zm 17 21] (.cond (.t 17) .skip (zq [zo 22 (.bin .eql (.t 16) (.c (.str [60,61]))),zm 17 22] (.cond (.t 17) .skip (zq [zo 23 (.bin .eql (.t 16) (.c (.str [62,61]))),zm 17 23] (.cond (.t 17) .skip (zq [zo 24 (.bin .eql (.t 16) (.c (.str [60]))),zm 17 24] (.cond (.t 17) .skip (zq [zo 25 (.bin .eql (.t 16) (.c (.str [62]))),zm 17 25] (.cond (.t 17) .skip (zq [zo 26 (.bin .eql (.t 16) (.c (.str [43]))),zm 17 26] (.cond (.t 17) .skip (zq [zo 27 (.bin .eql (.t 16) (.c (.str [45]))),zm 17 27] (.cond (.t 17) .skip (zq [zo 28 (.bin .eql (.t 16) (.c (.str [42]))),zm 17 28] (.cond (.t 17) .skip (.reg [zo 29 (.bin .eql (.t 16) (.c (.str [47]))),zm 17 29]))))))))))))))))))))) (.cond (.t 17) (zq [zo 4 (.mv (.c (.bool true)))] .ret) .skip)))) .skip)))))) (zq [zo 4 (.mv (.c (.bool false)))] .ret)),[.t 4]⟩
theorem za164:cN Tryz.prog 164=some c164:=by kernel_rfl
end
open Go.Abs Go.Abs.S
def PtC(H:AHeap)(p:AVal)(c:List AVal):Prop:=∃a,p=.ptr (some a)∧rdCells H a c.length=some c
def fp(p:AVal)(o:Nat):AVal:=match p with
 | .ptr (some a)=>.ptr (some ⟨a.b,a.lim,a.o+o⟩)
 | _=>undefA
theorem PtC.chk{H:AHeap}{p:AVal}{c:List AVal}(h:PtC H p c):aNilChk p=some p:=by
 obtain⟨a,rfl,_⟩:=h; rfl
theorem PtC.fld{H:AHeap}{p:AVal}{c:List AVal}(h:PtC H p c)(o:Nat):aField o p=some (fp p o):=by
 obtain⟨a,rfl,_⟩:=h; rfl
theorem PtC.fld0{H:AHeap}{p:AVal}{c:List AVal}(h:PtC H p c):aField 0 p=some p:=by
 obtain⟨a,rfl,_⟩:=h; rfl
theorem PtC.part{H:AHeap}{p:AVal}{c:List AVal}(h:PtC H p c){o k:Nat}(hk:o+k≤c.length):PtC H (fp p o) ((c.drop o).take k):=by
 obtain⟨a,rfl,h1⟩:=h
 refine⟨_,rfl,?_⟩
 rw[show ((c.drop o).take k).length=k by rw[List.length_take,List.length_drop]; omega]
 exact rd_part h1 hk
theorem PtC.load{H:AHeap}{p:AVal}{c:List AVal}(h:PtC H p c){o:Nat}{x:AVal}(hx:c[o]?=some x):oLoad false 1 H (fp p o)=some x:=by
 obtain⟨a,rfl,h1⟩:=h
 have hlt:=(List.getElem?_eq_some_iff.1 hx).1
 have:=rd_part h1 (i:=o) (j:=1) om
 have e:(c.drop o).take 1=[x]:=by
  rw[List.drop_eq_getElem_cons hlt,List.take_succ_cons,List.take_zero,(List.getElem?_eq_some_iff.1 hx).2]
 rw[e]at this
 simp only[fp,oLoad,this,cond_false]
theorem PtC.load0{H:AHeap}{p:AVal}{c:List AVal}(h:PtC H p c){x:AVal}(hx:c[0]?=some x):oLoad false 1 H p=some x:=by
 have:=h.load hx
 obtain⟨a,rfl,_⟩:=h
 exact this
theorem PtC.same{H H':AHeap}{p:AVal}{c:List AVal}(h:PtC H p c)(e:∀a,p=.ptr (some a)→H'.get a.b=H.get a.b):PtC H' p c:=by
 obtain⟨a,rfl,h1⟩:=h
 exact⟨a,rfl,by rw[rd_congr (e a rfl)]; exact h1⟩
theorem SlK.pt{P:Nat→Prop}{H:AHeap}{m k:Nat}{v:AVal}{C:List AVal}(h:SlK P H m v k C){i:Nat}(hi:i<k):PtC H (placeK m v i) ((C.drop (i*m)).take m):=by
 rcases h with⟨_,rfl,_⟩ | ⟨a,r,rfl,_,h3⟩
 ·omega
 ·have hm:i*m+m≤m*k:=by
   have:(i+1)*m≤k*m:=Nat.mul_le_mul_right m hi
   rw[Nat.mul_comm m k]; rw[Nat.add_mul,Nat.one_mul]at this; exact this
  have hl:C.length=m*k:=by
   obtain⟨l,low,ro,mk,h1,h2,h3',h4,rfl⟩:=rd_spec h3
   rw[List.length_take,List.length_drop]; omega
  refine⟨_,rfl,?_⟩
  rw[show ((C.drop (i*m)).take m).length=m by rw[List.length_take,List.length_drop]; omega]
  exact rd_part h3 hm
theorem isname_spec(s:Bs){H:AHeap}:ACalls Tryz.prog natT 124 [.str s] H fun u H'=>u=.bool (nameF s)∧Ext H.next H H':=by
 refine acalls_ofN rfl za124 rfl ?_
 simp only[c124,sA,sB,seval]
 refine (next_spec nwoT (s:=s) (p:=((0:Nat):Int)) om om).mono ?_
 rintro v H1 ⟨rfl,E1⟩
 have e1:=E1.next
 obtain⟨H2,m2,r2,n2,k2⟩:=row_newL H1 [.int .u8 0,.str [],.int .i64 0,.int .i64 0,.int .i64 0,.int .i64 0] (n:=6) rfl
 obtain⟨H3,m3,r3,n3,k3⟩:=row_newL H2 [.int .i64 0,.int .i64 0] (n:=2) rfl
 cases hn:nextW s 0 with
 | error e=>
  rw[nextA_bad hn]
  have he:=nextW_err hn
  have he':¬(e.1:Int)=0:=om
  obtain⟨H4,m4,r4,n4,k4⟩:=row_storeN (H:=H3) (r2.same (k3 _ om)) (n:=6) rfl (xs:=wdL 0 [] 0 0 0 0) rfl rfl
  obtain⟨H5,m5,r5,n5,k5⟩:=row_storeN (H:=H4) (r3.same (k4 _ om)) (n:=2) rfl (xs:=flL e.1 e.2) rfl rfl
  have l5:oLoad false 1 H5 (cellR H2.next 2 0)=some (.int .i64 (e.1:Int)):=row_load r5 rfl rfl
  have hf:nameF s=false:=by unfold nameF; rw[hn]
  simp only[sA,sB,seval,pairA,ext_0,ext_1,m2,m3,m4,m5,fld0,l5,he',hf]
  exact⟨tt,om,fun c hc=>by rw[k5 c om,k4 c om,k3 c om,k2 c om,E1.old c hc]⟩
 | ok w=>
  rw[nextA_ok hn]
  obtain⟨H4,m4,r4,n4,k4⟩:=row_storeN (H:=H3) (r2.same (k3 _ om)) (n:=6) rfl (xs:=wdL w.k w.S w.n w.line w.at_ w.en) rfl rfl
  obtain⟨H5,m5,r5,n5,k5⟩:=row_storeN (H:=H4) (r3.same (k4 _ om)) (n:=2) rfl (xs:=flL 0 0) rfl rfl
  have r45:=r4.same (k5 _ om)
  have l5:oLoad false 1 H5 (cellR H2.next 2 0)=some (.int .i64 0):=row_load r5 rfl rfl
  have q0:oLoad false 1 H5 (cellR H1.next 6 0)=some (.int .u8 (w.k:Int)):=row_load r45 rfl rfl
  have q1:oLoad false 1 H5 (cellR H1.next 6 1)=some (.str w.S):=row_load r45 rfl rfl
  have E5:Ext H.next H H5:=⟨om,fun c hc=>by rw[k5 c om,k4 c om,k3 c om,k2 c om,E1.old c hc]⟩
  by_cases hk:w.k=2
  ·have hk':(w.k:Int)=2:=om
   have hf:nameF s=decide (w.S=s):=by unfold nameF; rw[hn]; simp only[hk]; rfl
   simp only[sA,sB,seval,pairA,ext_0,ext_1,m2,m3,m4,m5,fld0,fldA,l5,q0,q1,hk',hf]
   exact⟨tt,E5⟩
  ·have hk':¬(w.k:Int)=2:=om
   have hf:nameF s=false:=by
    unfold nameF; rw[hn]
    have:Nat.beq w.k 2=false:=by rw[beq_dec]; exact decide_eq_false hk
    simp only[this]; rfl
   simp only[sA,sB,seval,pairA,ext_0,ext_1,m2,m3,m4,m5,fld0,fldA,l5,q0,q1,hk',hf]
   exact⟨tt,E5⟩
theorem issign_spec(s:Bs)(n:Nat){H:AHeap}:ACalls Tryz.prog natT 164 [.str s,.int .i64 (n:Int)] H fun u H'=>u=.bool (opF s n)∧H=H':=by
 refine acalls_ofN rfl za164 rfl ?_
 by_cases h1:n=1
 ·subst h1
  by_cases e1:s=[45]
  ·subst e1; simp only[c164,sA,sB,seval]; exact⟨tt,tt⟩
  by_cases e2:s=[33]
  ·subst e2; simp only[c164,sA,sB,seval,e1]; exact⟨tt,tt⟩
  have:opF s 1=false:=by simp[opF,e1,e2]
  simp only[c164,sA,sB,seval,e1,e2,this]
  exact⟨tt,tt⟩
 have h1':¬(n:Int)=1:=om
 by_cases h2:n=2
 ·subst h2
  have op:opF s 2=[[124,124],[38,38],[61,61],[33,61],[60,61],[62,61],[60],[62],[43],[45],[42],[47]].contains s:=rfl
  rw[op]
  by_cases e0:s=[124,124]
  ·subst e0; simp only[c164,sA,sB,seval]; exact⟨by rfl,tt⟩
  by_cases e1:s=[38,38]
  ·subst e1; simp only[c164,sA,sB,seval]; exact⟨by rfl,tt⟩
  by_cases e2:s=[61,61]
  ·subst e2; simp only[c164,sA,sB,seval]; exact⟨by rfl,tt⟩
  by_cases e3:s=[33,61]
  ·subst e3; simp only[c164,sA,sB,seval]; exact⟨by rfl,tt⟩
  by_cases e4:s=[60,61]
  ·subst e4; simp only[c164,sA,sB,seval]; exact⟨by rfl,tt⟩
  by_cases e5:s=[62,61]
  ·subst e5; simp only[c164,sA,sB,seval]; exact⟨by rfl,tt⟩
  by_cases e6:s=[60]
  ·subst e6; simp only[c164,sA,sB,seval]; exact⟨by rfl,tt⟩
  by_cases e7:s=[62]
  ·subst e7; simp only[c164,sA,sB,seval]; exact⟨by rfl,tt⟩
  by_cases e8:s=[43]
  ·subst e8; simp only[c164,sA,sB,seval]; exact⟨by rfl,tt⟩
  by_cases e9:s=[45]
  ·subst e9; simp only[c164,sA,sB,seval]; exact⟨by rfl,tt⟩
  by_cases e10:s=[42]
  ·subst e10; simp only[c164,sA,sB,seval]; exact⟨by rfl,tt⟩
  by_cases e11:s=[47]
  ·subst e11; simp only[c164,sA,sB,seval]; exact⟨by rfl,tt⟩
  have:([[124,124],[38,38],[61,61],[33,61],[60,61],[62,61],[60],[62],[43],[45],[42],[47]]:List Bs).contains s=false:=by simp[e0,e1,e2,e3,e4,e5,e6,e7,e8,e9,e10,e11]
  simp only[c164,sA,sB,seval,e0,e1,e2,e3,e4,e5,e6,e7,e8,e9,e10,e11,this]
  exact⟨tt,tt⟩
 have h2':¬(n:Int)=2:=om
 have:opF s n=false:=by
  unfold opF
  split
  ·exact absurd rfl h1
  ·exact absurd rfl h2
  ·rfl
 simp only[c164,sA,sB,seval,h1',h2',this]
 exact⟨tt,tt⟩
theorem size_mem{e:Ex}:∀{l:List Ex},e∈l→e.size≤sizesE l
 | [],h=>by simp at h
 | x::l,h=>by
  simp only[sizesE]
  rcases List.mem_cons.1 h with rfl | h
  ·omega
  ·have:=size_mem h; omega
theorem sizesE_app(l m:List Ex):sizesE (l++m)=sizesE l+sizesE m:=by
 induction l with
 | nil=>simp[sizesE]
 | cons x l ih=>simp only[List.cons_append,sizesE,ih]; omega
theorem deepsE_app(l m:List Ex):deepsE (l++m)=max (deepsE l) (deepsE m):=by
 induction l with
 | nil=>simp[deepsE]
 | cons x l ih=>simp only[List.cons_append,deepsE,ih]; omega
theorem oksE_app(l m:List Ex):oksE (l++m)=(oksE l&&oksE m):=by
 induction l with
 | nil=>simp[oksE]
 | cons x l ih=>simp only[List.cons_append,oksE,ih,Bool.and_assoc]
theorem len_sizesE(l:List Ex):l.length≤sizesE l:=by
 induction l with
 | nil=>simp
 | cons x l ih=>cases x; simp only[List.length_cons,sizesE,Ex.size]; omega
def RtE(n deep:Nat)(e:Ex):Prop:=okE e=true∧n+e.size≤1000∧deep+e.deep≤41
def RtEs(n deep:Nat)(l:List Ex):Prop:=oksE l=true∧n+sizesE l≤1000∧deep+deepsE l≤41
theorem rtEs_snoc{n deep:Nat}{l:List Ex}{e:Ex}:RtEs n deep (l++[e])↔RtEs n deep l∧RtE (n+sizesE l) deep e:=by
 unfold RtEs RtE
 rw[oksE_app,sizesE_app,deepsE_app]
 simp only[oksE,sizesE,deepsE,Bool.and_true,Bool.and_eq_true]
 constructor
 ·rintro ⟨⟨a,b⟩,c,d⟩; exact⟨⟨a,om,om⟩,b,om,om⟩
 ·rintro ⟨⟨a,b,c⟩,d,e,f⟩; exact⟨⟨a,d⟩,om,om⟩
theorem rtEs_take{n deep:Nat}{l:List Ex}(h:RtEs n deep l)(i:Nat):RtEs n deep (l.take i):=by
 have:=List.take_append_drop i l
 unfold RtEs at *
 rw[← this,oksE_app,sizesE_app,deepsE_app]at h
 simp only[Bool.and_eq_true]at h
 obtain⟨⟨a,b⟩,c,d⟩:=h
 exact⟨a,om,om⟩
theorem mone_spec{H:AHeap}{mb:Nat}{n deep:Nat}(hm:Row H mb [.int .i64 (n:Int)])(hn:n≤1000000):ACalls Tryz.prog natT 123 [cellR mb 1 0,.int .i64 (deep:Int)] H fun u H'=>(∃b,u=.bool b∧(b=true↔n+1≤1000∧deep≤40))∧Row H' mb [.int .i64 ((n+1:Nat):Int)]∧H'.next=H.next∧∀c,c≠mb→H'.get c=H.get c:=by
 refine acalls_ofN rfl za123 rfl ?_
 have l0:oLoad false 1 H (cellR mb 1 0)=some (.int .i64 (n:Int)):=row_load hm rfl rfl
 have wk:IntKind.i64.wrap ((n:Int)+1)=((n+1:Nat):Int):=w64
 obtain⟨H1,m1,r1,n1,k1⟩:=row_st hm (n:=1) rfl (i:=0) om (x:=.int .i64 ((n+1:Nat):Int)) rfl (l':=[.int .i64 ((n+1:Nat):Int)]) rfl
 have l1:oLoad false 1 H1 (cellR mb 1 0)=some (.int .i64 ((n+1:Nat):Int)):=row_load r1 rfl rfl
 by_cases h1:n+1≤1000
 ·have h1':((n+1:Nat):Int)≤1000:=om
  by_cases h2:deep≤40
  ·have h2':(deep:Int)≤40:=om
   simp only[c123,sA,sB,seval,nil_cell,fld0,l0,wk,m1,l1,h1',h2']
   exact⟨⟨true,tt,fun _=>⟨om,om⟩,fun _=>rfl⟩,r1,n1,k1⟩
  ·have h2':¬(deep:Int)≤40:=om
   simp only[c123,sA,sB,seval,nil_cell,fld0,l0,wk,m1,l1,h1',h2']
   exact⟨⟨false,tt,by simp; omega⟩,r1,n1,k1⟩
 ·have h1':¬((n+1:Nat):Int)≤1000:=om
  simp only[c123,sA,sB,seval,nil_cell,fld0,l0,wk,m1,l1,h1']
  exact⟨⟨false,tt,by simp; omega⟩,r1,n1,k1⟩
def OutR(mb:Nat)(n size:Nat)(ok:Prop)(H:AHeap)(u:AVal)(H':AHeap):Prop:=
 ((ok∧u=.bool true∧Row H' mb [.int .i64 ((n+size:Nat):Int)])∨(¬ok∧u=.bool false))∧Fp mb H H'
theorem PtC.fp{H H':AHeap}{mb:Nat}{p:AVal}{c:List AVal}(h:PtC H p c)(f:Fp mb H H')(hp:∀a,p=.ptr (some a)→a.b<H.next∧a.b≠mb):PtC H' p c:=h.same fun a e=>f.old _ (hp a e).1 (hp a e).2
theorem mexpr_spec:∀(N:Nat) {e:Ex} {c:List AVal} {H:AHeap} {mb n deep:Nat} {p:AVal},e.size≤N→PtC H p c→(∀a,p=.ptr (some a)→a.b<H.next∧a.b≠mb)→XE (fun b=>b<H.next∧b≠mb) H e c→Row H mb [.int .i64 (n:Int)]→mb<H.next→n≤1000→deep≤41 →
  ACalls Tryz.prog natT 125 [cellR mb 1 0,p,.int .i64 (deep:Int)] H (OutR mb n e.size (RtE n deep e) H)
 | 0,e,_,_,_,_,_,_,h,_,_,_,_,_,_,_=>by cases e; simp[Ex.size]at h
 | N+1,.mk k s z kids,c,H,mb,n,deep,p,h,hp,hpb,hx,hm,hmb,hn,hd=>by
  obtain⟨v,C,rfl,z1,z2⟩:=hx
  obtain⟨Q,hQ⟩:∃Q,Q=OutR mb n (Ex.mk k s z kids).size (RtE n deep (Ex.mk k s z kids)) H:=⟨_,rfl⟩
  obtain⟨PF,hPF⟩:∃PF:Prop,PF↔partF k s z kids.length=true:=⟨_,Iff.rfl⟩
  rw[← hQ]
  refine acalls_ofN rfl za125 rfl ?_
  have hsz:(Ex.mk k s z kids).size=sizesE kids+1:=rfl
  have hdp:(Ex.mk k s z kids).deep=deepsE kids+1:=rfl
  simp only[c125,sA,sB,seval]
  refine (mone_spec (deep:=deep) hm om).mono ?_
  rintro _ H1 ⟨⟨b,rfl,hb⟩,r1,n1,k1⟩
  have F1:Fp mb H H1:=⟨om,fun c _ hc=>k1 c hc⟩
  have pp:=hp.fp F1 hpb
  have p0:=pp.load0 (x:=.int .u8 (k:Int)) rfl
  have p1:=pp.load (o:=1) (x:=.str s) rfl
  have p2:=pp.load (o:=2) (x:=.int .i64 z) rfl
  have p3:=pp.load (o:=3) (x:=v) rfl
  have q0:=pp.fld0
  have q1:=pp.fld 1
  have q2:=pp.fld 2
  have q3:=pp.fld 3
  have qc:=pp.chk
  have ln:=z1.len
  cases b with
  | false=>
   have hno:¬RtE n deep (.mk k s z kids):=by
    rintro ⟨_,q1,q2⟩; exact absurd (hb.2 ⟨om,om⟩) (by simp)
   simp only[sA,sB,seval]
   rw[hQ]
   exact⟨.inr ⟨hno,tt⟩,F1⟩
  | true=>
  obtain⟨h01,h02⟩:=hb.1 rfl
  have hok:okE (.mk k s z kids)=(partF k s z kids.length&&oksE kids):=by simp only[okE]
  have hR:RtE n deep (.mk k s z kids)↔partF k s z kids.length=true∧RtEs (n+1) (deep+1) kids:=by
   unfold RtE RtEs
   rw[hok,hsz,hdp,Bool.and_eq_true]
   constructor
   ·rintro ⟨⟨a,b⟩,c,d⟩; exact⟨a,b,om,om⟩
   ·rintro ⟨a,b,c,d⟩; exact⟨⟨a,b⟩,om,om⟩
  have leaf:kids=[]→RtEs (n+1) (deep+1) kids:=by
   rintro rfl; exact⟨rfl,by simp only[sizesE]; omega,by simp only[deepsE]; omega⟩
  have fin:∀(b:Bool) (H2:AHeap),partF k s z kids.length=b→(b=true→kids=[])→Fp mb H H2→Row H2 mb [.int .i64 ((n+1:Nat):Int)]→Q (.bool b) H2:=by
   intro b H2 h1 h2 h3 h4
   rw[hQ]
   refine⟨?_,h3⟩
   cases b with
   | false=>exact .inr ⟨fun q=>by rw[(hR.1 q).1]at h1; simp at h1,rfl⟩
   | true=>
    have hk:=h2 rfl
    refine .inl ⟨hR.2 ⟨h1,leaf hk⟩,rfl,?_⟩
    rw[hsz,hk]
    exact h4
  simp only[sW,sL,sXs,sXO,sXP,sB,seval,qc,q0,p0]
  rw[aw_block]
  refine aw_cut (fun (T:Env) H'=>T 0=cellR mb 1 0∧T 1=p∧T 2=.int .i64 (deep:Int)∧Fp mb H H'∧Row H' mb [.int .i64 ((n+1:Nat):Int)]∧PF) (calls_mono _ _) ?_ ?_
  rotate_left
  ·rintro T H2 ⟨t0,t1,t2,F2,r2,hpt⟩
   have e2:=F2.next
   have pp2:=hp.fp F2 hpb
   have p32:=pp2.load (o:=3) (x:=v) rfl
   simp only[sA,sB,seval,t0,t1,t2,qc,q3,p32,ln]
   refine aw_loop (fun m (T:Env) H'=>∃i:Nat,m=kids.length-i∧i≤kids.length∧T 0=cellR mb 1 0∧T 1=p∧T 2=.int .i64 (deep:Int)∧T 99=.int .i64 (kids.length:Int)∧T 100=.int .i64 (i:Int)∧Fp mb H H'∧Row H' mb [.int .i64 ((n+1+sizesE (kids.take i):Nat):Int)]∧RtEs (n+1) (deep+1) (kids.take i)) kids.length
    ⟨0,rfl,Nat.zero_le _,by simp only[sA,sB,seval,t0],by simp only[sA,sB,seval,t1],by simp only[sA,sB,seval,t2],by simp only[sA,sB,seval],by simp only[sA,sB,seval]; try rfl,F2,r2,rfl,by simp only[List.take_zero,sizesE]; omega,by simp only[List.take_zero,deepsE]; omega⟩ ?_
   rintro m T H3 ⟨i,rfl,hi,t0,t1,t2,t99,t100,F3,r3,hR3⟩
   have e3:=F3.next
   by_cases hlt:i<kids.length
   case neg=>
    obtain rfl:i=kids.length:=om
    have hlt':¬(kids.length:Int)<(kids.length:Int):=om
    rw[List.take_length]at hR3 r3
    simp only[sA,sB,seval,t99,t100,hlt']
    rw[hQ]
    refine⟨.inl ⟨hR.2 ⟨hPF.1 hpt,hR3⟩,tt,?_⟩,F3⟩
    rw[hsz,show n+(sizesE kids+1)=n+1+sizesE kids by omega]; exact r3
   have hlt':(i:Int)<(kids.length:Int):=om
   obtain⟨e,he⟩:∃e,kids[i]?=some e:=⟨_,List.getElem?_eq_getElem hlt⟩
   have hts:kids.take (i+1)=kids.take i++[e]:=by rw[List.take_add_one,he]; rfl
   have pp3:=hp.fp F3 hpb
   have p33:=pp3.load (o:=3) (x:=v) rfl
   have km:∀b,(b<H.next∧b≠mb)→(b<H3.next∧b≠mb)∧H3.get b=H.get b:=fun b hb=>⟨⟨om,hb.2⟩,F3.old b hb.1 hb.2⟩
   have z13:=z1.mono km
   have z23:=z2.mono km
   have ix:=z13.idx hlt
   have hk:=z13.pt hlt
   have he3:=z23.at he
   have hmem:e∈kids:=List.mem_of_getElem? he
   have hsm:=size_mem hmem
   have wd:IntKind.i64.wrap ((deep:Int)+1)=((deep+1:Nat):Int):=w64
   have wi:IntKind.i64.wrap ((i:Int)+1)=((i+1:Nat):Int):=by
    have e1:=len_sizesE (kids.take i)
    have e2:=hR3.2.1
    rw[List.length_take,Nat.min_eq_left hi]at e1
    rw[IntKind.wrap_i64]; omega
   simp only[sA,sB,seval,t0,t1,t2,t99,t100,hlt',qc,q3,p33,ix,wd]
   refine (mexpr_spec N (by rw[hsz]at h; omega) hk ?_ he3 r3 om hR3.2.1 om).mono ?_
   ·intro a ea
    rcases z13 with⟨_,h0,_⟩ | ⟨a',r,rfl,h0,_⟩
    ·omega
    ·simp only[placeK,AVal.ptr.injEq,sJ]at ea
     subst ea; exact h0
   rintro u H4 ⟨ho,F4⟩
   have F04:=F3.trans F4
   rcases ho with⟨hgo,rfl,r4⟩ | ⟨hgo,rfl⟩
   ·simp only[sA,sB,seval,t0,t1,t2,t99,t100,wi]
    refine⟨kids.length-(i+1),om,i+1,rfl,om,tt,tt,tt,tt,tt,F04,?_,?_⟩
    ·rw[hts,sizesE_app]
     simp only[sizesE,Nat.add_zero]
     rw[← Nat.add_assoc]; exact r4
    ·rw[hts,rtEs_snoc]; exact⟨hR3,hgo⟩
   ·simp only[sA,sB,seval]
    rw[hQ]
    refine⟨.inr ⟨fun q=>hgo ?_,tt⟩,F04⟩
    have:=rtEs_take (hR.1 q).2 (i+1)
    rw[hts,rtEs_snoc]at this
    exact this.2
  by_cases k1':k=1
  ·have k1i:(k:Int)=1:=om
   have hpart:partF k s z kids.length=(decide (0≤z)&&(s.isEmpty&&Nat.beq kids.length 0)):=by unfold partF; rw[if_pos k1']
   by_cases a1:0≤z
   ·by_cases a2:s=[]
    ·by_cases a3:kids=[]
     ·have a3':(kids.length:Int)=0:=by rw[a3]; rfl
      simp only[sA,sB,seval,qc,q0,q1,q2,q3,p0,p1,p2,p3,ln,k1i,a1,a2,a3']
      exact fin true H1 (by rw[hpart,a2,a3,decide_eq_true a1]; rfl) (fun _=>a3) F1 r1
     ·have a3':¬(kids.length:Int)=0:=by have:=List.length_pos_iff.2 a3; omega
      simp only[sA,sB,seval,qc,q0,q1,q2,q3,p0,p1,p2,p3,ln,k1i,a1,a2,a3']
      exact fin false H1 (by rw[hpart,show Nat.beq kids.length 0=false by rw[beq_dec]; exact decide_eq_false om]; simp) (by simp) F1 r1
    ·simp only[sA,sB,seval,qc,q0,q1,q2,q3,p0,p1,p2,p3,ln,k1i,a1,a2]
     exact fin false H1 (by rw[hpart,show s.isEmpty=false by cases s <;> simp_all]; simp) (by simp) F1 r1
   ·simp only[sA,sB,seval,qc,q0,q1,q2,q3,p0,p1,p2,p3,ln,k1i,a1]
    exact fin false H1 (by rw[hpart,decide_eq_false a1]; rfl) (by simp) F1 r1
  have k1i:¬(k:Int)=1:=om
  by_cases k2':k=2
  ·have k2i:(k:Int)=2:=om
   have hpart:partF k s z kids.length=(decide (z=0)&&(nameF s&&Nat.beq kids.length 0)):=by unfold partF; rw[if_neg k1',if_pos k2']
   by_cases a1:z=0
   ·simp only[sA,sB,seval,qc,q0,q1,q2,q3,p0,p1,p2,p3,ln,k1i,k2i,a1]
    refine (isname_spec s).mono ?_
    rintro _ H2 ⟨rfl,E2⟩
    have F12:Fp mb H1 H2:=⟨E2.next,fun c hc _=>E2.old c hc⟩
    have pp2:=hp.fp (F1.trans F12) hpb
    have p32:=pp2.load (o:=3) (x:=v) rfl
    have r2:=r1.same (E2.old mb om)
    cases a2:nameF s with
    | false=>
     simp only[sA,sB,seval]
     exact fin false H2 (by rw[hpart,a2]; simp) (by simp) (F1.trans F12) r2
    | true=>
     by_cases a3:kids=[]
     ·have a3':(kids.length:Int)=0:=by rw[a3]; rfl
      simp only[sA,sB,seval,qc,q3,p32,ln,a3']
      exact fin true H2 (by rw[hpart,a2,a3,decide_eq_true a1]; rfl) (fun _=>a3) (F1.trans F12) r2
     ·have a3':¬(kids.length:Int)=0:=by have:=List.length_pos_iff.2 a3; omega
      simp only[sA,sB,seval,qc,q3,p32,ln,a3']
      exact fin false H2 (by rw[hpart,show Nat.beq kids.length 0=false by rw[beq_dec]; exact decide_eq_false om]; simp) (by simp) (F1.trans F12) r2
   ·simp only[sA,sB,seval,qc,q0,q1,q2,q3,p0,p1,p2,p3,ln,k1i,k2i,a1]
    exact fin false H1 (by rw[hpart,decide_eq_false a1]; rfl) (by simp) F1 r1
  have k2i:¬(k:Int)=2:=om
  by_cases k3':k=3
  ·have k3i:(k:Int)=3:=om
   have hpart:partF k s z kids.length=(decide (z=0)&&opF s kids.length):=by unfold partF; rw[if_neg k1',if_neg k2',if_pos k3']
   by_cases a1:z=0
   ·simp only[sA,sB,seval,qc,q0,q1,q2,q3,p0,p1,p2,p3,ln,k1i,k2i,k3i,a1]
    refine (issign_spec s kids.length).mono ?_
    rintro _ _ ⟨rfl,rfl⟩
    cases a2:opF s kids.length with
    | false=>
     simp only[sA,sB,seval]
     exact fin false H1 (by rw[hpart,a2]; simp) (by simp) F1 r1
    | true=>
     simp only[sA,sB,seval]
     exact⟨tt,tt,tt,F1,r1,hPF.2 (by rw[hpart,a2,decide_eq_true a1]; rfl)⟩
   ·simp only[sA,sB,seval,qc,q0,q1,q2,q3,p0,p1,p2,p3,ln,k1i,k2i,k3i,a1]
    exact fin false H1 (by rw[hpart,decide_eq_false a1]; rfl) (by simp) F1 r1
  have k3i:¬(k:Int)=3:=om
  by_cases k4':k=4
  ·have k4i:(k:Int)=4:=om
   have hpart:partF k s z kids.length=(decide (z=0)&&nameF s):=by unfold partF; rw[if_neg k1',if_neg k2',if_neg k3',if_pos k4']
   by_cases a1:z=0
   ·simp only[sA,sB,seval,qc,q0,q1,q2,q3,p0,p1,p2,p3,ln,k1i,k2i,k3i,k4i,a1]
    refine (isname_spec s).mono ?_
    rintro _ H2 ⟨rfl,E2⟩
    have F12:Fp mb H1 H2:=⟨E2.next,fun c hc _=>E2.old c hc⟩
    have r2:=r1.same (E2.old mb om)
    cases a2:nameF s with
    | false=>
     simp only[sA,sB,seval]
     exact fin false H2 (by rw[hpart,a2]; simp) (by simp) (F1.trans F12) r2
    | true=>
     simp only[sA,sB,seval]
     exact⟨tt,tt,tt,F1.trans F12,r2,hPF.2 (by rw[hpart,a2,decide_eq_true a1]; rfl)⟩
   ·simp only[sA,sB,seval,qc,q0,q1,q2,q3,p0,p1,p2,p3,ln,k1i,k2i,k3i,k4i,a1]
    exact fin false H1 (by rw[hpart,decide_eq_false a1]; rfl) (by simp) F1 r1
  have k4i:¬(k:Int)=4:=om
  simp only[sA,sB,seval,k1i,k2i,k3i,k4i]
  exact fin false H1 (by unfold partF; rw[if_neg k1',if_neg k2',if_neg k3',if_neg k4']) (by simp) F1 r1
end Go.Proofs.Wo
