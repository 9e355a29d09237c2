/- Part of a proof (YWI YWJ YWK YP0 YPF YPH YC2 YP1 YP2); no condition. -/
import Derived.Test.YtfleblkgifoeaaaGreatDoorProg
import Derived.KernelRfl
import Derived.Test.YtfleblkgifoeaaaGreatDoorP7
import Derived.Test.YtfleblkgifoeaaaGreatDoorP8
set_option linter.unusedSimpArgs false
set_option linter.unusedVariables false
set_option linter.unnecessarySimpa false
namespace Go.Proofs.Wo
open Go.Abs Go.Abs.S
structure NWo(N:ANat):Prop where
 no:∀f,f≠153→N.is f=false
 yes:N.is 153=true
 clone:∀(s:Bs) (H:AHeap),s.length≤281474976710656→N.run 153 [.str s] H=some (.str s,H)
theorem NWo.str(h:NWo natT):NStr natT:=⟨h.no _ dD,h.no _ dD,h.no _ dD,h.no _ dD,h.no _ dD,h.no _ dD,h.no _ dD,h.no _ dD⟩
theorem clone_spec(hN:NWo natT){s:Bs}(hs:s.length≤281474976710656){H:AHeap}:ACalls Tryz.prog natT 109 [.str s] H fun v H'=>v=.str s∧H=H':=by
 refine acalls_ofN (hN.no _ dD) za109 rfl ?_
 simp only[c109,sA,sB,seval]
 refine acalls_nat hN.yes (hN.clone s H hs) ?_
 simp only[sA,sB,seval]
 exact⟨by trivial,by trivial⟩
def sub(s:Bs)(i e:Nat):Bs:=(s.drop i).take (e-i)
def wdL(k:Nat)(S:Bs)(n line at_ en:Nat):List AVal:=[.int .u8 (k:Int),.str S,.int .i64 (n:Int),.int .i64 (line:Int),.int .i64 (at_:Int),.int .i64 (en:Int)]
def flL(e line:Nat):List AVal:=[.int .i64 (e:Int),.int .i64 (line:Int)]
structure Tok where
 k:Nat
 S:Bs
 n:Nat
 e:Nat
def oneF(s:Bs)(i:Nat):Option Tok:=match s[i]? with
 | none=>none
 | some c=>
  if dig c=true then (match saysF (sub s i (numF s i)) with | some n=>some ⟨1,[],n,numF s i⟩ | none=>none)
  else if beg c=true then some ⟨if keyF (sub s i (runF bgd s i))=true then 3 else 2,sub s i (runF bgd s i),0,runF bgd s i⟩
  else if signF (s.drop i)=[] then none else some ⟨4,signF (s.drop i),0,i+(signF (s.drop i)).length⟩
def oneA(i:Nat):Option Tok→List AVal
 | some t=>wdL t.k t.S t.n 0 i t.e
 | none=>wdL 0 [] 0 0 0 0
theorem numF_pos{s:Bs}{i:Nat}{c:UInt8}(h:s[i]?=some c):i<numF s i↔dig c=true:=by
 cases hc:dig c with
 | false=>
  have h1:=runF_no h hc
  have:numF s i=i:=by rw[numF,h1,if_pos (.inl rfl)]
  rw[this]; simp
 | true=>
  have h1:=runF_go h hc
  have h2:=runF_ge dig s (i+1)
  have h3:i<numF s i:=by
   unfold numF
   split
   ·omega
   ·split <;> omega
  simp[h3]
def signsL:List Bs:=[[38,38],[124,124],[61,61],[33,61],[60,61],[62,61],[60],[62],[43],[45],[42],[47],[33],[40],[41],[123],[125],[44],[59],[61]]
theorem signs_split:signsL=twos++ones.map (fun c=>[c]):=by decide
theorem signF_find{c:UInt8}{r:Bs}:signF (c::r)=((signsL.find? (pre (c::r))).getD []):=by
 rw[signs_split,List.find?_append,signF]
 cases twos.find? (pre (c::r)) with
 | some t=>rfl
 | none=>
  simp only[Option.none_or]
  have key:∀l:Bs,(if c∈l then [c] else [])=((l.map fun c=>[c]).find? (pre (c::r))).getD []:=by
   intro l
   induction l with
   | nil=>simp
   | cons d l ih=>
    have hp:pre (c::r) [d]=decide (c=d):=by simp[pre]
    rw[List.map_cons]
    by_cases h:c=d
    ·subst h
     rw[List.find?_cons_of_pos (by rw[hp]; simp)]
     simp
    ·rw[List.find?_cons_of_neg (by rw[hp]; simpa using h),← ih]
     simp[h]
  exact key ones
theorem signsL_ne:∀t∈signsL,t≠[]:=by decide
theorem pre_iff{s t:Bs}{i:Nat}(hi:i≤s.length):pre (s.drop i) t=(decide (i+t.length≤s.length)&&decide ((s.drop i).take t.length=t)):=by
 unfold pre
 by_cases h:i+t.length≤s.length
 ·simp[h]
 ·have:¬(s.drop i).take t.length=t:=by
   intro e
   have:=congrArg List.length e
   simp at this; omega
  simp[this]
theorem signF_le{s:Bs}{i:Nat}(hi:i≤s.length):i+(signF (s.drop i)).length≤s.length:=by
 rcases Nat.lt_or_ge i s.length with h | h
 ·obtain⟨c,hc⟩:=isSome_of_lt h
  rw[drop_some hc,signF_find,← drop_some hc]
  cases hf:signsL.find? (pre (s.drop i)) with
  | none=>simpa using hi
  | some t=>
   have:=List.find?_some hf
   rw[pre_iff hi]at this
   simp only[Bool.and_eq_true,decide_eq_true_eq]at this
   exact this.1
 ·rw[List.drop_eq_nil_of_le h]
  have:signF []=[]:=by decide
  rw[this]; simpa using hi
theorem wdL_one(k:Nat)(S:Bs)(n line at_ en:Nat):(wdL k S n line at_ en).all AVal.one=true:=rfl
theorem wdL_len(k:Nat)(S:Bs)(n line at_ en:Nat):(wdL k S n line at_ en).length=6:=rfl
theorem keys_mem(s:Bs):decide (s∈[[108,101,116],[115,101,116],[105,102],[101,108,115,101],[119,104,105,108,101],[114,101,116,117,114,110]])=keyF s:=by
 rw[Bool.eq_iff_iff]; simp[keyF]
def ZW:List AVal:=[.int .u8 0,.str [],.int .i64 0,.int .i64 0,.int .i64 0,.int .i64 0]
theorem bw_none:aBuild ZW []=some (.agg (wdL 0 [] 0 0 0 0)):=rfl
theorem bw_num(n i e:Nat):aBuild ZW [(0,1,.int .u8 1),(2,1,.int .i64 (n:Int)),(4,1,.int .i64 (i:Int)),(5,1,.int .i64 (e:Int))]=some (.agg (wdL 1 [] n 0 i e)):=rfl
theorem bw_name(S:Bs)(i e:Nat):aBuild ZW [(0,1,.int .u8 2),(1,1,.str S),(4,1,.int .i64 (i:Int)),(5,1,.int .i64 (e:Int))]=some (.agg (wdL 2 S 0 0 i e)):=rfl
theorem bw_sign(S:Bs)(i e:Nat):aBuild ZW [(0,1,.int .u8 4),(1,1,.str S),(4,1,.int .i64 (i:Int)),(5,1,.int .i64 (e:Int))]=some (.agg (wdL 4 S 0 0 i e)):=rfl
theorem bw_at(i line:Nat):aBuild ZW [(4,1,.int .i64 (i:Int)),(5,1,.int .i64 (i:Int)),(3,1,.int .i64 (line:Int))]=some (.agg (wdL 0 [] 0 line i i)):=rfl
theorem bw_end(i line:Nat):aBuild ZW [(0,1,.int .u8 5),(3,1,.int .i64 (line:Int)),(4,1,.int .i64 (i:Int)),(5,1,.int .i64 (i:Int))]=some (.agg (wdL 5 [] 0 line i i)):=rfl
theorem find_at{α:Type}{p:α→Bool}{l:List α}{k:Nat}{x:α}(h:l[k]?=some x)(hn:(l.take k).find? p=none)(hp:p x=true):l.find? p=some x:=by
 have hlt:=(List.getElem?_eq_some_iff.1 h).1
 have e:l=l.take k++x::l.drop (k+1):=by
  rw[List.getElem?_eq_getElem hlt]at h
  simp only[sJ]at h
  rw[← h,← List.drop_eq_getElem_cons hlt,List.take_append_drop]
 rw[e,List.find?_append,hn,Option.none_or,List.find?_cons_of_pos hp]
theorem find_next{α:Type}{p:α→Bool}{l:List α}{k:Nat}{x:α}(h:l[k]?=some x)(hn:(l.take k).find? p=none)(hp:p x=false):(l.take (k+1)).find? p=none:=by
 rw[List.take_add_one,h,List.find?_append,hn,Option.none_or]
 simp[hp]
theorem one_spec(hN:NWo natT){s:Bs}{i:Nat}(hi:i<s.length)(hs:s.length≤1099511627776){H:AHeap} :
  ACalls Tryz.prog natT 114 [.str s,.int .i64 (i:Int)] H fun v H'=>v=.agg (oneA i (oneF s i))∧Ext H.next H H':=by
 refine acalls_ofN (hN.no _ dD) za114 rfl ?_
 obtain⟨c,hc⟩:=isSome_of_lt hi
 obtain⟨H1,m1,r1,n1,k1⟩:=row_newL H ZW (n:=6) rfl
 have hE1:Ext H.next H H1:=Ext.of_new n1 k1 rL
 have hz:([.int .u8 0,.str [],.int .i64 0,.int .i64 0,.int .i64 0,.int .i64 0]:List AVal)=ZW:=rfl
 simp only[c114,sA,sB,seval,hz,m1]
 refine (rnumeral_spec (hN.no _ dD) (hN.no _ dD) (i:=i) om om).mono ?_
 rintro v _ ⟨rfl,rfl⟩
 have hle:=numF_le (s:=s) (i:=i) om
 have hge:=numF_ge s i
 have hpos:=numF_pos hc
 have hone:oneF s i=if dig c=true then (match saysF (sub s i (numF s i)) with | some n=>some ⟨1,[],n,numF s i⟩ | none=>none)
  else if beg c=true then some ⟨if keyF (sub s i (runF bgd s i))=true then 3 else 2,sub s i (runF bgd s i),0,runF bgd s i⟩
  else if signF (s.drop i)=[] then none else some ⟨4,signF (s.drop i),0,i+(signF (s.drop i)).length⟩:=by rw[oneF,hc]
 rw[hone]
 by_cases hd:dig c=true
 ·have hlt:=hpos.2 hd
  rw[if_pos hd]
  have c1:(0:Int)<((numF s i-i:Nat):Int):=om
  have w1:IntKind.i64.wrap ((i:Int)+((numF s i-i:Nat):Int))=(numF s i:Int):=by rw[wrap64 om om]; omega
  have s1:aSlStr (.str s) (some (.int .i64 (i:Int))) (some (.int .i64 (numF s i:Int)))=some (.str (sub s i (numF s i))):=str_sl om om
  simp only[sA,sB,seval,c1,w1,s1]
  refine (rnumber_spec (hN.no _ dD) (hN.no _ dD) (hN.no _ dD) (by simp[sub]; omega)).mono ?_
  rintro v H2 ⟨rfl,hE2⟩
  have hE12:=hE1.trans (hE2.less om)
  have r2:=r1.same (hE2.old _ om)
  cases hn:saysF (sub s i (numF s i)) with
  | none=>
   obtain⟨H3,m3,r3,n3,k3⟩:=row_storeN r2 (n:=6) rfl (wdL_len 0 [] 0 0 0 0) (wdL_one 0 [] 0 0 0 0)
   simp only[told,sA,sB,seval,ext_0,ext_1,bw_none,m3]
   refine fin_c1 _ _ _ _ (v:=.agg (wdL 0 [] 0 0 0 0)) (by simp only[sA,sB,seval]; exact row_loadN r3 rfl) ⟨by trivial,⟨by have:=hE12.next; omega,fun c hc=>by rw[k3 c om,hE12.old c hc]⟩⟩
  | some n=>
   obtain⟨H3,m3,r3,n3,k3⟩:=row_storeN r2 (n:=6) rfl (wdL_len 1 [] n 0 i (numF s i)) (wdL_one 1 [] n 0 i (numF s i))
   simp only[told,sA,sB,seval,ext_0,ext_1,w1,bw_num,m3]
   refine fin_c1 _ _ _ _ (v:=.agg (wdL 1 [] n 0 i (numF s i))) (by simp only[sA,sB,seval]; exact row_loadN r3 rfl) ⟨by trivial,⟨by have:=hE12.next; omega,fun c hc=>by rw[k3 c om,hE12.old c hc]⟩⟩
 ·rw[if_neg hd]
  have hn0:numF s i-i=0:=by
   have:¬i<numF s i:=fun h=>hd (hpos.1 h)
   omega
  have c1:¬(0:Int)<((numF s i-i:Nat):Int):=om
  simp only[sA,sB,seval,c1,str_idx hc]
  refine (letter_spec (hN.no _ dD) c _).mono ?_
  rintro v _ ⟨rfl,rfl⟩
  by_cases hb:beg c=true
  ·rw[if_pos hb,hb]
   simp only[sA,sB,seval]
   refine aw_cut (fun (T:Env) H'=>T 0=.str s∧T 1=.int .i64 (i:Int)∧T 4=cellR H.next 6 0∧T 8=.int .i64 (runF bgd s i:Int)∧H1=H') (calls_mono _ _) ?_ ?_
   ·refine aw_loop (fun q (T:Env) H'=>∃j:Nat,j≤s.length∧q=s.length-j∧T 0=.str s∧T 1=.int .i64 (i:Int)∧T 4=cellR H.next 6 0∧T 8=.int .i64 (j:Int)∧runF bgd s i=runF bgd s j∧H1=H') (s.length-i) ⟨i,om,rfl,by simp only[sA,sB,seval],by simp only[sA,sB,seval],by simp only[sA,sB,seval],by simp only[sA,sB,seval],rfl,rfl⟩ ?_
    rintro q T _ ⟨j,hj,rfl,g0,g1,g4,g8,hA,rfl⟩
    by_cases hlt:j<s.length
    ·obtain⟨d,hdj⟩:=isSome_of_lt hlt
     have hlt':(j:Int)<(s.length:Int):=om
     simp only[sA,sB,seval,g0,g1,g4,g8,hlt',str_idx hdj]
     refine (letter_spec (hN.no _ dD) d _).mono ?_
     rintro v _ ⟨rfl,rfl⟩
     cases hbd:beg d with
     | true=>
      have hg:bgd d=true:=by simp[bgd,hbd]
      simp only[sA,sB,seval,g0,g1,g4,g8,wrap1 j om]
      exact⟨_,om,j+1,om,rfl,by trivial,by trivial,by trivial,by trivial,by rw[hA,runF_go hdj hg],by trivial⟩
     | false=>
      simp only[sA,sB,seval,g0,g1,g4,g8,str_idx hdj]
      refine (rdigit_spec (hN.no _ dD) d _).mono ?_
      rintro v _ ⟨rfl,rfl⟩
      cases hdd:dig d with
      | true=>
       have hg:bgd d=true:=by simp[bgd,hdd]
       simp only[sA,sB,seval,g0,g1,g4,g8,wrap1 j om]
       exact⟨_,om,j+1,om,rfl,by trivial,by trivial,by trivial,by trivial,by rw[hA,runF_go hdj hg],by trivial⟩
      | false=>
       have hg:bgd d=false:=by simp[bgd,hbd,hdd]
       simp only[sA,sB,seval,g0,g1,g4,g8]
       exact⟨by trivial,by trivial,by trivial,by rw[hA,runF_no hdj hg],by trivial⟩
    ·have hlt':¬(j:Int)<(s.length:Int):=om
     simp only[sA,sB,seval,g0,g1,g4,g8,hlt']
     exact⟨by trivial,by trivial,by trivial,by rw[hA,runF_end om],by trivial⟩
   ·rintro T _ ⟨g0,g1,g4,g8,rfl⟩
    have hje:=runF_le (p:=bgd) (s:=s) (i:=i) om
    have hjg:=runF_ge bgd s i
    have s1:aSlStr (.str s) (some (.int .i64 (i:Int))) (some (.int .i64 (runF bgd s i:Int)))=some (.str (sub s i (runF bgd s i))):=str_sl hjg hje
    generalize sub s i (runF bgd s i)=S at *
    generalize runF bgd s i=j at *
    obtain⟨H2,m2,r2,n2,k2⟩:=row_newL H1 ZW (n:=6) rfl
    obtain⟨H3,m3,r3,n3,k3⟩:=row_storeN r2 (n:=6) rfl (wdL_len 2 S 0 0 i j) (wdL_one 2 S 0 0 i j)
    have b4:aBuildSl 6 [.str []] H3 [(0,1,.str [108,101,116]),(1,1,.str [115,101,116]),(2,1,.str [105,102]),(3,1,.str [101,108,115,101]),(4,1,.str [119,104,105,108,101]),(5,1,.str [114,101,116,117,114,110])]=some (slR H3.next 6 (.known 6),H3.push (.cells ((([[108,101,116],[115,101,116],[105,102],[101,108,115,101],[119,104,105,108,101],[114,101,116,117,114,110]]:List Bs).map .str)) 0 false)):=rfl
    have C4:=(row_push H3 (([[108,101,116],[115,101,116],[105,102],[101,108,115,101],[119,104,105,108,101],[114,101,116,117,114,110]]:List Bs).map .str)).cel (r:=.known 6) (n:=6) rfl (Nat.lt_succ_self _)
    have l1:=row_load r3 (n:=6) rfl (i:=1) (x:=.str S) rfl
    simp only[sA,sB,seval,g0,g1,g4,g8,s1,bw_name,hz,m2,m3,fld0,l1,b4]
    refine (in_spec (hN.no _ dD) C4 dD S).mono ?_
    rintro v _ ⟨rfl,rfl⟩
    rw[keys_mem]
    generalize hH4:H3.push (.cells ((([[108,101,116],[115,101,116],[105,102],[101,108,115,101],[119,104,105,108,101],[114,101,116,117,114,110]]:List Bs).map .str)) 0 false)=H4
    have n4:H4.next=H3.next+1:=by rw[← hH4]; rfl
    have k4:∀c,c<H3.next→H4.get c=H3.get c:=fun c hc=>by rw[← hH4]; exact get_push_lt hc
    have r4:=r3.same (k4 _ om)
    have r1':Row H4 H.next ZW:=r1.same (by rw[k4 _ om,k3 _ om,k2 _ om])
    have hE4:Ext H.next H H4:=⟨om,fun c hc=>by rw[k4 c om,k3 c om,k2 c om,k1 c om]⟩
    clear b4 C4 hH4
    cases hk:keyF S with
    | true=>
     obtain⟨H5,m5,r5,n5,k5⟩:=row_store r4 (n:=6) rfl (i:=0) om (x:=.int .u8 3) rfl
     have e5:(wdL 2 S 0 0 i j).set 0 (.int .u8 3)=wdL 3 S 0 0 i j:=rfl
     rw[e5]at r5
     have r1'':=r1'.same (k5 _ om)
     obtain⟨H6,m6,r6,n6,k6⟩:=row_storeN r1'' (n:=6) rfl (wdL_len 3 S 0 0 i j) (wdL_one 3 S 0 0 i j)
     simp only[sA,sB,seval,g4,fld0,m5,row_loadN r5 (n:=6) rfl,m6]
     refine fin_c1 _ _ _ _ (v:=.agg (wdL 3 S 0 0 i j)) (by simp only[sA,sB,seval,g4]; exact row_loadN r6 rfl) ⟨by simp only[oneA,if_true],⟨om,fun c hc=>by rw[k6 c om,k5 c om,hE4.old c hc]⟩⟩
    | false=>
     obtain⟨H6,m6,r6,n6,k6⟩:=row_storeN r1' (n:=6) rfl (wdL_len 2 S 0 0 i j) (wdL_one 2 S 0 0 i j)
     simp only[sA,sB,seval,g4,row_loadN r4 (n:=6) rfl,m6]
     refine fin_c1 _ _ _ _ (v:=.agg (wdL 2 S 0 0 i j)) (by simp only[sA,sB,seval,g4]; exact row_loadN r6 rfl) ⟨by simp[oneA],⟨om,fun c hc=>by rw[k6 c om,hE4.old c hc]⟩⟩
  ·rw[if_neg hb]
   have hbf:beg c=false:=by simpa using hb
   rw[hbf]
   have hsg:signF (s.drop i)=(signsL.find? (pre (s.drop i))).getD []:=by rw[drop_some hc]; exact signF_find
   have b2:aBuildSl 20 [.str []] H1 [(0,1,.str [38,38]),(1,1,.str [124,124]),(2,1,.str [61,61]),(3,1,.str [33,61]),(4,1,.str [60,61]),(5,1,.str [62,61]),(6,1,.str [60]),(7,1,.str [62]),(8,1,.str [43]),(9,1,.str [45]),(10,1,.str [42]),(11,1,.str [47]),(12,1,.str [33]),(13,1,.str [40]),(14,1,.str [41]),(15,1,.str [123]),(16,1,.str [125]),(17,1,.str [44]),(18,1,.str [59]),(19,1,.str [61])]=some (slR H1.next 20 (.known 20),H1.push (.cells (signsL.map .str) 0 false)):=rfl
   have C2:=(row_push H1 (signsL.map .str)).cel (r:=.known 20) (n:=20) rfl (Nat.lt_succ_self _)
   simp only[sA,sB,seval,b2]
   generalize hH2:H1.push (.cells (signsL.map .str) 0 false)=H2 at *
   have n2:H2.next=H1.next+1:=by rw[← hH2]; rfl
   have k2:∀c,c<H1.next→H2.get c=H1.get c:=fun c hc=>by rw[← hH2]; exact get_push_lt hc
   have r2:Row H2 H.next ZW:=r1.same (k2 _ om)
   have hE2:Ext H.next H H2:=⟨om,fun c hc=>by rw[k2 c om,k1 c om]⟩
   clear b2
   have hll:signsL.length=20:=rfl
   refine aw_loop (fun q (T:Env) H'=>∃k:Nat,k≤20∧q=20-k∧T 0=.str s∧T 1=.int .i64 (i:Int)∧T 4=cellR H.next 6 0∧T 10=slR H1.next 20 (.known 20)∧T 11=.int .i64 (k:Int)∧(signsL.take k).find? (pre (s.drop i))=none∧H2=H') 20 ⟨0,Nat.zero_le _,rfl,by simp only[sA,sB,seval],by simp only[sA,sB,seval],by simp only[sA,sB,seval],by simp only[sA,sB,seval],by simp only[sA,sB,seval]; try rfl,rfl,rfl⟩ ?_
   rintro q T _ ⟨k,hk,rfl,g0,g1,g4,g10,g11,hA,rfl⟩
   by_cases hlt:k<20
   ·have hlt':(k:Int)<20:=om
    obtain⟨t,ht⟩:=isSome_of_lt (l:=signsL) (i:=k) om
    have e1:=C2.idx .i64 (i:=k) (by rw[List.length_map,hll]; exact hlt)
    have e2:=C2.load (i:=k) (x:=.str t) (by simp[ht])
    have htl:t.length≤2:=by
     have:∀t∈signsL,t.length≤2:=by decide
     exact this t (List.mem_of_getElem? ht)
    have w1:=wrapN i t.length om
    have hpre:=pre_iff (s:=s) (t:=t) (i:=i) om
    have hl:=C2.len
    by_cases c1:i+t.length≤s.length
    ·have c1':((i+t.length:Nat):Int)≤(s.length:Int):=om
     have s1:=str_sl (s:=s) (l:=i) (h:=i+t.length) om c1
     rw[Nat.add_sub_cancel_left]at s1
     by_cases c2:(s.drop i).take t.length=t
     ·have hp:pre (s.drop i) t=true:=by rw[hpre]; simp[c1,c2]
      have hf:=find_at ht hA hp
      rw[hf]at hsg
      simp only[Option.getD_some]at hsg
      have hne:=signsL_ne t (List.mem_of_getElem? ht)
      rw[hsg,if_neg hne]
      obtain⟨H3,m3,r3,n3,k3⟩:=row_storeN r2 (n:=6) rfl (wdL_len 4 t 0 0 i (i+t.length)) (wdL_one 4 t 0 0 i (i+t.length))
      simp only[sA,sB,seval,g0,g1,g4,g10,g11,row_len,hlt',e1,e2,w1,c1',s1,c2,bw_sign,m3]
      refine fin_c1 _ _ _ _ (v:=.agg (wdL 4 t 0 0 i (i+t.length))) (by simp only[sA,sB,seval,g4]; exact row_loadN r3 rfl) ⟨by trivial,⟨om,fun c hc=>by rw[k3 c om,hE2.old c hc]⟩⟩
     ·have hp:pre (s.drop i) t=false:=by rw[hpre]; simp[c2]
      simp only[sA,sB,seval,g0,g1,g4,g10,g11,row_len,hlt',e1,e2,w1,c1',s1,c2,wrap1 k om]
      exact⟨_,om,k+1,om,rfl,by trivial,by trivial,by trivial,by trivial,rfl,find_next ht hA hp,by trivial⟩
    ·have c1':¬((i+t.length:Nat):Int)≤(s.length:Int):=om
     have hp:pre (s.drop i) t=false:=by rw[hpre]; simp[c1]
     simp only[sA,sB,seval,g0,g1,g4,g10,g11,row_len,hlt',e1,e2,w1,c1',wrap1 k om]
     exact⟨_,om,k+1,om,rfl,by trivial,by trivial,by trivial,by trivial,rfl,find_next ht hA hp,by trivial⟩
   ·obtain rfl:k=20:=om
    rw[List.take_of_length_le om]at hA
    rw[hA,Option.getD_none]at hsg
    rw[hsg,if_pos rfl]
    obtain⟨H3,m3,r3,n3,k3⟩:=row_storeN r2 (n:=6) rfl (wdL_len 0 [] 0 0 0 0) (wdL_one 0 [] 0 0 0 0)
    simp only[sA,sB,seval,g0,g1,g4,g10,g11,row_len,Int.lt_irrefl,hz,bw_none,m3]
    refine fin_c1 _ _ _ _ (v:=.agg (wdL 0 [] 0 0 0 0)) (by simp only[sA,sB,seval,g4]; exact row_loadN r3 rfl) ⟨by trivial,⟨om,fun c hc=>by rw[k3 c om,hE2.old c hc]⟩⟩
open Go.Abs Go.Abs.S
def pairA(w f:List AVal):AVal:=.tuple [.agg w,.agg f]
def nextA(s:Bs)(p:Int):AVal:=
 if 16384<s.length then pairA (wdL 0 [] 0 0 0 0) (flL 3 0)
 else if p<0∨(s.length:Int)<p then pairA (wdL 0 [] 0 0 0 0) (flL 2 0)
 else if skipF s p.toNat=s.length then pairA (wdL 5 [] 0 (lineF s (skipF s p.toNat)) (skipF s p.toNat) (skipF s p.toNat)) (flL 0 0)
 else match oneF s (skipF s p.toNat) with
  | some t=>pairA (wdL t.k t.S t.n (lineF s (skipF s p.toNat)) (skipF s p.toNat) t.e) (flL 0 0)
  | none=>pairA (wdL 0 [] 0 0 0 0) (flL 100 (lineF s (skipF s p.toNat)))
theorem two_rows{H:AHeap}{b:Nat}{l m:List AVal}(h6:Row H b l)(hl:l.length=6)(h2:Row H (b+1) m)(hm:m.length=2){xs ys:List AVal}(hx:xs.length=6)(ox:xs.all AVal.one=true)(hy:ys.length=2)(oy:ys.all AVal.one=true) :
  ∃H1 H2,oStore 6 H (cellR b 6 0) (.agg xs)=some H1∧oStore 2 H1 (cellR (b+1) 2 0) (.agg ys)=some H2∧Row H2 b xs∧Row H2 (b+1) ys∧H2.next=H.next∧(∀c,c<b→H2.get c=H.get c)∧∀c,c≠b→H1.get c=H.get c:=by
 obtain⟨H1,m1,r1,n1,k1⟩:=row_storeN h6 hl hx ox
 obtain⟨H2,m2,r2,n2,k2⟩:=row_storeN (h2.same (k1 _ om)) hm hy oy
 exact⟨H1,H2,m1,m2,r1.same (k2 _ om),r2,om,fun c hc=>by rw[k2 c om,k1 c om],k1⟩
theorem flL_one(e l:Nat):(flL e l).all AVal.one=true:=rfl
theorem flL_len(e l:Nat):(flL e l).length=2:=rfl
abbrev Z2:List AVal:=[.int .i64 0,.int .i64 0]
theorem new_two(H:AHeap):∃H1 H2,oNew H ZW=(cellR H.next 6 0,H1)∧oNew H1 [.int .i64 0,.int .i64 0]=(cellR (H.next+1) 2 0,H2)∧Row H2 H.next ZW∧Row H2 (H.next+1) Z2∧H2.next=H.next+2∧∀c,c<H.next→H2.get c=H.get c:=by
 obtain⟨H1,m1,r1,n1,k1⟩:=row_newL H ZW (n:=6) rfl
 obtain⟨H2,m2,r2,n2,k2⟩:=row_newL H1 Z2 (n:=2) rfl
 rw[n1]at m2 r2
 exact⟨H1,H2,m1,m2,r1.same (k2 _ om),r2,om,fun c hc=>by rw[k2 c om,k1 c om]⟩
theorem rnext_spec(hN:NWo natT){s:Bs}{p:Int}(h1:-9223372036854775808≤p)(h2:p≤9223372036854775807){H:AHeap} :
  ACalls Tryz.prog natT 71 [.str s,.int .i64 p] H fun v H'=>v=nextA s p∧Ext H.next H H':=by
 refine acalls_ofN (hN.no _ dD) za71 rfl ?_
 obtain⟨H1,H2,m1,m2,r6,r2,n2,k2⟩:=new_two H
 have hz:([.int .u8 0,.str [],.int .i64 0,.int .i64 0,.int .i64 0,.int .i64 0]:List AVal)=ZW:=rfl
 have g3:aBuild [.int .i64 0,.int .i64 0] [(0,1,.int .i64 3)]=some (.agg (flL 3 0)):=rfl
 have g2:aBuild [.int .i64 0,.int .i64 0] [(0,1,.int .i64 2)]=some (.agg (flL 2 0)):=rfl
 have g0:aBuild [.int .i64 0,.int .i64 0] []=some (.agg (flL 0 0)):=rfl
 have E2:Ext H.next H H2:=⟨om,fun c hc=>k2 c hc⟩
 have fini:∀(T:Env) (K:AHeap) (xs ys:List AVal),T 4=cellR H.next 6 0→T 5=cellR (H.next+1) 2 0→Row K H.next xs→Row K (H.next+1) ys→xs.length=6→ys.length=2→pairA xs ys=nextA s p→Ext H.next H K →
   fin [.cell true 6 4,.cell true 2 5] (fun v H'=>v=nextA s p∧Ext H.next H H') .ret T K:=by
  intro T K xs ys t4 t5 q6 q2 lx ly he hE
  refine fin_c2 _ _ _ _ _ _ _ (v:=.agg xs) (v':=.agg ys) (by rw[t4]; exact row_loadN q6 lx) (by rw[t5]; exact row_loadN q2 ly) ⟨he,hE⟩
 simp only[c71,sA,sB,seval,hz,m1,m2]
 by_cases a1:16384<s.length
 ·have a1':(16384:Int)<(s.length:Int):=om
  obtain⟨H3,H4,m3,m4,q6,q2,n4,k4,_⟩:=two_rows r6 rfl r2 rfl (wdL_len 0 [] 0 0 0 0) (wdL_one 0 [] 0 0 0 0) (flL_len 3 0) (flL_one 3 0)
  simp only[sA,sB,seval,a1',hz,bw_none,g3,m3,m4]
  refine fini _ _ _ _ (by simp only[sA,sB,seval]) (by simp only[sA,sB,seval]) q6 q2 rfl rfl (by rw[nextA,if_pos a1]) ⟨om,fun c hc=>by rw[k4 c hc,k2 c hc]⟩
 have a1':¬(16384:Int)<(s.length:Int):=om
 by_cases a2:p<0
 ·obtain⟨H3,H4,m3,m4,q6,q2,n4,k4,_⟩:=two_rows r6 rfl r2 rfl (wdL_len 0 [] 0 0 0 0) (wdL_one 0 [] 0 0 0 0) (flL_len 2 0) (flL_one 2 0)
  simp only[sA,sB,seval,a1',a2,hz,bw_none,g2,m3,m4]
  refine fini _ _ _ _ (by simp only[sA,sB,seval]) (by simp only[sA,sB,seval]) q6 q2 rfl rfl (by rw[nextA,if_neg a1,if_pos (.inl a2)]) ⟨om,fun c hc=>by rw[k4 c hc,k2 c hc]⟩
 by_cases a3:(s.length:Int)<p
 ·obtain⟨H3,H4,m3,m4,q6,q2,n4,k4,_⟩:=two_rows r6 rfl r2 rfl (wdL_len 0 [] 0 0 0 0) (wdL_one 0 [] 0 0 0 0) (flL_len 2 0) (flL_one 2 0)
  simp only[sA,sB,seval,a1',a2,a3,hz,bw_none,g2,m3,m4]
  refine fini _ _ _ _ (by simp only[sA,sB,seval]) (by simp only[sA,sB,seval]) q6 q2 rfl rfl (by rw[nextA,if_neg a1,if_pos (.inr a3)]) ⟨om,fun c hc=>by rw[k4 c hc,k2 c hc]⟩
 obtain⟨i,rfl⟩:∃i:Nat,p=(i:Int):=⟨p.toNat,om⟩
 have hd:nextA s (i:Int)=if skipF s i=s.length then pairA (wdL 5 [] 0 (lineF s (skipF s i)) (skipF s i) (skipF s i)) (flL 0 0) else match oneF s (skipF s i) with
  | some t=>pairA (wdL t.k t.S t.n (lineF s (skipF s i)) (skipF s i) t.e) (flL 0 0)
  | none=>pairA (wdL 0 [] 0 0 0 0) (flL 100 (lineF s (skipF s i))):=by
  rw[nextA,if_neg a1,if_neg (by rintro (h | h); exact a2 h; exact a3 h),Int.toNat_natCast]
 simp only[sA,sB,seval,a1',a2,a3]
 refine (passed_spec (hN.no _ dD) (i:=i) om om).mono ?_
 rintro v _ ⟨rfl,rfl⟩
 have hj1:=skipF_le s i
 rw[hd]at fini
 rw[hd]
 generalize skipF s i=j at *
 by_cases hj:j=s.length
 ·have hj':(j:Int)=(s.length:Int):=om
  simp only[sA,sB,seval,hj']
  rw[← hj']
  refine (line_spec (hN.no _ dD) (i:=j) hj1 om).mono ?_
  rintro v _ ⟨rfl,rfl⟩
  obtain⟨H3,H4,m3,m4,q6,q2,n4,k4,_⟩:=two_rows r6 rfl r2 rfl (wdL_len 5 [] 0 (lineF s j) j j) (wdL_one 5 [] 0 (lineF s j) j j) (flL_len 0 0) (flL_one 0 0)
  simp only[sA,sB,seval,← hj',hz,bw_end,g0,m3,m4]
  refine fini _ _ _ _ (by simp only[sA,sB,seval]) (by simp only[sA,sB,seval]) q6 q2 rfl rfl (by rw[if_pos hj]) ⟨om,fun c hc=>by rw[k4 c hc,k2 c hc]⟩
 have hj':¬(j:Int)=(s.length:Int):=om
 rw[if_neg hj]at fini
 rw[if_neg hj]
 simp only[sA,sB,seval,hj']
 refine (one_spec hN (i:=j) om om).mono ?_
 rintro v H3 ⟨rfl,hE3⟩
 have q6:=r6.same (hE3.old _ om)
 have q2:=r2.same (hE3.old _ om)
 obtain⟨H4,m4,q4,n4,k4⟩:=row_newL H3 ZW (n:=6) rfl
 have ho:(oneA j (oneF s j)).length=6∧(oneA j (oneF s j)).all AVal.one=true:=by cases oneF s j <;> exact⟨rfl,rfl⟩
 obtain⟨H5,m5,q5,n5,k5⟩:=row_storeN q4 (n:=6) rfl ho.1 ho.2
 have p6:Row H5 H.next ZW:=q6.same (by rw[k5 _ (by have:=hE3.next; omega),k4 _ (by have:=hE3.next; omega)])
 have p2:Row H5 (H.next+1) Z2:=q2.same (by rw[k5 _ (by have:=hE3.next; omega),k4 _ (by have:=hE3.next; omega)])
 have E5:Ext H.next H H5:=⟨by have:=hE3.next; omega,fun c hc=>by have:=hE3.next; rw[k5 c om,k4 c om,hE3.old c om,k2 c hc]⟩
 have hb3:=hE3.next
 cases ht:oneF s j with
 | none=>
  rw[ht]at q5 m5 fini
  have l0:=row_load q5 (n:=6) rfl (i:=0) (x:=.int .u8 ((0:Nat):Int)) rfl
  obtain⟨H6,H7,m6,m7,s6,s2,n7,k7,_⟩:=two_rows p6 rfl p2 rfl (wdL_len 0 [] 0 0 0 0) (wdL_one 0 [] 0 0 0 0) (flL_len 100 (lineF s j)) (flL_one 100 (lineF s j))
  simp only[Int.cast_ofNat_Int]at l0
  simp only[sA,sB,seval,hz,m4,m5,fld0,l0,bw_none]
  refine (line_spec (hN.no _ dD) (i:=j) hj1 om).mono ?_
  rintro v _ ⟨rfl,rfl⟩
  have gl:aBuild [.int .i64 0,.int .i64 0] [(0,1,.int .i64 100),(1,1,.int .i64 (lineF s j:Int))]=some (.agg (flL 100 (lineF s j))):=rfl
  simp only[sA,sB,seval,gl,m6,m7]
  refine fini _ _ _ _ (by simp only[sA,sB,seval]) (by simp only[sA,sB,seval]) s6 s2 rfl rfl rfl ⟨by have:=E5.next; omega,fun c hc=>by rw[k7 c hc,E5.old c hc]⟩
 | some t=>
  have hk:¬(t.k:Int)=0:=by
   rw[oneF]at ht
   split at ht
   ·simp at ht
   ·split at ht
    ·split at ht
     ·simp only[sJ]at ht; subst ht; simp
     ·simp at ht
    ·split at ht
     ·simp only[sJ]at ht; subst ht; simp only; split <;> simp
     ·split at ht
      ·simp at ht
      ·simp only[sJ]at ht; subst ht; simp
  rw[ht]at q5 m5 fini
  have l0:=row_load q5 (n:=6) rfl (i:=0) (x:=.int .u8 (t.k:Int)) rfl
  simp only[sA,sB,seval,hz,m4,m5,fld0,l0,hk]
  refine (line_spec (hN.no _ dD) (i:=j) hj1 om).mono ?_
  rintro v _ ⟨rfl,rfl⟩
  obtain⟨H6,m6,q6',n6,k6⟩:=row_store q5 (n:=6) rfl (i:=3) om (x:=.int .i64 (lineF s j:Int)) rfl
  have e6:(oneA j (some t)).set 3 (.int .i64 (lineF s j:Int))=wdL t.k t.S t.n (lineF s j) j t.e:=rfl
  rw[e6]at q6'
  obtain⟨H7,H8,m7,m8,s6,s2,n8,k8,_⟩:=two_rows (p6.same (k6 _ om)) rfl (p2.same (k6 _ om)) rfl (wdL_len t.k t.S t.n (lineF s j) j t.e) (wdL_one t.k t.S t.n (lineF s j) j t.e) (flL_len 0 0) (flL_one 0 0)
  simp only[sA,sB,seval,fld0,m6,row_loadN q6' (n:=6) rfl,g0,m7,m8]
  refine fini _ _ _ _ (by simp only[sA,sB,seval]) (by simp only[sA,sB,seval]) s6 s2 rfl rfl rfl ⟨by have:=E5.next; omega,fun c hc=>by rw[k8 c hc,k6 c om,E5.old c hc]⟩
open Go.Abs Go.Abs.S
theorem aeq_two(a b:Int):aeq (.agg [.int .i64 a,.int .i64 b]) (.agg [.int .i64 a,.int .i64 b])=true:=by
 simp[aeq,aeqs,eqF_eq]
theorem next_spec(hN:NWo natT){s:Bs}{p:Int}(h1:-9223372036854775808≤p)(h2:p≤9223372036854775807){H:AHeap} :
  ACalls Tryz.prog natT 62 [.str s,.int .i64 p] H fun v H'=>v=nextA s p∧Ext H.next H H':=by
 refine acalls_ofN (hN.no _ dD) za62 rfl ?_
 obtain⟨H1,H2,m1,m2,r6,r2,n2,k2⟩:=new_two H
 have hz:([.int .u8 0,.str [],.int .i64 0,.int .i64 0,.int .i64 0,.int .i64 0]:List AVal)=ZW:=rfl
 have g3:aBuild [.int .i64 0,.int .i64 0] [(0,1,.int .i64 3)]=some (.agg (flL 3 0)):=rfl
 have g2:aBuild [.int .i64 0,.int .i64 0] [(0,1,.int .i64 2)]=some (.agg (flL 2 0)):=rfl
 have g0:aBuild [.int .i64 0,.int .i64 0] []=some (.agg (flL 0 0)):=rfl
 have fini:∀(T:Env) (K:AHeap) (xs ys:List AVal),T 4=cellR H.next 6 0→T 5=cellR (H.next+1) 2 0→Row K H.next xs→Row K (H.next+1) ys→xs.length=6→ys.length=2→pairA xs ys=nextA s p→Ext H.next H K →
   fin [.cell true 6 4,.cell true 2 5] (fun v H'=>v=nextA s p∧Ext H.next H H') .ret T K:=by
  intro T K xs ys t4 t5 q6 q2 lx ly he hE
  refine fin_c2 _ _ _ _ _ _ _ (v:=.agg xs) (v':=.agg ys) (by rw[t4]; exact row_loadN q6 lx) (by rw[t5]; exact row_loadN q2 ly) ⟨he,hE⟩
 simp only[c62,sA,sB,seval,hz,m1,m2]
 by_cases a1:16384<s.length
 ·have a1':(16384:Int)<(s.length:Int):=om
  obtain⟨H3,H4,m3,m4,q6,q2,n4,k4,_⟩:=two_rows r6 rfl r2 rfl (wdL_len 0 [] 0 0 0 0) (wdL_one 0 [] 0 0 0 0) (flL_len 3 0) (flL_one 3 0)
  simp only[sA,sB,seval,a1',hz,bw_none,g3,m3,m4]
  refine fini _ _ _ _ (by simp only[sA,sB,seval]) (by simp only[sA,sB,seval]) q6 q2 rfl rfl (by rw[nextA,if_pos a1]) ⟨om,fun c hc=>by rw[k4 c hc,k2 c hc]⟩
 have a1':¬(16384:Int)<(s.length:Int):=om
 by_cases a2:p<0
 ·obtain⟨H3,H4,m3,m4,q6,q2,n4,k4,_⟩:=two_rows r6 rfl r2 rfl (wdL_len 0 [] 0 0 0 0) (wdL_one 0 [] 0 0 0 0) (flL_len 2 0) (flL_one 2 0)
  simp only[sA,sB,seval,a1',a2,hz,bw_none,g2,m3,m4]
  refine fini _ _ _ _ (by simp only[sA,sB,seval]) (by simp only[sA,sB,seval]) q6 q2 rfl rfl (by rw[nextA,if_neg a1,if_pos (.inl a2)]) ⟨om,fun c hc=>by rw[k4 c hc,k2 c hc]⟩
 by_cases a3:(s.length:Int)<p
 ·obtain⟨H3,H4,m3,m4,q6,q2,n4,k4,_⟩:=two_rows r6 rfl r2 rfl (wdL_len 0 [] 0 0 0 0) (wdL_one 0 [] 0 0 0 0) (flL_len 2 0) (flL_one 2 0)
  simp only[sA,sB,seval,a1',a2,a3,hz,bw_none,g2,m3,m4]
  refine fini _ _ _ _ (by simp only[sA,sB,seval]) (by simp only[sA,sB,seval]) q6 q2 rfl rfl (by rw[nextA,if_neg a1,if_pos (.inr a3)]) ⟨om,fun c hc=>by rw[k4 c hc,k2 c hc]⟩
 obtain⟨i,rfl⟩:∃i:Nat,p=(i:Int):=⟨p.toNat,om⟩
 have hd:nextA s (i:Int)=if skipF s i=s.length then pairA (wdL 5 [] 0 (lineF s (skipF s i)) (skipF s i) (skipF s i)) (flL 0 0) else match oneF s (skipF s i) with
  | some t=>pairA (wdL t.k t.S t.n (lineF s (skipF s i)) (skipF s i) t.e) (flL 0 0)
  | none=>pairA (wdL 0 [] 0 0 0 0) (flL 100 (lineF s (skipF s i))):=by
  rw[nextA,if_neg a1,if_neg (by rintro (h | h); exact a2 h; exact a3 h),Int.toNat_natCast] <;> rfl
 simp only[sA,sB,seval,a1',a2,a3]
 refine (skip_spec (hN.no _ dD) (hN.no _ dD) (hN.no _ dD) (hN.no _ dD) (i:=i) om om).mono ?_
 rintro v _ ⟨rfl,rfl⟩
 have hj1:=skipF_le s i
 rw[hd]at fini
 rw[hd]
 generalize skipF s i=j at *
 simp only[sA,sB,seval,str_slH hj1]
 refine (count_spec (hN.no _ dD) (s.take j)).mono ?_
 rintro v _ ⟨rfl,rfl⟩
 have hcl:(s.take j).count 10≤j:=by
  have:=List.count_le_length (a:=(10:UInt8)) (l:=s.take j)
  simp at this; omega
 have wl:IntKind.i64.wrap (1+((s.take j).count 10:Int))=(lineF s j:Int):=by rw[wrap64 om om]; unfold lineF; omega
 obtain⟨H3,m3,q3,n3,k3⟩:=row_newL H2 ZW (n:=6) rfl
 obtain⟨H4,m4,q4,n4,k4⟩:=row_storeN q3 (n:=6) rfl (wdL_len 0 [] 0 (lineF s j) j j) (wdL_one 0 [] 0 (lineF s j) j j)
 have l3:=row_load q4 (n:=6) rfl (i:=3) (x:=.int .i64 (lineF s j:Int)) rfl
 obtain⟨H5,m5,q5,n5,k5⟩:=row_newL H4 Z2 (n:=2) rfl
 have gl:aBuild [.int .i64 0,.int .i64 0] [(0,1,.int .i64 100),(1,1,.int .i64 (lineF s j:Int))]=some (.agg (flL 100 (lineF s j))):=rfl
 obtain⟨H6,m6,q6,n6,k6⟩:=row_storeN q5 (n:=2) rfl (flL_len 100 (lineF s j)) (flL_one 100 (lineF s j))
 simp only[sW,sL,sXs,sXO,sXP,sB,seval,wl,hz,bw_at,m3,m4,fld0,l3,gl,m5,m6]
 rw[aw_block]
 have b6:Row H6 H2.next (wdL 0 [] 0 (lineF s j) j j):=q4.same (by rw[k6 _ om,k5 _ om])
 have p6:Row H6 H.next ZW:=r6.same (by rw[k6 _ om,k5 _ om,k4 _ om,k3 _ om])
 have p2:Row H6 (H.next+1) Z2:=r2.same (by rw[k6 _ om,k5 _ om,k4 _ om,k3 _ om])
 have E6:Ext H.next H H6:=⟨om,fun c hc=>by rw[k6 c om,k5 c om,k4 c om,k3 c om,k2 c hc]⟩
 have hn4:H4.next=H2.next+1:=om
 have hn6:H6.next=H2.next+2:=om
 rw[hn4]at q6
 rw[hn4]
 generalize H2.next=b at *
 clear m1 m2 m3 m4 m5 m6 k3 k4 k5 k6 q3 q4 q5 r6 r2 k2 n3 n4 n5 n6 l3
 refine aw_cut (fun (T:Env) H'=>T 4=cellR H.next 6 0∧T 5=cellR (H.next+1) 2 0∧T 6=cellR b 6 0∧Ext H.next H H'∧Row H' H.next ZW∧Row H' (H.next+1) Z2∧b<H'.next ∧
   ∃(k:Nat) (S:Bs) (n e:Nat),Row H' b (wdL k S n (lineF s j) j e)∧pairA (wdL k S n (lineF s j) j e) (flL 0 0)=if j=s.length then pairA (wdL 5 [] 0 (lineF s j) j j) (flL 0 0) else match oneF s j with
    | some t=>pairA (wdL t.k t.S t.n (lineF s j) j t.e) (flL 0 0)
    | none=>pairA (wdL 0 [] 0 0 0 0) (flL 100 (lineF s j))) (calls_mono _ _) ?_ ?_
 rotate_left
 ·rintro T H7 ⟨t4,t5,t6,hE7,s6,s2,_,k,S,n,e,hr,he⟩
  obtain⟨H8,H9,m8,m9,u6,u2,n9,k9,_⟩:=two_rows s6 rfl s2 rfl (wdL_len k S n (lineF s j) j e) (wdL_one k S n (lineF s j) j e) (flL_len 0 0) (flL_one 0 0)
  simp only[sA,sB,seval,t4,t5,t6,row_loadN hr (n:=6) rfl,g0,m8,m9]
  refine fini _ _ _ _ (by simp only[sA,sB,seval,t4]) (by simp only[sA,sB,seval,t5]) u6 u2 rfl rfl he ⟨by have:=hE7.next; omega,fun c hc=>by rw[k9 c hc,hE7.old c hc]⟩
 have hne:H.next+1<b:=om
 by_cases hj:j=s.length
 ·have hj':(j:Int)=(s.length:Int):=om
  obtain⟨H7,m7,q7,n7,k7⟩:=row_store b6 (n:=6) rfl (i:=0) om (x:=.int .u8 5) rfl
  simp only[sA,sB,seval,hj',fld0,m7]
  refine⟨by trivial,by trivial,by trivial,⟨by have:=E6.next; omega,fun c hc=>by rw[k7 c om,E6.old c hc]⟩,p6.same (k7 _ om),p2.same (k7 _ om),om,5,[],0,j,q7,by rw[if_pos hj]⟩
 have hj':¬(j:Int)=(s.length:Int):=om
 obtain⟨c,hc⟩:=isSome_of_lt (l:=s) (i:=j) om
 have hone:oneF s j=if dig c=true then (match saysF (sub s j (numF s j)) with | some n=>some ⟨1,[],n,numF s j⟩ | none=>none)
  else if beg c=true then some ⟨if keyF (sub s j (runF bgd s j))=true then 3 else 2,sub s j (runF bgd s j),0,runF bgd s j⟩
  else if signF (s.drop j)=[] then none else some ⟨4,signF (s.drop j),0,j+(signF (s.drop j)).length⟩:=by
  rw[oneF,hc] <;> rfl
 rw[if_neg hj]at fini
 rw[if_neg hj]
 simp only[sA,sB,seval,hj',str_idx hc]
 refine (digit_spec (hN.no _ dD) c _).mono ?_
 rintro v _ ⟨rfl,rfl⟩
 cases hdc:dig c with
 | true=>
  rw[if_pos hdc]at hone
  simp only[sA,sB,seval]
  refine (numeral_spec (hN.no _ dD) (hN.no _ dD) (hN.no _ dD) (i:=j) om om).mono ?_
  rintro v _ ⟨rfl,rfl⟩
  have hge:=numF_ge s j
  have hle:=numF_le (s:=s) (i:=j) om
  have s1:aSlStr (.str s) (some (.int .i64 (j:Int))) (some (.int .i64 (numF s j:Int)))=some (.str (sub s j (numF s j))):=str_sl om om
  have hsub:(sub s j (numF s j)).length≤4611686018427387904:=by simp[sub]; omega
  generalize numF s j=e at *
  obtain⟨H7,m7,q7,n7,k7⟩:=row_store b6 (n:=6) rfl (i:=5) om (x:=.int .i64 (e:Int)) rfl
  have e7:(wdL 0 [] 0 (lineF s j) j j).set 5 (.int .i64 (e:Int))=wdL 0 [] 0 (lineF s j) j e:=rfl
  rw[e7]at q7
  have l5:=row_load q7 (n:=6) rfl (i:=5) (x:=.int .i64 (e:Int)) rfl
  simp only[sA,sB,seval,fld0,m7,l5,s1]
  refine (number_spec (hN.no _ dD) (hN.no _ dD) (hN.no _ dD) (hN.no _ dD) (hN.no _ dD) (hN.no _ dD) (hN.no _ dD) (hN.no _ dD) (hN.no _ dD) hsub).mono ?_
  rintro v H8 ⟨rfl,hE8⟩
  have hb8:=hE8.next
  have b8:=q7.same (hE8.old b om)
  have p68:Row H8 H.next ZW:=p6.same (by rw[hE8.old _ om,k7 _ om])
  have p28:Row H8 (H.next+1) Z2:=p2.same (by rw[hE8.old _ om,k7 _ om])
  have f8:Row H8 (b+1) (flL 100 (lineF s j)):=q6.same (by rw[hE8.old _ om,k7 _ om])
  have E8:Ext H.next H H8:=⟨by have:=E6.next; omega,fun c hc=>by rw[hE8.old c (by have:=E6.next; omega),k7 c om,E6.old c hc]⟩
  clear l5 m7 q7
  cases hs:saysF (sub s j e) with
  | none=>
   rw[hs]at hone
   rw[hone]at fini ⊢
   simp only[told,sA,sB,seval,ext_0,ext_1]
   obtain⟨H9,H10,m9,m10,u6,u2,n10,k10,k9⟩:=two_rows p68 rfl p28 rfl (wdL_len 0 [] 0 0 0 0) (wdL_one 0 [] 0 0 0 0) (flL_len 100 (lineF s j)) (flL_one 100 (lineF s j))
   refine aw_drawC rfl ?_
   have lf:=row_loadN f8 (n:=2) rfl
   have f9:Row H9 (b+1) (flL 100 (lineF s j)):=f8.same (k9 _ om)
   have lf9:=row_loadN f9 (n:=2) rfl
   simp only[sA,sB,seval,sR,hz,bw_none,lf,m9,m10]
   simp only[ck_nil',ck_cons,ckP_load,ckP_nil,ck_end,and_true,true_and,List.map_cons,List.map_nil,sA,sB,seval]
   refine⟨⟨_,rfl,fun _=>⟨_,lf9,aeq_two _ _⟩⟩,?_⟩
   refine fini _ _ _ _ (by simp only[sA,sB,seval]) (by simp only[sA,sB,seval]) u6 u2 rfl rfl rfl ⟨by have:=E8.next; omega,fun c hc=>by rw[k10 c hc,E8.old c hc]⟩
  | some n=>
   rw[hs]at hone
   rw[hone]
   obtain⟨H9,m9,q9,n9,k9⟩:=row_store b8 (n:=6) rfl (i:=0) om (x:=.int .u8 1) rfl
   obtain⟨H10,m10,q10,n10,k10⟩:=row_store q9 (n:=6) rfl (i:=2) om (x:=.int .i64 (n:Int)) rfl
   simp only[told,sA,sB,seval,ext_0,ext_1,fld0,m9,m10]
   refine⟨by trivial,by trivial,by trivial,⟨by have:=E8.next; omega,fun c hc=>by rw[k10 c om,k9 c om,E8.old c hc]⟩,p68.same (by rw[k10 _ om,k9 _ om]),p28.same (by rw[k10 _ om,k9 _ om]),om,1,[],n,e,q10,rfl⟩
 | false=>
  rw[if_neg (by rw[hdc]; simp)]at hone
  simp only[sA,sB,seval,str_idx hc]
  refine (begins_spec (hN.no _ dD) c _).mono ?_
  rintro v _ ⟨rfl,rfl⟩
  cases hbc:beg c with
  | true=>
   rw[if_pos hbc]at hone
   rw[hone]
   simp only[sA,sB,seval]
   refine (run_spec (hN.no _ dD) (namy_spec (hN.no _ dD) (hN.no _ dD) (hN.no _ dD)) (i:=j) om om).mono ?_
   rintro v _ ⟨rfl,rfl⟩
   have hje:=runF_le (p:=bgd) (s:=s) (i:=j) om
   have hjg:=runF_ge bgd s j
   have s1:aSlStr (.str s) (some (.int .i64 (j:Int))) (some (.int .i64 (runF bgd s j:Int)))=some (.str (sub s j (runF bgd s j))):=str_sl hjg hje
   have hsub:(sub s j (runF bgd s j)).length≤281474976710656:=by simp[sub]; omega
   generalize sub s j (runF bgd s j)=S at *
   generalize runF bgd s j=e at *
   obtain⟨H7,m7,q7,n7,k7⟩:=row_store b6 (n:=6) rfl (i:=5) om (x:=.int .i64 (e:Int)) rfl
   have e7:(wdL 0 [] 0 (lineF s j) j j).set 5 (.int .i64 (e:Int))=wdL 0 [] 0 (lineF s j) j e:=rfl
   rw[e7]at q7
   have l5:=row_load q7 (n:=6) rfl (i:=5) (x:=.int .i64 (e:Int)) rfl
   simp only[sA,sB,seval,fld0,m7,l5,s1]
   refine (clone_spec hN hsub).mono ?_
   rintro v _ ⟨rfl,rfl⟩
   obtain⟨H8,m8,q8,n8,k8⟩:=row_store q7 (n:=6) rfl (i:=0) om (x:=.int .u8 2) rfl
   obtain⟨H9,m9,q9,n9,k9⟩:=row_store q8 (n:=6) rfl (i:=1) om (x:=.str S) rfl
   have e9:((wdL 0 [] 0 (lineF s j) j e).set 0 (.int .u8 2)).set 1 (.str S)=wdL 2 S 0 (lineF s j) j e:=rfl
   rw[e9]at q9
   have l1:=row_load q9 (n:=6) rfl (i:=1) (x:=.str S) rfl
   simp only[sA,sB,seval,fld0,m8,m9,l1]
   refine (key_spec (hN.no _ dD) S).mono ?_
   rintro v _ ⟨rfl,rfl⟩
   have k79:∀c,c≠b→H9.get c=H6.get c:=fun c hc=>by rw[k9 c hc,k8 c hc,k7 c hc]
   cases hk:keyF S with
   | true=>
    obtain⟨H10,m10,q10,n10,k10⟩:=row_store q9 (n:=6) rfl (i:=0) om (x:=.int .u8 3) rfl
    simp only[sA,sB,seval,fld0,m10]
    refine⟨by trivial,by trivial,by trivial,⟨by have:=E6.next; omega,fun c hc=>by rw[k10 c om,k79 c om,E6.old c hc]⟩,p6.same (by rw[k10 _ om,k79 _ om]),p2.same (by rw[k10 _ om,k79 _ om]),om,3,S,0,e,q10,by simp⟩
   | false=>
    simp only[sA,sB,seval]
    refine⟨by trivial,by trivial,by trivial,⟨by have:=E6.next; omega,fun c hc=>by rw[k79 c om,E6.old c hc]⟩,p6.same (k79 _ om),p2.same (k79 _ om),om,2,S,0,e,q9,by simp⟩
  | false=>
   rw[if_neg (by rw[hbc]; simp)]at hone
   simp only[sA,sB,seval]
   refine (sign_spec (hN.no _ dD) (hN.no _ dD) (hN.no _ dD) (hN.no _ dD) (hN.no _ dD) (i:=j) om).mono ?_
   rintro v _ ⟨rfl,rfl⟩
   have hsl:=signF_le (s:=s) (i:=j) om
   generalize signF (s.drop j)=S at *
   by_cases hS:S=[]
   ·rw[if_pos hS]at hone
    rw[hone]at fini ⊢
    simp only[sA,sB,seval,hS]
    obtain⟨H9,H10,m9,m10,u6,u2,n10,k10,k9⟩:=two_rows p6 rfl p2 rfl (wdL_len 0 [] 0 0 0 0) (wdL_one 0 [] 0 0 0 0) (flL_len 100 (lineF s j)) (flL_one 100 (lineF s j))
    refine aw_drawC rfl ?_
    have lf:=row_loadN q6 (n:=2) rfl
    have f9:Row H9 (b+1) (flL 100 (lineF s j)):=q6.same (k9 _ om)
    have lf9:=row_loadN f9 (n:=2) rfl
    simp only[sA,sB,seval,sR,hz,bw_none,lf,m9,m10]
    simp only[ck_nil',ck_cons,ckP_load,ckP_nil,ck_end,and_true,true_and,List.map_cons,List.map_nil,sA,sB,seval]
    refine⟨⟨_,rfl,fun _=>⟨_,lf9,aeq_two _ _⟩⟩,?_⟩
    refine fini _ _ _ _ (by simp only[sA,sB,seval]) (by simp only[sA,sB,seval]) u6 u2 rfl rfl rfl ⟨by have:=E6.next; omega,fun c hc=>by rw[k10 c hc,E6.old c hc]⟩
   ·rw[if_neg hS]at hone
    rw[hone]
    simp only[sA,sB,seval,hS]
    refine (clone_spec hN (s:=S) om).mono ?_
    rintro v _ ⟨rfl,rfl⟩
    obtain⟨H7,m7,q7,n7,k7⟩:=row_store b6 (n:=6) rfl (i:=0) om (x:=.int .u8 4) rfl
    obtain⟨H8,m8,q8,n8,k8⟩:=row_store q7 (n:=6) rfl (i:=1) om (x:=.str S) rfl
    obtain⟨H9,m9,q9,n9,k9⟩:=row_store q8 (n:=6) rfl (i:=5) om (x:=.int .i64 ((j+S.length:Nat):Int)) rfl
    have k79:∀c,c≠b→H9.get c=H6.get c:=fun c hc=>by rw[k9 c hc,k8 c hc,k7 c hc]
    simp only[sA,sB,seval,fld0,wrapN j S.length om,m7,m8,m9]
    refine⟨by trivial,by trivial,by trivial,⟨by have:=E6.next; omega,fun c hc=>by rw[k79 c om,E6.old c hc]⟩,p6.same (k79 _ om),p2.same (k79 _ om),om,4,S,0,_,q9,rfl⟩
open Go.Abs Go.Abs.S
inductive Ex where
 | mk (k:Nat) (s:Bs) (n:Int) (kids:List Ex)
inductive St where
 | mk (k:Nat) (s:Bs) (e:Ex) (body els:List St) (line:Int)
abbrev Flt:=Nat×Nat
structure Wd where
 k:Nat
 S:Bs
 n:Nat
 line:Nat
 at_:Nat
 en:Nat
def nextW(s:Bs)(p:Nat):Except Flt Wd:=
 if 16384<s.length then .error (3,0)
 else if s.length<p then .error (2,0)
 else if skipF s p=s.length then .ok ⟨5,[],0,lineF s (skipF s p),skipF s p,skipF s p⟩
 else match oneF s (skipF s p) with
  | some t=>.ok ⟨t.k,t.S,t.n,lineF s (skipF s p),skipF s p,t.e⟩
  | none=>.error (100,lineF s (skipF s p))
abbrev Res(α:Type):=Except Flt (α×Wd)
def sgn(w:Wd)(l:List Bs):Bool:=Nat.beq w.k 4&&l.contains w.S
def kyw(w:Wd)(s:Bs):Bool:=Nat.beq w.k 3&&decide (w.S=s)
def stepW(s:Bs)(w:Wd):Except Flt Wd:=nextW s w.en
def takeW(s:Bs)(c:Bs)(w:Wd):Except Flt Wd:=if sgn w [c] then stepW s w else .error (101,w.line)
def onW{α:Type}(o:Except Flt Wd)(f:Wd→Option (Res α)):Option (Res α):=match o with
 | .error e=>some (.error e)
 | .ok w=>f w
def onR{α β:Type}(o:Option (Res α))(f:α→Wd→Option (Res β)):Option (Res β):=match o with
 | none=>none
 | some (.error e)=>some (.error e)
 | some (.ok (a,w))=>f a w
def fineR{α:Type}(a:α)(w:Wd):Option (Res α):=some (.ok (a,w))
def badR{α:Type}(e:Nat)(w:Wd):Option (Res α):=some (.error (e,w.line))
def lvl:Nat→List Bs
 | 1=>[[42],[47]]
 | 2=>[[43],[45]]
 | 3=>[[61,61],[33,61],[60,61],[62,61],[60],[62]]
 | 4=>[[38,38]]
 | _=>[[124,124]]
inductive NT where
 | rule (k:Nat)
 | loop (k:Nat) (e:Ex)
 | prim
 | args (S:Bs) (out:List Ex)
def stepE(s:Bs)(rec:NT→Nat→Wd→Option (Res Ex)):NT→Nat→Wd→Option (Res Ex)
 | .rule 0,g,w=>
  if 200≤g then badR 102 w
  else if sgn w [[45],[33]] then onW (stepW s w) fun w1=>onR (rec (.rule 0) (g+1) w1) fun e w2=>fineR (.mk 3 w.S 0 [e]) w2
  else rec .prim (g+1) w
 | .rule (k+1),g,w=>onR (rec (.rule k) g w) fun e w1=>rec (.loop (k+1) e) g w1
 | .loop k e,g,w=>
  if sgn w (lvl k) then onW (stepW s w) fun w1=>onR (rec (.rule (k-1)) g w1) fun r w2=>
   if Nat.beq k 3 then fineR (.mk 3 w.S 0 [e,r]) w2 else rec (.loop k (.mk 3 w.S 0 [e,r])) g w2
  else fineR e w
 | .prim,g,w=>
  if w.k=1 then onW (stepW s w) fun w1=>fineR (.mk 1 [] w.n []) w1
  else if w.k=2 then onW (stepW s w) fun w1=>
   if sgn w1 [[40]] then onW (stepW s w1) fun w2=>
    if sgn w2 [[41]] then onW (stepW s w2) fun w3=>fineR (.mk 4 w.S 0 []) w3
    else rec (.args w.S []) g w2
   else fineR (.mk 2 w.S 0 []) w1
  else if sgn w [[40]] then onW (stepW s w) fun w1=>onR (rec (.rule 5) g w1) fun e w2=>onW (takeW s [41] w2) fun w3=>fineR e w3
  else badR 101 w
 | .args S out,g,w=>onR (rec (.rule 5) g w) fun e w1=>
  if sgn w1 [[44]] then onW (stepW s w1) fun w2=>rec (.args S (out++[e])) g w2
  else onW (takeW s [41] w1) fun w2=>fineR (.mk 4 S 0 (out++[e])) w2
def pE(s:Bs):Nat→NT→Nat→Wd→Option (Res Ex)
 | 0=>fun _ _ _=>none
 | f+1=>stepE s (pE s f)
inductive NS where
 | stmt
 | body
 | more (out:List St)
def namedW(s:Bs)(pe:NT→Nat→Wd→Option (Res Ex))(k line g:Nat)(w:Wd):Option (Res (List St)):=
 if w.k=2 then onW (stepW s w) fun w1=>onW (takeW s [61] w1) fun w2=>onR (pe (.rule 5) g w2) fun e w3=>onW (takeW s [59] w3) fun w4=>fineR [.mk k w.S e [] [] line] w4
 else badR 101 w
def askedW(s:Bs)(pe:NT→Nat→Wd→Option (Res Ex))(rec:NS→Nat→Wd→Option (Res (List St)))(g:Nat)(w:Wd)(f:Ex→List St→Wd→Option (Res (List St))):Option (Res (List St)):=
 onW (takeW s [40] w) fun w1=>onR (pe (.rule 5) g w1) fun e w2=>onW (takeW s [41] w2) fun w3=>onR (rec .body g w3) fun l w4=>f e l w4
def stepS(s:Bs)(pe:NT→Nat→Wd→Option (Res Ex))(rec:NS→Nat→Wd→Option (Res (List St))):NS→Nat→Wd→Option (Res (List St))
 | .stmt,g,w=>
  if 200≤g then badR 102 w
  else if kyw w [108,101,116] then onW (stepW s w) fun w1=>namedW s pe 1 w.line (g+1) w1
  else if kyw w [115,101,116] then onW (stepW s w) fun w1=>namedW s pe 2 w.line (g+1) w1
  else if kyw w [105,102] then onW (stepW s w) fun w1=>askedW s pe rec (g+1) w1 fun e l w2=>
   if kyw w2 [101,108,115,101] then onW (stepW s w2) fun w3=>onR (rec .body (g+1) w3) fun m w4=>fineR [.mk 3 [] e l m w.line] w4
   else fineR [.mk 3 [] e l [] w.line] w2
  else if kyw w [119,104,105,108,101] then onW (stepW s w) fun w1=>askedW s pe rec (g+1) w1 fun e l w2=>fineR [.mk 4 [] e l [] w.line] w2
  else if kyw w [114,101,116,117,114,110] then onW (stepW s w) fun w1=>onR (pe (.rule 5) (g+1) w1) fun e w2=>onW (takeW s [59] w2) fun w3=>fineR [.mk 5 [] e [] [] w.line] w3
  else badR 101 w
 | .body,g,w=>onW (takeW s [123] w) fun w1=>rec (.more []) g w1
 | .more out,g,w=>
  if sgn w [[125]] then onW (stepW s w) fun w1=>fineR out w1
  else onR (rec .stmt g w) fun x w1=>rec (.more (out++x)) g w1
def pS(s:Bs):Nat→NS→Nat→Wd→Option (Res (List St))
 | 0=>fun _ _ _=>none
 | f+1=>stepS s (pE s f) (pS s f)
def pTop(s:Bs):Nat→List St→Wd→Option (Except Flt (List St))
 | 0,_,_=>none
 | f+1,out,w=>if w.k=5 then some (.ok out) else match pS s f .stmt 0 w with
  | none=>none
  | some (.error e)=>some (.error e)
  | some (.ok (x,w1))=>pTop s f (out++x) w1
theorem pE_succ(s:Bs)(f:Nat):pE s (f+1)=stepE s (pE s f):=rfl
theorem pS_succ(s:Bs)(f:Nat):pS s (f+1)=stepS s (pE s f) (pS s f):=rfl
mutual
def Ex.size:Ex→Nat
 | .mk _ _ _ kids=>sizesE kids+1
def sizesE:List Ex→Nat
 | []=>0
 | e::l=>e.size+sizesE l
end
mutual
def Ex.deep:Ex→Nat
 | .mk _ _ _ kids=>deepsE kids+1
def deepsE:List Ex→Nat
 | []=>0
 | e::l=>max e.deep (deepsE l)
end
mutual
def St.size:St→Nat
 | .mk _ _ e body els _=>e.size+sizesS body+sizesS els+1
def sizesS:List St→Nat
 | []=>0
 | x::l=>x.size+sizesS l
end
mutual
def St.deep:St→Nat
 | .mk _ _ e body els _=>max e.deep (max (deepsS body) (deepsS els))+1
def deepsS:List St→Nat
 | []=>0
 | x::l=>max x.deep (deepsS l)
end
def nameF(s:Bs):Bool:=match nextW s 0 with
 | .ok w=>Nat.beq w.k 2&&decide (w.S=s)
 | .error _=>false
def opF(s:Bs)(n:Nat):Bool:=match n with
 | 1=>[[45],[33]].contains s
 | 2=>[[124,124],[38,38],[61,61],[33,61],[60,61],[62,61],[60],[62],[43],[45],[42],[47]].contains s
 | _=>false
def partF(k:Nat)(s:Bs)(n:Int)(kids:Nat):Bool:=
 if k=1 then decide (0≤n)&&(s.isEmpty&&Nat.beq kids 0)
 else if k=2 then decide (n=0)&&(nameF s&&Nat.beq kids 0)
 else if k=3 then decide (n=0)&&opF s kids
 else if k=4 then decide (n=0)&&nameF s
 else false
mutual
def okE:Ex→Bool
 | .mk k s n kids=>partF k s n kids.length&&oksE kids
def oksE:List Ex→Bool
 | []=>true
 | e::l=>okE e&&oksE l
end
def lineF'(k:Nat)(s:Bs)(body els:Nat):Bool:=
 if k=1∨k=2 then nameF s&&(Nat.beq body 0&&Nat.beq els 0)
 else if k=3 then s.isEmpty
 else if k=4 then s.isEmpty&&Nat.beq els 0
 else if k=5 then s.isEmpty&&(Nat.beq body 0&&Nat.beq els 0)
 else false
mutual
def okS:St→Bool
 | .mk k s e body els _=>lineF' k s body.length els.length&&(okE e&&(oksS body&&oksS els))
def oksS:List St→Bool
 | []=>true
 | x::l=>okS x&&oksS l
end
def fitsF(l:List St):Bool:=decide (sizesS l≤1000)&&decide (deepsS l≤40)
def rightF(l:List St):Bool:=oksS l&&fitsF l
def fuelT(s:Bs):Nat:=20*s.length+100
def parseF(s:Bs):Except Flt (List St):=match nextW s 0 with
 | .error e=>.error e
 | .ok w=>match pTop s (fuelT s) [] w with
  | none=>.error (0,0)
  | some (.error e)=>.error e
  | some (.ok l)=>if fitsF l then .ok l else .error (102,0)
open Go.Abs Go.Abs.S
theorem sgF_pos{s:Bs}{j:Nat}(h:signF (s.drop j)≠[]):0<(signF (s.drop j)).length:=List.length_pos_iff.2 h
structure WOk(s:Bs)(w:Wd):Prop where
 long:s.length≤16384
 en:w.en≤s.length
 key:w.k=3→keyF w.S=true
 sig:w.k=4→w.S∈signsL
theorem oneF_ok{s:Bs}{j:Nat}{t:Tok}(hj:j≤s.length)(h:oneF s j=some t):j<t.e∧t.e≤s.length∧t.k≠5∧(t.k=3→keyF t.S=true)∧(t.k=4→t.S∈signsL):=by
 unfold oneF at h
 cases hc:s[j]? with
 | none=>rw[hc]at h; simp at h
 | some c=>
  rw[hc]at h
  simp only at h
  have hlt:=(List.getElem?_eq_some_iff.1 hc).1
  by_cases hd:dig c=true
  ·rw[if_pos hd]at h
   cases hs:saysF (sub s j (numF s j)) with
   | none=>rw[hs]at h; simp at h
   | some n=>
    rw[hs]at h
    simp only[sJ]at h
    subst h
    exact⟨(numF_pos hc).2 hd,numF_le hj,by simp,by simp,by simp⟩
  ·rw[if_neg hd]at h
   by_cases hb:beg c=true
   ·rw[if_pos hb]at h
    simp only[sJ]at h
    subst h
    have hg:bgd c=true:=by simp[bgd,hb]
    have:=runF_go hc hg
    have h2:=runF_ge bgd s (j+1)
    refine⟨by simp only; omega,runF_le hj,?_,?_,?_⟩
    ·simp only; split <;> omega
    ·simp only; intro q; split at q
     ·assumption
     ·omega
    ·simp only; intro q; split at q <;> omega
   ·rw[if_neg hb]at h
    by_cases hs:signF (s.drop j)=[]
    ·rw[if_pos hs]at h; simp at h
    ·rw[if_neg hs]at h
     simp only[sJ]at h
     subst h
     have:=sgF_pos hs
     refine⟨by simp only; omega,signF_le hj,by simp,by simp,fun _=>?_⟩
     simp only
     have hd':s.drop j=c::s.drop (j+1):=by
      rw[← (List.getElem?_eq_some_iff.1 hc).2,← List.drop_eq_getElem_cons hlt]
     rw[hd']at hs ⊢
     rw[signF_find]at hs ⊢
     cases hf:signsL.find? (pre (c::s.drop (j+1))) with
     | none=>rw[hf]at hs; simp at hs
     | some x=>simpa using List.mem_of_find?_eq_some hf
theorem nextW_ok{s:Bs}{p:Nat}{w:Wd}(h:nextW s p=.ok w):WOk s w∧p≤w.en∧(w.k≠5→p<w.en):=by
 unfold nextW at h
 by_cases a1:16384<s.length
 ·rw[if_pos a1]at h; simp at h
 rw[if_neg a1]at h
 by_cases a2:s.length<p
 ·rw[if_pos a2]at h; simp at h
 rw[if_neg a2]at h
 have hp:=skipF_ge (s:=s) (i:=p) om
 by_cases a3:skipF s p=s.length
 ·rw[if_pos a3]at h
  simp only[Except.ok.injEq]at h
  subst h
  exact⟨⟨om,by simp only; omega,by simp,by simp⟩,by simp only; omega,by simp⟩
 rw[if_neg a3]at h
 cases ho:oneF s (skipF s p) with
 | none=>rw[ho]at h; simp at h
 | some t=>
  rw[ho]at h
  simp only[Except.ok.injEq]at h
  subst h
  obtain⟨h1,h2,h3,h4,h5⟩:=oneF_ok (skipF_le s p) ho
  exact⟨⟨om,h2,h4,h5⟩,by simp only; omega,fun _=>by simp only; omega⟩
def mW(s:Bs)(w:Wd):Nat:=if w.k=5 then 0 else s.length+1-w.en
theorem stepW_ok{s:Bs}{w w':Wd}(h:stepW s w=.ok w')(hw:WOk s w)(hk:w.k≠5):WOk s w'∧mW s w'<mW s w:=by
 obtain⟨h1,h2,h3⟩:=nextW_ok h
 refine⟨h1,?_⟩
 have e1:=h1.en
 have e2:=hw.en
 unfold mW
 rw[if_neg hk]
 by_cases hk':w'.k=5
 ·rw[if_pos hk']; omega
 ·rw[if_neg hk']
  have:=h3 hk'
  omega
theorem sgn_k{w:Wd}{l:List Bs}(h:sgn w l=true):w.k=4:=by
 simp only[sgn,Bool.and_eq_true]at h
 exact Nat.eq_of_beq_eq_true h.1
theorem kyw_k{w:Wd}{s:Bs}(h:kyw w s=true):w.k=3:=by
 simp only[kyw,Bool.and_eq_true]at h
 exact Nat.eq_of_beq_eq_true h.1
theorem takeW_ok{s c:Bs}{w w':Wd}(h:takeW s c w=.ok w')(hw:WOk s w):sgn w [c]=true∧stepW s w=.ok w'∧WOk s w'∧mW s w'<mW s w:=by
 unfold takeW at h
 by_cases hs:sgn w [c]=true
 ·rw[if_pos hs]at h
  have:=stepW_ok h hw (by rw[sgn_k hs]; omega)
  exact⟨hs,h,this⟩
 ·rw[if_neg hs]at h; simp at h
def Fine{α:Type}(s:Bs)(o:Option (Res α))(m:Nat):Prop:=∃r,o=some r∧∀a w',r=.ok (a,w')→WOk s w'∧mW s w'<m
theorem Fine.le{α:Type}{s:Bs}{o:Option (Res α)}{m m':Nat}(h:Fine s o m)(hm:m≤m'):Fine s o m':=by
 obtain⟨r,h1,h2⟩:=h
 exact⟨r,h1,fun a w' h=>⟨(h2 a w' h).1,by have:=(h2 a w' h).2; omega⟩⟩
theorem fine_fine{α:Type}{s:Bs}{a:α}{w:Wd}{m:Nat}(hw:WOk s w)(hm:mW s w<m):Fine s (fineR a w) m:=
 ⟨_,rfl,fun a' w' h=>by simp only[Except.ok.injEq,pJ]at h; rw[← h.2]; exact⟨hw,hm⟩⟩
theorem fine_bad{α:Type}{s:Bs}{e:Nat}{w:Wd}{m:Nat}:Fine (α:=α) s (badR e w) m:=⟨_,rfl,fun a' w' h=>by simp at h⟩
theorem fine_onW{α:Type}{s:Bs}{o:Except Flt Wd}{f:Wd→Option (Res α)}{m:Nat}(h:∀w',o=.ok w'→Fine s (f w') m):Fine s (onW o f) m:=by
 cases o with
 | error e=>exact⟨_,rfl,fun a' w' h=>by simp at h⟩
 | ok w'=>exact h w' rfl
theorem fine_onR{α β:Type}{s:Bs}{o:Option (Res α)}{f:α→Wd→Option (Res β)}{m k:Nat}(ho:Fine s o k)(h:∀a w',WOk s w'→mW s w'<k→Fine s (f a w') m):Fine s (onR o f) m:=by
 obtain⟨r,rfl,h2⟩:=ho
 cases r with
 | error e=>exact⟨_,rfl,fun a' w' h=>by simp at h⟩
 | ok p=>
  obtain⟨a,w'⟩:=p
  exact h a w' (h2 a w' rfl).1 (h2 a w' rfl).2
def rkE:NT→Nat
 | .rule k=>k+2
 | .loop _ _=>0
 | .prim=>1
 | .args _ _=>8
def okN:NT→Prop
 | .rule k=>k≤5
 | .loop k _=>1≤k∧k≤5
 | _=>True
theorem fuelE(s:Bs):∀(f:Nat) (nt:NT) (g:Nat) (w:Wd),WOk s w→okN nt→9*mW s w+rkE nt<f→Fine s (pE s f nt g w) (mW s w+(match nt with | .loop _ _=>1 | _=>0))
 | 0,_,_,_,_,_,h=>absurd h (Nat.not_lt_zero _)
 | f+1,nt,g,w,hw,hk,h=>by
  have ih:=fuelE s f
  rw[pE_succ]
  cases nt with
  | rule k=>
   simp only[rkE,okN,Nat.add_zero]at h hk ⊢
   cases k with
   | zero=>
    simp only[stepE]
    by_cases g2:200≤g
    ·rw[if_pos g2]; exact fine_bad
    rw[if_neg g2]
    by_cases hs:sgn w [[45],[33]]=true
    ·rw[if_pos hs]
     refine fine_onW fun w1 h1=>?_
     obtain⟨k1,k2⟩:=stepW_ok h1 hw (by rw[sgn_k hs]; omega)
     refine fine_onR (ih (.rule 0) (g+1) w1 k1 (by simp only[okN]; omega) (by simp only[rkE]; omega)) fun e w2 l1 l2=>?_
     simp only[Nat.add_zero]at l2
     exact fine_fine l1 om
    ·rw[if_neg hs]
     exact ih .prim (g+1) w hw trivial (by simp only[rkE]; omega)
   | succ k=>
    simp only[stepE]
    refine fine_onR (ih (.rule k) g w hw (by simp only[okN]; omega) (by simp only[rkE]; omega)) fun e w1 l1 l2=>?_
    simp only[Nat.add_zero]at l2
    exact (ih (.loop (k+1) e) g w1 l1 ⟨om,hk⟩ (by simp only[rkE]; omega)).le (by simp only; omega)
  | loop k e=>
   simp only[rkE,okN,Nat.add_zero]at h hk ⊢
   simp only[stepE]
   by_cases hs:sgn w (lvl k)=true
   ·rw[if_pos hs]
    refine fine_onW fun w1 h1=>?_
    obtain⟨k1,k2⟩:=stepW_ok h1 hw (by rw[sgn_k hs]; omega)
    refine fine_onR (ih (.rule (k-1)) g w1 k1 (by simp only[okN]; omega) (by simp only[rkE]; omega)) fun r w2 l1 l2=>?_
    simp only[Nat.add_zero]at l2
    cases hb:Nat.beq k 3 with
    | true=>exact fine_fine l1 om
    | false=>exact (ih (.loop k _) g w2 l1 hk (by simp only[rkE]; omega)).le (by simp only; omega)
   ·rw[if_neg hs]
    exact fine_fine hw om
  | prim=>
   simp only[rkE,Nat.add_zero]at h ⊢
   simp only[stepE]
   by_cases c1:w.k=1
   ·rw[if_pos c1]
    refine fine_onW fun w1 h1=>?_
    obtain⟨k1,k2⟩:=stepW_ok h1 hw om
    exact fine_fine k1 om
   rw[if_neg c1]
   by_cases c2:w.k=2
   ·rw[if_pos c2]
    refine fine_onW fun w1 h1=>?_
    obtain⟨k1,k2⟩:=stepW_ok h1 hw om
    by_cases hs:sgn w1 [[40]]=true
    ·rw[if_pos hs]
     refine fine_onW fun w2 h2=>?_
     obtain⟨k3,k4⟩:=stepW_ok h2 k1 (by rw[sgn_k hs]; omega)
     by_cases hs2:sgn w2 [[41]]=true
     ·rw[if_pos hs2]
      refine fine_onW fun w3 h3=>?_
      obtain⟨k5,k6⟩:=stepW_ok h3 k3 (by rw[sgn_k hs2]; omega)
      exact fine_fine k5 om
     ·rw[if_neg hs2]
      exact (ih (.args _ _) g w2 k3 trivial (by simp only[rkE]; omega)).le (by simp only; omega)
    ·rw[if_neg hs]
     exact fine_fine k1 om
   rw[if_neg c2]
   by_cases hs:sgn w [[40]]=true
   ·rw[if_pos hs]
    refine fine_onW fun w1 h1=>?_
    obtain⟨k1,k2⟩:=stepW_ok h1 hw (by rw[sgn_k hs]; omega)
    refine fine_onR (ih (.rule 5) g w1 k1 (by simp only[okN]; omega) (by simp only[rkE]; omega)) fun e w2 l1 l2=>?_
    simp only[Nat.add_zero]at l2
    refine fine_onW fun w3 h3=>?_
    obtain⟨_,_,k5,k6⟩:=takeW_ok h3 l1
    exact fine_fine k5 om
   ·rw[if_neg hs]; exact fine_bad
  | args S out=>
   simp only[rkE,Nat.add_zero]at h ⊢
   simp only[stepE]
   refine fine_onR (ih (.rule 5) g w hw (by simp only[okN]; omega) (by simp only[rkE]; omega)) fun e w1 l1 l2=>?_
   simp only[Nat.add_zero]at l2
   by_cases hs:sgn w1 [[44]]=true
   ·rw[if_pos hs]
    refine fine_onW fun w2 h2=>?_
    obtain⟨k3,k4⟩:=stepW_ok h2 l1 (by rw[sgn_k hs]; omega)
    exact (ih (.args _ _) g w2 k3 trivial (by simp only[rkE]; omega)).le (by simp only; omega)
   ·rw[if_neg hs]
    refine fine_onW fun w2 h2=>?_
    obtain⟨_,_,k5,k6⟩:=takeW_ok h2 l1
    exact fine_fine k5 om
def rkS:NS→Nat
 | .stmt=>0
 | .body=>0
 | .more _=>1
theorem fuelS(s:Bs):∀(f:Nat) (nt:NS) (g:Nat) (w:Wd),WOk s w→9*mW s w+rkS nt+2<f→Fine s (pS s f nt g w) (mW s w)
 | 0,_,_,_,_,h=>absurd h (Nat.not_lt_zero _)
 | f+1,nt,g,w,hw,h=>by
  have ih:=fuelS s f
  have ihE:=fuelE s f
  rw[pS_succ]
  have pe:∀g w1,WOk s w1→mW s w1<mW s w→Fine s (pE s f (.rule 5) g w1) (mW s w):=fun g w1 h1 h2=>(ihE (.rule 5) g w1 h1 (by simp only[okN]; omega) (by simp only[rkE]; omega)).le (by simp only; omega)
  have named:∀k line g w1,WOk s w1→mW s w1<mW s w→Fine s (namedW s (pE s f) k line g w1) (mW s w):=by
   intro k line g w1 k1 k2
   unfold namedW
   by_cases c:w1.k=2
   ·rw[if_pos c]
    refine fine_onW fun w2 h2=>?_
    obtain⟨k3,k4⟩:=stepW_ok h2 k1 om
    refine fine_onW fun w3 h3=>?_
    obtain⟨_,_,k5,k6⟩:=takeW_ok h3 k3
    refine fine_onR (pe g w3 k5 om) fun e w4 l1 l2=>?_
    refine fine_onW fun w5 h5=>?_
    obtain⟨_,_,k7,k8⟩:=takeW_ok h5 l1
    exact fine_fine k7 om
   ·rw[if_neg c]; exact fine_bad
  have asked:∀g w1 F,WOk s w1→mW s w1<mW s w→(∀e l w4,WOk s w4→mW s w4<mW s w→Fine s (F e l w4) (mW s w))→Fine s (askedW s (pE s f) (pS s f) g w1 F) (mW s w):=by
   intro g w1 F k1 k2 hF
   unfold askedW
   refine fine_onW fun w2 h2=>?_
   obtain⟨_,_,k3,k4⟩:=takeW_ok h2 k1
   refine fine_onR (pe g w2 k3 om) fun e w3 l1 l2=>?_
   refine fine_onW fun w4 h4=>?_
   obtain⟨_,_,k5,k6⟩:=takeW_ok h4 l1
   refine fine_onR (ih .body g w4 k5 (by simp only[rkS]; omega)) fun l w5 m1 m2=>?_
   exact hF e l w5 m1 om
  cases nt with
  | stmt=>
   simp only[rkS]at h
   simp only[stepS]
   by_cases g2:200≤g
   ·rw[if_pos g2]; exact fine_bad
   rw[if_neg g2]
   by_cases c1:kyw w [108,101,116]=true
   ·rw[if_pos c1]
    refine fine_onW fun w1 h1=>?_
    obtain⟨k1,k2⟩:=stepW_ok h1 hw (by rw[kyw_k c1]; omega)
    exact named _ _ _ w1 k1 k2
   rw[if_neg c1]
   by_cases c2:kyw w [115,101,116]=true
   ·rw[if_pos c2]
    refine fine_onW fun w1 h1=>?_
    obtain⟨k1,k2⟩:=stepW_ok h1 hw (by rw[kyw_k c2]; omega)
    exact named _ _ _ w1 k1 k2
   rw[if_neg c2]
   by_cases c3:kyw w [105,102]=true
   ·rw[if_pos c3]
    refine fine_onW fun w1 h1=>?_
    obtain⟨k1,k2⟩:=stepW_ok h1 hw (by rw[kyw_k c3]; omega)
    refine asked _ w1 _ k1 k2 fun e l w2 l1 l2=>?_
    by_cases c:kyw w2 [101,108,115,101]=true
    ·rw[if_pos c]
     refine fine_onW fun w3 h3=>?_
     obtain⟨k3,k4⟩:=stepW_ok h3 l1 (by rw[kyw_k c]; omega)
     refine fine_onR (ih .body _ w3 k3 (by simp only[rkS]; omega)) fun m w4 m1 m2=>?_
     exact fine_fine m1 om
    ·rw[if_neg c]
     exact fine_fine l1 om
   rw[if_neg c3]
   by_cases c4:kyw w [119,104,105,108,101]=true
   ·rw[if_pos c4]
    refine fine_onW fun w1 h1=>?_
    obtain⟨k1,k2⟩:=stepW_ok h1 hw (by rw[kyw_k c4]; omega)
    exact asked _ w1 _ k1 k2 fun e l w2 l1 l2=>fine_fine l1 om
   rw[if_neg c4]
   by_cases c5:kyw w [114,101,116,117,114,110]=true
   ·rw[if_pos c5]
    refine fine_onW fun w1 h1=>?_
    obtain⟨k1,k2⟩:=stepW_ok h1 hw (by rw[kyw_k c5]; omega)
    refine fine_onR (pe _ w1 k1 k2) fun e w2 l1 l2=>?_
    refine fine_onW fun w3 h3=>?_
    obtain⟨_,_,k5,k6⟩:=takeW_ok h3 l1
    exact fine_fine k5 om
   rw[if_neg c5]; exact fine_bad
  | body=>
   simp only[rkS]at h
   simp only[stepS]
   refine fine_onW fun w1 h1=>?_
   obtain⟨_,_,k1,k2⟩:=takeW_ok h1 hw
   exact (ih (.more []) g w1 k1 (by simp only[rkS]; omega)).le om
  | more out=>
   simp only[rkS]at h
   simp only[stepS]
   by_cases c:sgn w [[125]]=true
   ·rw[if_pos c]
    refine fine_onW fun w1 h1=>?_
    obtain⟨k1,k2⟩:=stepW_ok h1 hw (by rw[sgn_k c]; omega)
    exact fine_fine k1 om
   ·rw[if_neg c]
    refine fine_onR (ih .stmt g w hw (by simp only[rkS]; omega)) fun x w1 l1 l2=>?_
    exact (ih (.more _) g w1 l1 (by simp only[rkS]; omega)).le om
theorem fuelTop(s:Bs):∀(f:Nat) (out:List St) (w:Wd),WOk s w→10*mW s w+4<f→∃r,pTop s f out w=some r
 | 0,_,_,_,h=>absurd h (Nat.not_lt_zero _)
 | f+1,out,w,hw,h=>by
  unfold pTop
  by_cases c:w.k=5
  ·rw[if_pos c]; exact⟨_,rfl⟩
  rw[if_neg c]
  obtain⟨r,h1,h2⟩:=fuelS s f .stmt 0 w hw (by simp only[rkS]; omega)
  rw[h1]
  cases r with
  | error e=>exact⟨_,rfl⟩
  | ok p=>
   obtain⟨x,w1⟩:=p
   obtain⟨l1,l2⟩:=h2 x w1 rfl
   exact fuelTop s f (out++x) w1 l1 om
theorem fuelT_ok{s:Bs}{w:Wd}(h:nextW s 0=.ok w):∃r,pTop s (fuelT s) [] w=some r:=by
 obtain⟨h1,_,_⟩:=nextW_ok h
 refine fuelTop s _ [] w h1 ?_
 have:mW s w≤s.length+1:=by unfold mW; split <;> omega
 unfold fuelT
 omega
open Go.Abs Go.Abs.S
def SlK(P:Nat→Prop)(H:AHeap)(m:Nat)(v:AVal)(k:Nat)(C:List AVal):Prop:=
 (isE v=true∧k=0∧C=[])∨∃a r,v=.slice (some a) k r∧P a.b∧rdCells H a (m*k)=some C
theorem SlK.mono{P Q:Nat→Prop}{H H':AHeap}{m k:Nat}{v:AVal}{C:List AVal}(h:SlK P H m v k C)(q:∀b,P b→Q b∧H'.get b=H.get b):SlK Q H' m v k C:=by
 rcases h with h | ⟨a,r,h1,h2,h3⟩
 ·exact .inl h
 ·exact .inr ⟨a,r,h1,(q _ h2).1,by rw[rd_congr (q _ h2).2]; exact h3⟩
theorem SlK.one{P:Nat→Prop}{H:AHeap}{m k:Nat}{v:AVal}{C:List AVal}(h:SlK P H m v k C):v.one=true:=by
 rcases h with⟨h,_⟩ | ⟨a,r,rfl,_⟩
 ·exact isE_one h
 ·rfl
theorem SlK.len{P:Nat→Prop}{H:AHeap}{m k:Nat}{v:AVal}{C:List AVal}(h:SlK P H m v k C):aLenK false v=some (.int .i64 (k:Int)):=by
 rcases h with⟨h,rfl,_⟩ | ⟨a,r,rfl,_⟩
 ·rcases isE_cases h with rfl | ⟨a,rfl⟩ <;> rfl
 ·rfl
theorem SlK.nil(P:Nat→Prop)(H:AHeap)(m:Nat):SlK P H m nilS 0 []:=.inl ⟨rfl,rfl,rfl⟩
theorem SlK.app{P:Nat→Prop}{H:AHeap}{m k:Nat}{v:AVal}{C:List AVal}(h:AppN m 0 H v C k)(hb:Blk v P):SlK P H m v k C:=by
 rcases h with⟨rfl,rfl,rfl⟩ | ⟨b,low,rfl,h2,h3,h4,h5,h6,h7⟩
 ·exact .nil P H m
 ·refine .inr ⟨_,_,rfl,hb _ _ _ rfl,?_⟩
  rw[← h2]
  exact rd_whole h5 h6
theorem SlK.row{P:Nat→Prop}{H:AHeap}{m k n:Nat}{b:Nat}{r:Room}{C:List AVal}(h:Row H b C)(hn:C.length=n)(hk:m*k=n)(hp:P b):SlK P H m (.slice (some ⟨b,n,0⟩) k r) k C:=by
 refine .inr ⟨_,_,rfl,hp,?_⟩
 obtain⟨low,h1,h2⟩:=h
 rw[hk,← hn]
 exact rd_whole h1 h2
def placeK(m:Nat)(v:AVal)(i:Nat):AVal:=match v with
 | .slice (some a) _ _=>.ptr (some ⟨a.b,a.lim,a.o+i*m⟩)
 | _=>undefA
theorem SlK.idx{P:Nat→Prop}{H:AHeap}{m k:Nat}{v:AVal}{C:List AVal}(h:SlK P H m v k C){i:Nat}(hi:i<k):aIdxA m v (.int .i64 (i:Int))=some (placeK m v i):=by
 rcases h with⟨_,rfl,_⟩ | ⟨a,r,rfl,_⟩
 ·omega
 ·show (bif Nat.blt i k then some (AVal.ptr (some ⟨a.b,a.lim,a.o+i*m⟩)) else none)=_
  rw[show Nat.blt i k=true by simpa[Nat.blt_eq] using hi]; rfl
theorem rd_part{H:AHeap}{a:Ad}{n i j:Nat}{C:List AVal}(h:rdCells H a n=some C)(hij:i+j≤n):rdCells H ⟨a.b,a.lim,a.o+i⟩ j=some ((C.drop i).take j):=by
 obtain⟨l,low,ro,h1,h2,h3,h4,rfl⟩:=rd_spec h
 unfold rdCells
 simp only[h1,Nat.ble_eq_true_of_le h2,Nat.ble_eq_true_of_le h3,Nat.ble_eq_true_of_le (show a.o+i+j≤a.lim by omega),Bool.and_self,cond_true]
 rw[List.drop_take,List.take_take,Nat.min_eq_left om,List.drop_drop]
theorem SlK.load{P:Nat→Prop}{H:AHeap}{m k:Nat}{v:AVal}{C:List AVal}(h:SlK P H m v k C){i:Nat}(hi:i<k):oLoad true m H (placeK m v i)=some (.agg ((C.drop (i*m)).take m)):=by
 rcases h with⟨_,rfl,_⟩ | ⟨a,r,rfl,_,h3⟩
 ·omega
 ·have hm:i*m+m≤m*k:=by
   have:(i+1)*m≤k*m:=Nat.mul_le_mul_right m hi
   rw[Nat.mul_comm m k]; rw[Nat.add_mul,Nat.one_mul]at this; exact this
  simp only[oLoad,placeK,rd_part h3 hm,cond_true]
theorem SlK.aeq{P:Nat→Prop}{H:AHeap}{m k:Nat}{v:AVal}{C:List AVal}(h:SlK P H m v k C):aeq v v=true:=by
 rcases h with⟨h,_⟩ | ⟨a,r,rfl,_⟩
 ·rcases isE_cases h with rfl | ⟨a,rfl⟩
  ·exact aeq_nilS
  ·simp[Go.Abs.aeq]
 ·cases r <;> simp[Go.Abs.aeq]
mutual
def XE(P:Nat→Prop)(H:AHeap):Ex→List AVal→Prop
 | .mk k s n kids,c=>∃v C,c=[.int .u8 (k:Int),.str s,.int .i64 n,v]∧SlK P H 4 v kids.length C∧XEs P H kids C
def XEs(P:Nat→Prop)(H:AHeap):List Ex→List AVal→Prop
 | [],C=>C=[]
 | e::l,C=>∃c D,C=c++D∧XE P H e c∧XEs P H l D
end
theorem XE.len{P:Nat→Prop}{H:AHeap}{e:Ex}{c:List AVal}(h:XE P H e c):c.length=4:=by
 cases e; obtain⟨v,C,rfl,_⟩:=h; rfl
theorem XE.one{P:Nat→Prop}{H:AHeap}{e:Ex}{c:List AVal}(h:XE P H e c):c.all AVal.one=true:=by
 cases e; obtain⟨v,C,rfl,h2,_⟩:=h
 simp only[List.all_cons,List.all_nil,h2.one]; rfl
theorem XE.aeqs{P:Nat→Prop}{H:AHeap}{e:Ex}{c:List AVal}(h:XE P H e c):aeqs c c=true:=by
 cases e; obtain⟨v,C,rfl,h2,_⟩:=h
 simp[Go.Abs.aeqs,aeq_int,aeq_str,h2.aeq]
mutual
theorem XE.mono{P Q:Nat→Prop}{H H':AHeap}(q:∀b,P b→Q b∧H'.get b=H.get b):∀{e:Ex} {c:List AVal},XE P H e c→XE Q H' e c
 | .mk _ _ _ _,_,h=>by
  obtain⟨v,C,h1,h2,h3⟩:=h
  exact⟨v,C,h1,h2.mono q,XEs.mono q h3⟩
theorem XEs.mono{P Q:Nat→Prop}{H H':AHeap}(q:∀b,P b→Q b∧H'.get b=H.get b):∀{l:List Ex} {C:List AVal},XEs P H l C→XEs Q H' l C
 | [],_,h=>h
 | _::_,_,h=>by
  obtain⟨c,D,h1,h2,h3⟩:=h
  exact⟨c,D,h1,XE.mono q h2,XEs.mono q h3⟩
end
theorem XEs.len{P:Nat→Prop}{H:AHeap}:∀{l:List Ex} {C:List AVal},XEs P H l C→C.length=4*l.length
 | [],_,h=>by rw[show _=[] from h]; rfl
 | _::l,_,⟨c,D,h1,h2,h3⟩=>by
  rw[h1,lA,h2.len,XEs.len h3,List.length_cons]; omega
theorem XEs.app{P:Nat→Prop}{H:AHeap}{l':List Ex}{C':List AVal}(h':XEs P H l' C'):∀{l:List Ex} {C:List AVal},XEs P H l C→XEs P H (l++l') (C++C')
 | [],_,h=>by rw[show _=[] from h]; exact h'
 | _::l,_,⟨c,D,h1,h2,h3⟩=>⟨c,D++C',by rw[h1,List.append_assoc],h2,XEs.app h' h3⟩
theorem XEs.sing{P:Nat→Prop}{H:AHeap}{e:Ex}{c:List AVal}(h:XE P H e c):XEs P H [e] c:=⟨c,[],by simp,h,rfl⟩
theorem XEs.at{P:Nat→Prop}{H:AHeap}:∀{l:List Ex} {C:List AVal},XEs P H l C→∀{i:Nat} {e:Ex},l[i]?=some e→XE P H e ((C.drop (i*4)).take 4)
 | [],_,_,i,e,hi=>by simp at hi
 | x::l,_,⟨c,D,h1,h2,h3⟩,i,e,hi=>by
  subst h1
  have hl:=h2.len
  cases i with
  | zero=>
   simp only[List.getElem?_cons_zero,sJ]at hi
   subst hi
   rw[Nat.zero_mul,List.drop_zero,List.take_append_of_le_length om,List.take_of_length_le om]
   exact h2
  | succ i=>
   rw[List.getElem?_cons_succ]at hi
   have:=XEs.at h3 hi
   rw[show (i+1)*4=c.length+i*4 by omega,List.drop_append,List.drop_of_length_le om,List.nil_append,show c.length+i*4-c.length=i*4 by omega]
   exact this
mutual
def XS(P:Nat→Prop)(H:AHeap):St→List AVal→Prop
 | .mk k s e body els line,c=>∃ce vb Cb ve Ce,c=.int .u8 (k:Int)::.str s::(ce++[vb,ve,.int .i64 line])∧XE P H e ce∧SlK P H 9 vb body.length Cb∧XSs P H body Cb∧SlK P H 9 ve els.length Ce∧XSs P H els Ce
def XSs(P:Nat→Prop)(H:AHeap):List St→List AVal→Prop
 | [],C=>C=[]
 | e::l,C=>∃c D,C=c++D∧XS P H e c∧XSs P H l D
end
theorem XS.len{P:Nat→Prop}{H:AHeap}{e:St}{c:List AVal}(h:XS P H e c):c.length=9:=by
 cases e; obtain⟨ce,vb,Cb,ve,Ce,rfl,h2,_⟩:=h
 simp[h2.len]
theorem XS.one{P:Nat→Prop}{H:AHeap}{e:St}{c:List AVal}(h:XS P H e c):c.all AVal.one=true:=by
 cases e; obtain⟨ce,vb,Cb,ve,Ce,rfl,h2,h3,_,h5,_⟩:=h
 simp only[List.all_cons,List.all_append,List.all_nil,h2.one,h3.one,h5.one]; rfl
theorem aeqs_app:∀{l m l' m':List AVal},aeqs l l'=true→aeqs m m'=true→aeqs (l++m) (l'++m')=true
 | [],_,[],_,_,h=>h
 | [],_,_::_,_,h,_=>by simp[Go.Abs.aeqs]at h
 | _::_,_,[],_,h,_=>by simp[Go.Abs.aeqs]at h
 | x::l,m,y::l',m',h,h'=>by
  simp only[Go.Abs.aeqs,Bool.and_eq_true]at h
  simp only[List.cons_append,Go.Abs.aeqs,h.1,aeqs_app h.2 h',Bool.and_self]
theorem XS.aeqs{P:Nat→Prop}{H:AHeap}{e:St}{c:List AVal}(h:XS P H e c):aeqs c c=true:=by
 cases e; obtain⟨ce,vb,Cb,ve,Ce,rfl,h2,h3,_,h5,_⟩:=h
 simp only[Go.Abs.aeqs,aeq_int,aeq_str,Bool.true_and]
 exact aeqs_app h2.aeqs (by simp[Go.Abs.aeqs,h3.aeq,h5.aeq,aeq_int])
mutual
theorem XS.mono{P Q:Nat→Prop}{H H':AHeap}(q:∀b,P b→Q b∧H'.get b=H.get b):∀{e:St} {c:List AVal},XS P H e c→XS Q H' e c
 | .mk _ _ _ _ _ _,_,h=>by
  obtain⟨ce,vb,Cb,ve,Ce,h1,h2,h3,h4,h5,h6⟩:=h
  exact⟨ce,vb,Cb,ve,Ce,h1,h2.mono q,h3.mono q,XSs.mono q h4,h5.mono q,XSs.mono q h6⟩
theorem XSs.mono{P Q:Nat→Prop}{H H':AHeap}(q:∀b,P b→Q b∧H'.get b=H.get b):∀{l:List St} {C:List AVal},XSs P H l C→XSs Q H' l C
 | [],_,h=>h
 | _::_,_,h=>by
  obtain⟨c,D,h1,h2,h3⟩:=h
  exact⟨c,D,h1,XS.mono q h2,XSs.mono q h3⟩
end
theorem XSs.len{P:Nat→Prop}{H:AHeap}:∀{l:List St} {C:List AVal},XSs P H l C→C.length=9*l.length
 | [],_,h=>by rw[show _=[] from h]; rfl
 | _::l,_,⟨c,D,h1,h2,h3⟩=>by
  rw[h1,lA,h2.len,XSs.len h3,List.length_cons]; omega
theorem XSs.app{P:Nat→Prop}{H:AHeap}{l':List St}{C':List AVal}(h':XSs P H l' C'):∀{l:List St} {C:List AVal},XSs P H l C→XSs P H (l++l') (C++C')
 | [],_,h=>by rw[show _=[] from h]; exact h'
 | _::l,_,⟨c,D,h1,h2,h3⟩=>⟨c,D++C',by rw[h1,List.append_assoc],h2,XSs.app h' h3⟩
theorem XSs.sing{P:Nat→Prop}{H:AHeap}{e:St}{c:List AVal}(h:XS P H e c):XSs P H [e] c:=⟨c,[],by simp,h,rfl⟩
theorem XSs.at{P:Nat→Prop}{H:AHeap}:∀{l:List St} {C:List AVal},XSs P H l C→∀{i:Nat} {e:St},l[i]?=some e→XS P H e ((C.drop (i*9)).take 9)
 | [],_,_,i,e,hi=>by simp at hi
 | x::l,_,⟨c,D,h1,h2,h3⟩,i,e,hi=>by
  subst h1
  have hl:=h2.len
  cases i with
  | zero=>
   simp only[List.getElem?_cons_zero,sJ]at hi
   subst hi
   rw[Nat.zero_mul,List.drop_zero,List.take_append_of_le_length om,List.take_of_length_le om]
   exact h2
  | succ i=>
   rw[List.getElem?_cons_succ]at hi
   have:=XSs.at h3 hi
   rw[show (i+1)*9=c.length+i*9 by omega,List.drop_append,List.drop_of_length_le om,List.nil_append,show c.length+i*9-c.length=i*9 by omega]
   exact this
def In(n m:Nat)(c:Nat):Prop:=n≤c∧c<m
def GE(n:Nat)(H:AHeap)(v:AVal)(l:List Ex):Prop:=∃C,AppN 4 0 H v C l.length∧Blk v (In n H.next)∧XEs (fun c=>In n H.next c∧Blk v (c≠·)) H l C
theorem GE.nil(n:Nat)(H:AHeap):GE n H nilS []:=⟨[],.nil _ _ _,blk_nil _,rfl⟩
theorem GE.keep{n:Nat}{H H':AHeap}{v:AVal}{l:List Ex}(h:GE n H v l)(hn:H.next≤H'.next)(e:∀c,In n H.next c→H'.get c=H.get c):GE n H' v l:=by
 obtain⟨C,h1,h2,h3⟩:=h
 exact⟨C,h1.same hn (h2.mono fun b hb=>e b hb),h2.mono fun b hb=>⟨hb.1,Nat.lt_of_lt_of_le hb.2 hn⟩,h3.mono fun b hb=>⟨⟨⟨hb.1.1,Nat.lt_of_lt_of_le hb.1.2 hn⟩,hb.2⟩,e b hb.1⟩⟩
theorem GE.sl{n:Nat}{H:AHeap}{v:AVal}{l:List Ex}(h:GE n H v l):∃C,SlK (In n H.next) H 4 v l.length C∧XEs (In n H.next) H l C:=by
 obtain⟨C,h1,h2,h3⟩:=h
 exact⟨C,.app h1 h2,h3.mono fun b hb=>⟨hb.1,rfl⟩⟩
theorem GE.push{n m:Nat}{H:AHeap}{v:AVal}{l:List Ex}(h:GE n H v l){e:Ex}{xs:List AVal}(hx:XE (In m H.next) H e xs)(hm:n≤m)(hn:n≤H.next)(hv:Blk v (·<m))(hl:l.length≤1000000){bytes:Nat}(hb1:0<bytes)(hb2:bytes≤1000) :
  ∃v' H',aAppend 4 bytes (H.push (.cells xs 0 false)) v (oneM H 4)=some (v',H')∧GE n H' v' (l++[e])∧H.next≤H'.next∧∀c,c<H.next→Blk v (c≠·)→H'.get c=H.get c:=by
 obtain⟨C,h1,h2,h3⟩:=h
 have hb:2*(l.length+1)*bytes≤281474976710656:=by
  have:2*(l.length+1)*bytes≤2*(1000000+1)*1000:=Nat.mul_le_mul om hb2
  omega
 obtain⟨v',H',a1,a2,a3,a4,a5⟩:=h1.pushB hx.len hx.one om hb hb1
 have k:∀c,In n H.next c→Blk v (c≠·)→In n H'.next c∧Blk v' (c≠·):=by
  intro c hc hd
  refine⟨⟨hc.1,Nat.lt_of_lt_of_le hc.2 a3⟩,(a4 _ hd).mono fun b hb=>?_⟩
  rcases hb with hb | hb
  ·exact hb
  ·have:=hc.2; omega
 refine⟨v',H',a1,⟨C++xs,by rw[lA]; exact a2,?_,XEs.app (XEs.sing ?_) ?_⟩,a3,a5⟩
 ·intro a j r e
  refine⟨?_,a2.blk' a j r e⟩
  rcases (a4 _ h2) a j r e with hb | hb
  ·exact hb.1
  ·omega
 ·refine hx.mono fun b hb=>⟨?_,a5 b hb.2 ?_⟩
  ·exact k b ⟨Nat.le_trans hm hb.1,hb.2⟩ (hv.mono fun c hc=>by have:=hb.1; omega)
  ·exact hv.mono fun c hc=>by have:=hb.1; omega
 ·exact h3.mono fun b hb=>⟨k b hb.1 hb.2,a5 b hb.1.2 hb.2⟩
def GS(n:Nat)(H:AHeap)(v:AVal)(l:List St):Prop:=∃C,AppN 9 0 H v C l.length∧Blk v (In n H.next)∧XSs (fun c=>In n H.next c∧Blk v (c≠·)) H l C
theorem GS.nil(n:Nat)(H:AHeap):GS n H nilS []:=⟨[],.nil _ _ _,blk_nil _,rfl⟩
theorem GS.keep{n:Nat}{H H':AHeap}{v:AVal}{l:List St}(h:GS n H v l)(hn:H.next≤H'.next)(e:∀c,In n H.next c→H'.get c=H.get c):GS n H' v l:=by
 obtain⟨C,h1,h2,h3⟩:=h
 exact⟨C,h1.same hn (h2.mono fun b hb=>e b hb),h2.mono fun b hb=>⟨hb.1,Nat.lt_of_lt_of_le hb.2 hn⟩,h3.mono fun b hb=>⟨⟨⟨hb.1.1,Nat.lt_of_lt_of_le hb.1.2 hn⟩,hb.2⟩,e b hb.1⟩⟩
theorem GS.sl{n:Nat}{H:AHeap}{v:AVal}{l:List St}(h:GS n H v l):∃C,SlK (In n H.next) H 9 v l.length C∧XSs (In n H.next) H l C:=by
 obtain⟨C,h1,h2,h3⟩:=h
 exact⟨C,.app h1 h2,h3.mono fun b hb=>⟨hb.1,rfl⟩⟩
theorem GS.push{n m:Nat}{H:AHeap}{v:AVal}{l:List St}(h:GS n H v l){e:St}{xs:List AVal}(hx:XS (In m H.next) H e xs)(hm:n≤m)(hn:n≤H.next)(hv:Blk v (·<m))(hl:l.length≤1000000){bytes:Nat}(hb1:0<bytes)(hb2:bytes≤1000) :
  ∃v' H',aAppend 9 bytes (H.push (.cells xs 0 false)) v (oneM H 9)=some (v',H')∧GS n H' v' (l++[e])∧H.next≤H'.next∧∀c,c<H.next→Blk v (c≠·)→H'.get c=H.get c:=by
 obtain⟨C,h1,h2,h3⟩:=h
 have hb:2*(l.length+1)*bytes≤281474976710656:=by
  have:2*(l.length+1)*bytes≤2*(1000000+1)*1000:=Nat.mul_le_mul om hb2
  omega
 obtain⟨v',H',a1,a2,a3,a4,a5⟩:=h1.pushB hx.len hx.one om hb hb1
 have k:∀c,In n H.next c→Blk v (c≠·)→In n H'.next c∧Blk v' (c≠·):=by
  intro c hc hd
  refine⟨⟨hc.1,Nat.lt_of_lt_of_le hc.2 a3⟩,(a4 _ hd).mono fun b hb=>?_⟩
  rcases hb with hb | hb
  ·exact hb
  ·have:=hc.2; omega
 refine⟨v',H',a1,⟨C++xs,by rw[lA]; exact a2,?_,XSs.app (XSs.sing ?_) ?_⟩,a3,a5⟩
 ·intro a j r e
  refine⟨?_,a2.blk' a j r e⟩
  rcases (a4 _ h2) a j r e with hb | hb
  ·exact hb.1
  ·omega
 ·refine hx.mono fun b hb=>⟨?_,a5 b hb.2 ?_⟩
  ·exact k b ⟨Nat.le_trans hm hb.1,hb.2⟩ (hv.mono fun c hc=>by have:=hb.1; omega)
  ·exact hv.mono fun c hc=>by have:=hb.1; omega
 ·exact h3.mono fun b hb=>⟨k b hb.1 hb.2,a5 b hb.1.2 hb.2⟩
open Go.Abs Go.Abs.S
noncomputable section
def c9:AFn:=⟨73,zq [zo 2 (.mv zn),zo 3 (.new [zI 0,zI 0])] (zq [zm 12 0,zo 13 (.build [.str [],zU 0,.str [],zI 0,zI 0,zI 0,zI 0,zI 0,zI 0,zI 0,.nilFunc] [(0,1,.t 12)]),zo 14 (.box (.t 13)),zm 4 14] (zq [zm 15 4,zm 16 4,zo 17 (.mkFunc (.func 30) [.t 16] []),zo 18 (.buildSl 2 [.str []] [(0,1,.c (.str [42])),(1,1,.c (.str [47]))]),zx 19 29 [.t 15,.t 17,.c (.bool true),.t 18],zm 5 19] (zq [zm 20 4,zm 21 5,zo 22 (.buildSl 2 [.str []] [(0,1,.c (.str [43])),(1,1,.c (.str [45]))]),zx 23 29 [.t 20,.t 21,.c (.bool true),.t 22],zm 6 23] (zq [zm 24 4,zm 25 6,zo 26 (.buildSl 6 [.str []] [(0,1,.c (.str [61,61])),(1,1,.c (.str [33,61])),(2,1,.c (.str [60,61])),(3,1,.c (.str [62,61])),(4,1,.c (.str [60])),(5,1,.c (.str [62]))]),zx 27 29 [.t 24,.t 25,.c (.bool false),.t 26],zm 7 27] (zq [zm 28 4,zm 29 7,zo 30 (.buildSl 1 [.str []] [(0,1,.c (.str [38,38]))]),zx 31 29 [.t 28,.t 29,.c (.bool true),.t 30],zm 8 31] (zq [zm 32 4,zm 33 4,zm 34 8,zo 35 (.buildSl 1 [.str []] [(0,1,.c (.str [124,124]))]),zx 36 29 [.t 33,.t 34,.c (.bool true),.t 35],zc 37 32,zf 38 10 37,zs 38 36] (zr [zm 39 4,zx 40 31 [.t 39],zo 41 (.un .not (.t 40))] 41 (zq [zm 42 4,zc 43 42,zf 44 8 43,zt 45 2 44,zo 2 (.mv zn),zp (.store 2 (.t 3) (.t 45))] .ret) .skip (zq [zo 9 (.mv zn)] (.seq (.block 0 (.loop (zr [zm 46 4,zc 47 46,zf 48 1 47,zf 49 0 48,zl 50 49,zo 51 (.bin .neq (.t 50) (zu 5))] 51 .skip (.exit 0) (.block 1 (zq [zm 53 4,zx 54 32 [.t 53],zm 52 54,ze 55 0 52,ze 56 1 52,zo 10 (.new [zU 0,.str [],zU 0,.str [],zI 0,zN,zN,zN,zI 0]),zp (.store 9 (.t 10) (.t 55)),zm 11 56] (zr [zm 57 11,zo 58 (.un .not (.t 57))] 58 (zq [zm 59 4,zc 60 59,zf 61 8 60,zt 62 2 61,zo 2 (.mv zn),zp (.store 2 (.t 3) (.t 62))] .ret) .skip (.reg [zm 63 9,zt 64 9 10,zo 65 (.buildSl 1 [zU 0,.str [],zU 0,.str [],zI 0,zN,zN,zN,zI 0] [(0,9,.t 64)]),zo 66 (.append 9 136 (.t 63) (.t 65)),zm 9 66]))))))) (zr [zm 67 9,zx 68 15 [.t 67],zo 69 (.un .not (.t 68))] 69 (zq [zo 70 (.build [zI 0,zI 0] [(0,1,zi 102)]),zo 2 (.mv zn),zp (.store 2 (.t 3) (.t 70))] .ret) .skip (zq [zm 71 9,zo 72 (.build [zI 0,zI 0] []),zm 2 71,zp (.store 2 (.t 3) (.t 72))] .ret))))))))))),[.t 2,.cell true 2 3]⟩
theorem za9:cN Tryz.prog 9=some c9:=by kernel_rfl
def c30:AFn:=⟨41,.seq (.block 1000000 (zq [zo 1 (.box (.t 0)),zo 2 (.new [zU 0,.str [],zI 0,zN]),zo 3 (.mv (.c (.bool false)))] (zr [zl 7 1,zx 8 59 [.t 7],zo 9 (.un .not (.t 8))] 9 (zq [zo 10 (.build [zU 0,.str [],zI 0,zN] []),zp (.store 4 (.t 2) (.t 10)),zo 3 (.mv (.c (.bool false)))] (.exit 1000000)) .skip (zq [zo 11 (.mkFunc (.func 60) [] [.t 1]),zo 42 (.pf .dset [.t 42,.t 11])] (zr [zl 12 1,zo 13 (.buildSl 2 [.str []] [(0,1,.c (.str [45])),(1,1,.c (.str [33]))]),zx 14 58 [.t 12,.t 13],zo 15 (.un .not (.t 14))] 15 (zq [zl 16 1,zx 17 61 [.t 16],ze 18 0 17,ze 19 1 17,zp (.store 4 (.t 2) (.t 18)),zm 3 19] (.exit 1000000)) .skip (zq [zl 20 1,zc 21 20,zf 22 1 21,zf 23 1 22,zl 24 23,zm 4 24] (zr [zl 25 1,zx 26 31 [.t 25],zo 27 (.un .not (.t 26))] 27 (zq [zo 28 (.build [zU 0,.str [],zI 0,zN] []),zp (.store 4 (.t 2) (.t 28)),zo 3 (.mv (.c (.bool false)))] (.exit 1000000)) .skip (zq [zl 30 1,zx 31 30 [.t 30],zm 29 31,ze 32 0 29,ze 33 1 29,zo 5 (.new [zU 0,.str [],zI 0,zN]),zp (.store 4 (.t 5) (.t 32)),zm 6 33] (zr [zm 34 6,zo 35 (.un .not (.t 34))] 35 (zq [zo 36 (.build [zU 0,.str [],zI 0,zN] []),zp (.store 4 (.t 2) (.t 36)),zo 3 (.mv (.c (.bool false)))] (.exit 1000000)) .skip (zq [zm 37 4,zt 38 4 5,zo 39 (.buildSl 1 [zU 0,.str [],zI 0,zN] [(0,4,.t 38)]),zo 40 (.build [zU 0,.str [],zI 0,zN] [(0,1,zu 3),(1,1,.t 37),(3,1,.t 39)]),zp (.store 4 (.t 2) (.t 40)),zo 3 (.mv (.c (.bool true)))] (.exit 1000000))))))))))) (zq [zo 43 (.pf .isU [.t 42])] (.cond (.t 43) (zq [zo 43 (.pf .isU [.t 41])] (.cond (.t 43) (zq [zt 45 4 2,zm 46 3,zo 44 (.pf .tup [.t 45,.t 46])] .ret) (.reg [zp .bad]))) (zq [zo 43 (.pf .isU [.t 41])] (.cond (.t 43) (zq [zo 43 (.pf (.isF 60 1) [.t 42]),zo 45 (.pf (.capt 0) [.t 42]),zp (.call 3132 [.t 45])] (zq [zt 45 4 2,zm 46 3,zo 44 (.pf .tup [.t 45,.t 46])] .ret)) (.reg [zp .bad]))))),[.t 44]⟩
theorem za30:cNE Tryz.prog (some ⟨[],(some (60,1,false))⟩) 30=some c30:=by kernel_rfl
def c59:AFn:=⟨17,zq [zo 2 (.mv (.c (.bool false)))] (zr [zm 3 0,zc 4 3,zf 5 7 4,zl 6 5,zk 7 .geq 6 200] 7 (zq [zm 8 0,zx 9 70 [.t 8,zi 102],zm 2 9] .ret) .skip (zq [zm 10 0,zc 11 10,zf 12 7 11,zl 13 12,zk 14 .add 13 1,zc 15 10,zf 16 7 15,zs 16 14] (zq [zo 2 (.mv (.c (.bool true)))] .ret))),[.t 2]⟩
theorem za59:cN Tryz.prog 59=some c59:=by kernel_rfl
def c70:AFn:=⟨15,zq [zo 4 (.mv (.c (.bool false)))] (zq [zm 5 0,zm 6 1,zm 7 0,zc 8 7,zf 9 1 8,zf 10 3 9,zl 11 10,zo 12 (.build [zI 0,zI 0] [(0,1,.t 6),(1,1,.t 11)]),zc 13 5,zf 14 8 13,zp (.store 2 (.t 14) (.t 12))] (zq [zo 4 (.mv (.c (.bool false)))] .ret)),[.t 4]⟩
theorem za70:cN Tryz.prog 70=some c70:=by kernel_rfl
def c58:AFn:=⟨20,zq [zo 4 (.mv (.c (.bool false)))] (zq [zm 5 0,zc 6 5,zf 7 1 6,zf 8 0 7,zl 9 8,zo 10 (.bin .eql (.t 9) (zu 4)),zm 11 10,zg 12 (.mv (.t 1)) 11 true,zg 13 (.mv (.t 0)) 11 true,zg 14 (.nilChk (.t 13)) 11 true,zg 15 (.fieldA 1 (.t 14)) 11 true,zg 16 (.fieldA 1 (.t 15)) 11 true,zg 17 (.load false 1 (.t 16)) 11 true,zg 18 (.call 99 [.t 12,.t 17]) 11 true,zo 19 (.pick (.t 11) (.t 18) (.c (.bool false))),zm 4 19] .ret),[.t 4]⟩
theorem za58:cN Tryz.prog 58=some c58:=by kernel_rfl
def c99:AFn:=⟨9,zq [zo 4 (.mv (.c (.bool false)))] (zq [zm 5 0,zm 6 1,zx 7 130 [.t 5,.t 6],zk 8 .geq 7 0,zm 4 8] .ret),[.t 4]⟩
theorem za99:cN Tryz.prog 99=some c99:=by kernel_rfl
def c130:AFn:=⟨19,zq [zo 4 (.mv (zi 0))] (.seq (zq [zm 6 0,zh 7 6,zo 8 (.mv (zi 0))] (.block 0 (.loop (zq [zb 9 .lss 8 7] (.seq (.cond (.t 9) .skip (.exit 0)) (.seq (.block 1 (zq [zm 10 8,zm 5 10] (zq [zm 11 1,zm 12 0,zm 13 5,zd 14 12 13,zl 15 14,zb 16 .eql 11 15] (.cond (.t 16) (zq [zm 17 5,zm 4 17] .ret) .skip)))) (.reg [zk 18 .add 8 1,zm 8 18]))))))) (zq [zo 4 (.mv (.c (.int .i64 (.negSucc 0))))] .ret)),[.t 4]⟩
theorem za130:cN Tryz.prog 130=some c130:=by kernel_rfl
def c61:AFn:=⟨72,zq [zo 2 (.new [zU 0,.str [],zI 0,zN]),zo 3 (.mv (.c (.bool false)))] (zq [zm 9 0,zc 10 9,zf 11 1 10,zt 12 6 11,zo 4 (.new [zU 0,.str [],zI 0,zI 0,zI 0,zI 0]),zp (.store 6 (.t 4) (.t 12))] (.seq (.block 0 (zq [zf 14 0 4,zl 15 14,zo 16 (.bin .eql (.t 15) (zu 1)),zm 13 16] (.cond (.t 13) (.seq (.draw [zf 17 2 4,zl 18 17,zo 19 (.build [zU 0,.str [],zI 0,zN] [(0,1,zu 1),(2,1,.t 18)]),zm 20 0,zx 21 31 [.t 20],zp (.store 4 (.t 2) (.t 19)),zm 3 21] [[],[5],[],[],[],[],[]]) .ret) (zq [zf 23 0 4,zl 24 23,zo 25 (.bin .eql (.t 24) (zu 2)),zm 22 25] (.cond (.t 22) (zr [zm 26 0,zx 27 31 [.t 26],zo 28 (.un .not (.t 27))] 28 (zq [zo 29 (.build [zU 0,.str [],zI 0,zN] []),zp (.store 4 (.t 2) (.t 29)),zo 3 (.mv (.c (.bool false)))] .ret) .skip (zr [zm 30 0,zo 31 (.buildSl 1 [.str []] [(0,1,.c (.str [40]))]),zx 32 58 [.t 30,.t 31],zo 33 (.un .not (.t 32))] 33 (zq [zf 34 1 4,zl 35 34,zo 36 (.build [zU 0,.str [],zI 0,zN] [(0,1,zu 2),(1,1,.t 35)]),zp (.store 4 (.t 2) (.t 36)),zo 3 (.mv (.c (.bool true)))] .ret) .skip (zq [zm 38 0,zx 39 100 [.t 38],zm 37 39,ze 40 0 37,ze 41 1 37,zm 5 40,zm 6 41] (zq [zf 42 1 4,zl 43 42,zm 44 5,zo 45 (.build [zU 0,.str [],zI 0,zN] [(0,1,zu 4),(1,1,.t 43),(3,1,.t 44)]),zm 46 6,zp (.store 4 (.t 2) (.t 45)),zm 3 46] .ret)))) (zq [zm 48 0,zo 49 (.buildSl 1 [.str []] [(0,1,.c (.str [40]))]),zx 50 58 [.t 48,.t 49],zm 47 50] (.cond (.t 47) (zr [zm 51 0,zx 52 31 [.t 51],zo 53 (.un .not (.t 52))] 53 (zq [zo 54 (.build [zU 0,.str [],zI 0,zN] []),zp (.store 4 (.t 2) (.t 54)),zo 3 (.mv (.c (.bool false)))] .ret) .skip (zq [zm 56 0,zc 57 56,zf 58 10 57,zl 59 58,zo 60 (.callv (.t 59) []),zm 55 60,ze 61 0 55,ze 62 1 55,zo 7 (.new [zU 0,.str [],zI 0,zN]),zp (.store 4 (.t 7) (.t 61)),zm 8 62] (.seq (.draw [zt 63 4 7,zm 64 8,zm 65 64,zg 66 (.mv (.t 0)) 65 true,zg 67 (.call 69 [.t 66,.c (.str [41])]) 65 true,zo 68 (.pick (.t 65) (.t 67) (.c (.bool false))),zp (.store 4 (.t 2) (.t 63)),zm 3 68] [[6],[],[],[],[],[],[],[]]) .ret))) .skip))))))) (zq [zo 69 (.build [zU 0,.str [],zI 0,zN] []),zm 70 0,zx 71 70 [.t 70,zi 101],zp (.store 4 (.t 2) (.t 69)),zm 3 71] .ret))),[.cell true 4 2,.t 3]⟩
theorem za61:cN Tryz.prog 61=some c61:=by kernel_rfl
def c31:AFn:=⟨29,zq [zo 2 (.mv (.c (.bool false)))] (.seq (.draw [zm 6 0,zc 7 6,zf 8 0 7,zl 9 8,zm 10 0,zc 11 10,zf 12 1 11,zf 13 5 12,zl 14 13,zx 15 62 [.t 9,.t 14],zm 5 15,ze 16 0 5,ze 17 1 5,zo 3 (.new [zU 0,.str [],zI 0,zI 0,zI 0,zI 0]),zo 4 (.new [zI 0,zI 0]),zp (.store 6 (.t 3) (.t 16)),zp (.store 2 (.t 4) (.t 17))] [[],[],[],[],[],[],[],[],[],[],[],[],[],[9],[9],[],[]]) (zr [zf 18 0 4,zl 19 18,zk 20 .neq 19 0] 20 (zq [zm 21 0,zt 22 2 4,zc 23 21,zf 24 8 23,zp (.store 2 (.t 24) (.t 22))] (zq [zo 2 (.mv (.c (.bool false)))] .ret)) .skip (zq [zm 25 0,zt 26 6 3,zc 27 25,zf 28 1 27,zp (.store 6 (.t 28) (.t 26))] (zq [zo 2 (.mv (.c (.bool true)))] .ret)))),[.t 2]⟩
theorem za31:cN Tryz.prog 31=some c31:=by kernel_rfl
def c100:AFn:=⟨40,zq [zo 2 (.mv zn),zo 3 (.mv (.c (.bool false)))] (zr [zm 7 0,zx 8 69 [.t 7,.c (.str [40])],zo 9 (.un .not (.t 8))] 9 (zq [zo 2 (.mv zn),zo 3 (.mv (.c (.bool false)))] .ret) .skip (zq [zo 4 (.mv zn)] (zr [zm 10 0,zo 11 (.buildSl 1 [.str []] [(0,1,.c (.str [41]))]),zx 12 58 [.t 10,.t 11]] 12 (zq [zm 13 4,zm 14 0,zx 15 31 [.t 14],zm 2 13,zm 3 15] .ret) .skip (.block 0 (.loop (.block 1 (zq [zm 17 0,zc 18 17,zf 19 10 18,zl 20 19,zo 21 (.callv (.t 20) []),zm 16 21,ze 22 0 16,ze 23 1 16,zo 5 (.new [zU 0,.str [],zI 0,zN]),zp (.store 4 (.t 5) (.t 22)),zm 6 23] (zr [zm 24 6,zo 25 (.un .not (.t 24))] 25 (zq [zo 2 (.mv zn),zo 3 (.mv (.c (.bool false)))] .ret) .skip (zq [zm 26 4,zt 27 4 5,zo 28 (.buildSl 1 [zU 0,.str [],zI 0,zN] [(0,4,.t 27)]),zo 29 (.append 4 56 (.t 26) (.t 28)),zm 4 29] (zr [zm 30 0,zo 31 (.buildSl 1 [.str []] [(0,1,.c (.str [44]))]),zx 32 58 [.t 30,.t 31],zo 33 (.un .not (.t 32))] 33 (zq [zm 34 4,zm 35 0,zx 36 69 [.t 35,.c (.str [41])],zm 2 34,zm 3 36] .ret) .skip (zq [zm 37 0,zx 38 31 [.t 37],zo 39 (.un .not (.t 38))] (.cond (.t 39) (zq [zo 2 (.mv zn),zo 3 (.mv (.c (.bool false)))] .ret) .skip)))))))))))),[.t 2,.t 3]⟩
theorem za100:cN Tryz.prog 100=some c100:=by kernel_rfl
def c69:AFn:=⟨14,zq [zo 4 (.mv (.c (.bool false)))] (zr [zm 5 0,zm 6 1,zo 7 (.buildSl 1 [.str []] [(0,1,.t 6)]),zx 8 58 [.t 5,.t 7],zo 9 (.un .not (.t 8))] 9 (zq [zm 10 0,zx 11 70 [.t 10,zi 101],zm 4 11] .ret) .skip (zq [zm 12 0,zx 13 31 [.t 12],zm 4 13] .ret)),[.t 4]⟩
theorem za69:cN Tryz.prog 69=some c69:=by kernel_rfl
def c29:AFn:=⟨10,zq [zo 4 (.box (.t 0)),zo 5 (.box (.t 1)),zo 6 (.box (.t 2)),zo 7 (.box (.t 3)),zo 8 (.mv (.c .nilFunc))] (zq [zo 9 (.mkFunc (.func 57) [] [.t 5,.t 4,.t 7,.t 6]),zm 8 9] .ret),[.t 8]⟩
theorem za29:cN Tryz.prog 29=some c29:=by kernel_rfl
def c57:AFn:=⟨46,zq [zo 4 (.new [zU 0,.str [],zI 0,zN]),zo 5 (.mv (.c (.bool false)))] (zq [zl 11 0,zo 12 (.callv (.t 11) []),zm 10 12,ze 13 0 10,ze 14 1 10,zo 6 (.new [zU 0,.str [],zI 0,zN]),zp (.store 4 (.t 6) (.t 13)),zm 7 14] (.seq (.block 0 (.loop (zr [zm 15 7,zm 16 15,zg 17 (.load false 1 (.t 1)) 16 true,zg 18 (.load false 1 (.t 2)) 16 true,zg 19 (.call 58 [.t 17,.t 18]) 16 true,zo 20 (.pick (.t 16) (.t 19) (.c (.bool false)))] 20 .skip (.exit 0) (.block 1 (zq [zl 21 1,zc 22 21,zf 23 1 22,zf 24 1 23,zl 25 24,zm 8 25] (zr [zl 26 1,zx 27 31 [.t 26],zo 28 (.un .not (.t 27))] 28 (zq [zo 29 (.build [zU 0,.str [],zI 0,zN] []),zp (.store 4 (.t 4) (.t 29)),zo 5 (.mv (.c (.bool false)))] .ret) .skip (zq [zo 9 (.new [zU 0,.str [],zI 0,zN])] (zq [zl 31 0,zo 32 (.callv (.t 31) []),zm 30 32,ze 33 0 30,ze 34 1 30,zp (.store 4 (.t 9) (.t 33)),zm 7 34] (zq [zm 35 8,zt 36 4 6,zt 37 4 9,zo 38 (.buildSl 2 [zU 0,.str [],zI 0,zN] [(0,4,.t 36),(4,4,.t 37)]),zo 39 (.build [zU 0,.str [],zI 0,zN] [(0,1,zu 3),(1,1,.t 35),(3,1,.t 38)]),zp (.store 4 (.t 6) (.t 39))] (zq [zl 40 3,zo 41 (.un .not (.t 40))] (.cond (.t 41) (.exit 0) .skip))))))))))) (zr [zm 42 7,zo 43 (.un .not (.t 42))] 43 (zq [zo 44 (.build [zU 0,.str [],zI 0,zN] []),zp (.store 4 (.t 4) (.t 44)),zo 5 (.mv (.c (.bool false)))] .ret) .skip (zq [zt 45 4 6,zp (.store 4 (.t 4) (.t 45)),zo 5 (.mv (.c (.bool true)))] .ret)))),[.cell true 4 4,.t 5]⟩
theorem za57:cN Tryz.prog 57=some c57:=by kernel_rfl
def c32:AFn:=⟨90,.seq (.block 1000000 (zq [zo 1 (.box (.t 0)),zo 2 (.new [zU 0,.str [],zU 0,.str [],zI 0,zN,zN,zN,zI 0]),zo 3 (.mv (.c (.bool false)))] (zr [zl 6 1,zx 7 59 [.t 6],zo 8 (.un .not (.t 7))] 8 (zq [zo 9 (.build [zU 0,.str [],zU 0,.str [],zI 0,zN,zN,zN,zI 0] []),zp (.store 9 (.t 2) (.t 9)),zo 3 (.mv (.c (.bool false)))] (.exit 1000000)) .skip (zq [zo 10 (.mkFunc (.func 63) [] [.t 1]),zo 91 (.pf .dset [.t 91,.t 10])] (zq [zl 11 1,zc 12 11,zf 13 1 12,zf 14 3 13,zl 15 14,zo 16 (.build [zU 0,.str [],zU 0,.str [],zI 0,zN,zN,zN,zI 0] [(8,1,.t 15)]),zo 4 (.new [zU 0,.str [],zU 0,.str [],zI 0,zN,zN,zN,zI 0]),zp (.store 9 (.t 4) (.t 16))] (zq [zo 5 (.mv (.c (.bool false)))] (.seq (.block 0 (zq [zl 20 1,zx 21 64 [.t 20,.c (.str [108,101,116])],zm 19 21] (.cond (.t 19) (zq [zf 22 0 4,zp (.store 1 (.t 22) (zu 1))] (.reg [zl 23 1,zx 24 31 [.t 23],zm 25 24,zg 26 (.load false 1 (.t 1)) 25 true,zg 27 (.call 65 [.t 26,.t 4]) 25 true,zo 28 (.pick (.t 25) (.t 27) (.c (.bool false))),zm 5 28])) (zq [zl 30 1,zx 31 64 [.t 30,.c (.str [115,101,116])],zm 29 31] (.cond (.t 29) (zq [zf 32 0 4,zp (.store 1 (.t 32) (zu 2))] (.reg [zl 33 1,zx 34 31 [.t 33],zm 35 34,zg 36 (.load false 1 (.t 1)) 35 true,zg 37 (.call 65 [.t 36,.t 4]) 35 true,zo 38 (.pick (.t 35) (.t 37) (.c (.bool false))),zm 5 38])) (zq [zl 40 1,zx 41 64 [.t 40,.c (.str [105,102])],zm 39 41] (.cond (.t 39) (zq [zf 42 0 4,zp (.store 1 (.t 42) (zu 3))] (zq [zl 43 1,zx 44 31 [.t 43],zm 45 44,zg 46 (.load false 1 (.t 1)) 45 true,zg 47 (.call 66 [.t 46,.t 4]) 45 true,zo 48 (.pick (.t 45) (.t 47) (.c (.bool false))),zm 5 48] (zq [zm 49 5,zm 50 49,zg 51 (.load false 1 (.t 1)) 50 true,zg 52 (.call 64 [.t 51,.c (.str [101,108,115,101])]) 50 true,zo 53 (.pick (.t 50) (.t 52) (.c (.bool false)))] (.cond (.t 53) (.reg [zl 54 1,zx 55 31 [.t 54],zm 56 55,zg 57 (.load false 1 (.t 1)) 56 true,zg 58 (.fieldA 7 (.t 4)) 56 true,zg 59 (.call 67 [.t 57,.t 58]) 56 true,zo 60 (.pick (.t 56) (.t 59) (.c (.bool false))),zm 5 60]) .skip)))) (zq [zl 62 1,zx 63 64 [.t 62,.c (.str [119,104,105,108,101])],zm 61 63] (.cond (.t 61) (zq [zf 64 0 4,zp (.store 1 (.t 64) (zu 4))] (.reg [zl 65 1,zx 66 31 [.t 65],zm 67 66,zg 68 (.load false 1 (.t 1)) 67 true,zg 69 (.call 66 [.t 68,.t 4]) 67 true,zo 70 (.pick (.t 67) (.t 69) (.c (.bool false))),zm 5 70])) (zq [zl 72 1,zx 73 64 [.t 72,.c (.str [114,101,116,117,114,110])],zm 71 73] (.cond (.t 71) (zq [zf 74 0 4,zp (.store 1 (.t 74) (zu 5))] (.reg [zl 75 1,zx 76 31 [.t 75],zm 77 76,zg 78 (.load false 1 (.t 1)) 77 true,zg 79 (.fieldA 2 (.t 4)) 77 true,zg 80 (.call 68 [.t 78,.t 79]) 77 true,zo 81 (.pick (.t 77) (.t 80) (.c (.bool false))),zm 82 81,zg 83 (.load false 1 (.t 1)) 82 true,zg 84 (.call 69 [.t 83,.c (.str [59])]) 82 true,zo 85 (.pick (.t 82) (.t 84) (.c (.bool false))),zm 5 85])) (.reg [zl 17 1,zx 18 70 [.t 17,zi 101]])))))))))))) (zr [zm 86 5,zo 87 (.un .not (.t 86))] 87 (zq [zo 88 (.build [zU 0,.str [],zU 0,.str [],zI 0,zN,zN,zN,zI 0] []),zp (.store 9 (.t 2) (.t 88)),zo 3 (.mv (.c (.bool false)))] (.exit 1000000)) .skip (zq [zt 89 9 4,zp (.store 9 (.t 2) (.t 89)),zo 3 (.mv (.c (.bool true)))] (.exit 1000000)))))))))) (zq [zo 92 (.pf .isU [.t 91])] (.cond (.t 92) (zq [zo 92 (.pf .isU [.t 90])] (.cond (.t 92) (zq [zt 94 9 2,zm 95 3,zo 93 (.pf .tup [.t 94,.t 95])] .ret) (.reg [zp .bad]))) (zq [zo 92 (.pf .isU [.t 90])] (.cond (.t 92) (zq [zo 92 (.pf (.isF 63 1) [.t 91]),zo 94 (.pf (.capt 0) [.t 91]),zp (.call 3135 [.t 94])] (zq [zt 94 9 2,zm 95 3,zo 93 (.pf .tup [.t 94,.t 95])] .ret)) (.reg [zp .bad]))))),[.t 93]⟩
theorem za32:cNE Tryz.prog (some ⟨[],(some (63,1,false))⟩) 32=some c32:=by kernel_rfl
def c64:AFn:=⟨20,zq [zo 4 (.mv (.c (.bool false)))] (zq [zm 5 0,zc 6 5,zf 7 1 6,zf 8 0 7,zl 9 8,zo 10 (.bin .eql (.t 9) (zu 3)),zm 11 10,zg 12 (.mv (.t 0)) 11 true,zg 13 (.nilChk (.t 12)) 11 true,zg 14 (.fieldA 1 (.t 13)) 11 true,zg 15 (.fieldA 1 (.t 14)) 11 true,zg 16 (.load false 1 (.t 15)) 11 true,zg 17 (.mv (.t 1)) 11 true,zg 18 (.bin .eql (.t 16) (.t 17)) 11 true,zo 19 (.pick (.t 11) (.t 18) (.c (.bool false))),zm 4 19] .ret),[.t 4]⟩
theorem za64:cN Tryz.prog 64=some c64:=by kernel_rfl
def c65:AFn:=⟨38,zq [zo 4 (.mv (.c (.bool false)))] (zr [zm 5 0,zc 6 5,zf 7 1 6,zf 8 0 7,zl 9 8,zo 10 (.bin .neq (.t 9) (zu 2))] 10 (zq [zm 11 0,zx 12 70 [.t 11,zi 101],zm 4 12] .ret) .skip (zq [zm 13 1,zm 14 0,zc 15 14,zf 16 1 15,zf 17 1 16,zl 18 17,zc 19 13,zf 20 1 19,zs 20 18] (zq [zm 21 0,zx 22 31 [.t 21],zm 23 22,zg 24 (.mv (.t 0)) 23 true,zg 25 (.call 69 [.t 24,.c (.str [61])]) 23 true,zo 26 (.pick (.t 23) (.t 25) (.c (.bool false))),zm 27 26,zg 28 (.mv (.t 0)) 27 true,zg 29 (.mv (.t 1)) 27 true,zg 30 (.nilChk (.t 29)) 27 true,zg 31 (.fieldA 2 (.t 30)) 27 true,zg 32 (.call 68 [.t 28,.t 31]) 27 true,zo 33 (.pick (.t 27) (.t 32) (.c (.bool false))),zm 34 33,zg 35 (.mv (.t 0)) 34 true,zg 36 (.call 69 [.t 35,.c (.str [59])]) 34 true,zo 37 (.pick (.t 34) (.t 36) (.c (.bool false))),zm 4 37] .ret))),[.t 4]⟩
theorem za65:cN Tryz.prog 65=some c65:=by kernel_rfl
def c68:AFn:=⟨20,zq [zo 4 (.mv (.c (.bool false)))] (zq [zm 8 0,zc 9 8,zf 10 10 9,zl 11 10,zo 12 (.callv (.t 11) []),zm 7 12,ze 13 0 7,ze 14 1 7,zo 5 (.new [zU 0,.str [],zI 0,zN]),zp (.store 4 (.t 5) (.t 13)),zm 6 14] (zr [zm 15 6] 15 (.reg [zm 16 1,zt 17 4 5,zc 18 16,zp (.store 4 (.t 18) (.t 17))]) .skip (zq [zm 19 6,zm 4 19] .ret))),[.t 4]⟩
theorem za68:cN Tryz.prog 68=some c68:=by kernel_rfl
def c66:AFn:=⟨25,zq [zo 4 (.mv (.c (.bool false)))] (zq [zm 5 0,zx 6 69 [.t 5,.c (.str [40])],zm 7 6,zg 8 (.mv (.t 0)) 7 true,zg 9 (.mv (.t 1)) 7 true,zg 10 (.nilChk (.t 9)) 7 true,zg 11 (.fieldA 2 (.t 10)) 7 true,zg 12 (.call 68 [.t 8,.t 11]) 7 true,zo 13 (.pick (.t 7) (.t 12) (.c (.bool false))),zm 14 13,zg 15 (.mv (.t 0)) 14 true,zg 16 (.call 69 [.t 15,.c (.str [41])]) 14 true,zo 17 (.pick (.t 14) (.t 16) (.c (.bool false))),zm 18 17,zg 19 (.mv (.t 0)) 18 true,zg 20 (.mv (.t 1)) 18 true,zg 21 (.nilChk (.t 20)) 18 true,zg 22 (.fieldA 6 (.t 21)) 18 true,zg 23 (.call 67 [.t 19,.t 22]) 18 true,zo 24 (.pick (.t 18) (.t 23) (.c (.bool false))),zm 4 24] .ret),[.t 4]⟩
theorem za66:cN Tryz.prog 66=some c66:=by kernel_rfl
def c67:AFn:=⟨32,zq [zo 4 (.mv (.c (.bool false)))] (zr [zm 7 0,zx 8 69 [.t 7,.c (.str [123])],zo 9 (.un .not (.t 8))] 9 (zq [zo 4 (.mv (.c (.bool false)))] .ret) .skip (.seq (.block 0 (.loop (zr [zm 10 0,zo 11 (.buildSl 1 [.str []] [(0,1,.c (.str [125]))]),zx 12 58 [.t 10,.t 11],zo 13 (.un .not (.t 12))] 13 .skip (.exit 0) (.block 1 (zq [zm 15 0,zx 16 32 [.t 15],zm 14 16,ze 17 0 14,ze 18 1 14,zo 5 (.new [zU 0,.str [],zU 0,.str [],zI 0,zN,zN,zN,zI 0]),zp (.store 9 (.t 5) (.t 17)),zm 6 18] (zr [zm 19 6,zo 20 (.un .not (.t 19))] 20 (zq [zo 4 (.mv (.c (.bool false)))] .ret) .skip (.seq (.draw [zm 21 1,zc 22 21,zl 23 22,zt 24 9 5,zh 25 23,zo 26 (.buildSl 1 [zU 0,.str [],zU 0,.str [],zI 0,zN,zN,zN,zI 0] [(0,9,.c (.agg [zU 0,.str [],zU 0,.str [],zI 0,zN,zN,zN,zI 0]))]),zo 27 (.append 9 136 (.t 23) (.t 26)),zo 28 (.idxA 9 (.t 27) (.t 25)),zp (.store 9 (.t 28) (.t 24)),zc 29 21,zs 29 27] [[],[],[6],[6],[],[],[],[],[],[],[]]) (.reg [zp (.pf .apart [.t 29,.t 28])])))))))) (zq [zm 30 0,zx 31 31 [.t 30],zm 4 31] .ret))),[.t 4]⟩
theorem za67:cN Tryz.prog 67=some c67:=by kernel_rfl
def c3132:AFn:=⟨8,.reg [zl 1 0,zc 2 1,zf 3 7 2,zl 4 3,zk 5 .sub 4 1,zc 6 1,zf 7 7 6,zs 7 5],[]⟩
theorem za3132:cNE Tryz.prog none 3132=some c3132:=by kernel_rfl
def c3135:AFn:=⟨8,.reg [zl 1 0,zc 2 1,zf 3 7 2,zl 4 3,zk 5 .sub 4 1,zc 6 1,zf 7 7 6,zs 7 5],[]⟩
theorem za3135:cNE Tryz.prog none 3135=some c3135:=by kernel_rfl
end
open Go.Abs Go.Abs.S
def pObj(s:Bs)(w:Wd)(g x y:Int)(orv:AVal):List AVal:=.str s::(wdL w.k w.S w.n w.line w.at_ w.en++[.int .i64 g,.int .i64 x,.int .i64 y,orv])
structure Fp(pb:Nat)(H H':AHeap):Prop where
 next:H.next≤H'.next
 old:∀c,c<H.next→c≠pb→H'.get c=H.get c
theorem Fp.refl(pb:Nat)(H:AHeap):Fp pb H H:=⟨Nat.le_refl _,fun _ _ _=>rfl⟩
theorem Fp.trans{pb:Nat}{H H' H2:AHeap}(a:Fp pb H H')(b:Fp pb H' H2):Fp pb H H2:=
 ⟨Nat.le_trans a.next b.next,fun c h1 h2=>by rw[b.old c (Nat.lt_of_lt_of_le h1 a.next) h2,a.old c h1 h2]⟩
theorem nextA_ok{s:Bs}{p:Nat}{w:Wd}(h:nextW s p=.ok w):nextA s (p:Int)=pairA (wdL w.k w.S w.n w.line w.at_ w.en) (flL 0 0):=by
 unfold nextW at h
 unfold nextA
 by_cases a1:16384<s.length
 ·rw[if_pos a1]at h; first | (simp at h; done) | (simp only[Except.error.injEq]at h; subst h; rw[if_pos a1])
 rw[if_neg a1]at h ⊢
 by_cases a2:s.length<p
 ·rw[if_pos a2]at h
  have a2':(p:Int)<0∨(s.length:Int)<(p:Int):=.inr om
  first | (simp at h; done) | (simp only[Except.error.injEq]at h; subst h; rw[if_pos a2'])
 have a2':¬((p:Int)<0∨(s.length:Int)<(p:Int)):=om
 rw[if_neg a2]at h
 rw[if_neg a2',Int.toNat_natCast]
 by_cases a3:skipF s p=s.length
 ·rw[if_pos a3]at h ⊢
  first | (simp at h; done) | (simp only[Except.ok.injEq]at h; subst h; rfl)
 rw[if_neg a3]at h ⊢
 split at h <;> first | (simp at h; done) | skip
 rename_i ht
 first | simp only[Except.ok.injEq]at h | simp only[Except.error.injEq]at h
 subst h
 simp only[ht]
theorem nextA_bad{s:Bs}{p:Nat}{e:Flt}(h:nextW s p=.error e):nextA s (p:Int)=pairA (wdL 0 [] 0 0 0 0) (flL e.1 e.2):=by
 unfold nextW at h
 unfold nextA
 by_cases a1:16384<s.length
 ·rw[if_pos a1]at h; first | (simp at h; done) | (simp only[Except.error.injEq]at h; subst h; rw[if_pos a1])
 rw[if_neg a1]at h ⊢
 by_cases a2:s.length<p
 ·rw[if_pos a2]at h
  have a2':(p:Int)<0∨(s.length:Int)<(p:Int):=.inr om
  first | (simp at h; done) | (simp only[Except.error.injEq]at h; subst h; rw[if_pos a2'])
 have a2':¬((p:Int)<0∨(s.length:Int)<(p:Int)):=om
 rw[if_neg a2]at h
 rw[if_neg a2',Int.toNat_natCast]
 by_cases a3:skipF s p=s.length
 ·rw[if_pos a3]at h ⊢
  first | (simp at h; done) | (simp only[Except.ok.injEq]at h; subst h; rfl)
 rw[if_neg a3]at h ⊢
 split at h <;> first | (simp at h; done) | skip
 rename_i ht
 first | simp only[Except.ok.injEq]at h | simp only[Except.error.injEq]at h
 subst h
 simp only[ht]
theorem row_st{H:AHeap}{b n:Nat}{l l':List AVal}(h:Row H b l)(hn:l.length=n){i:Nat}(hi:i<n){x:AVal}(hx:x.one=true)(e:l.set i x=l') :
  ∃H',oStore 1 H (cellR b n i) x=some H'∧Row H' b l'∧H'.next=H.next∧∀c,c≠b→H'.get c=H.get c:=by
 subst e; exact row_store h hn hi hx
theorem row_stK{H:AHeap}{b n:Nat}{l l':List AVal}(h:Row H b l)(hn:l.length=n){i k:Nat}(hik:i+k≤n){xs:List AVal}(hx:xs.length=k)(ho:xs.all AVal.one=true)(e:l.take i++(xs++l.drop (i+k))=l') :
  ∃H',oStore k H (cellR b n i) (.agg xs)=some H'∧Row H' b l'∧H'.next=H.next∧∀c,c≠b→H'.get c=H.get c:=by
 subst e; exact row_storeK h hn hik hx ho
theorem nwoT:NWo natT:=⟨fun f hf=>by show Nat.beq f 153=false; rw[beq_dec]; exact decide_eq_false hf,rfl,fun s H hs=>by
 show (bif Nat.beq 153 153 then aClone H [.str s] else none)=_
 rw[show Nat.beq 153 153=true from rfl,cond_true]
 simp only[aClone,Nat.ble_eq_true_of_le hs,cond_true]⟩
open Go.Abs Go.Abs.S
theorem nextW_err{s:Bs}{p:Nat}{e:Flt}(h:nextW s p=.error e):e.1≠0:=by
 unfold nextW at h
 split at h
 ·simp only[Except.error.injEq]at h; subst h; simp
 split at h
 ·simp only[Except.error.injEq]at h; subst h; simp
 split at h
 ·simp at h
 split at h
 ·simp at h
 ·simp only[Except.error.injEq]at h; subst h; simp
theorem pstep_spec{H:AHeap}{pb:Nat}{s:Bs}{w:Wd}{g x y:Int}{orv:AVal}(hr:Row H pb (pObj s w g x y orv))(hpb:pb<H.next)(hw:w.en≤9223372036854775807) :
  ACalls Tryz.prog natT 31 [cellR pb 11 0] H fun v H'=>(match stepW s w with
   | .ok w'=>v=.bool true∧Row H' pb (pObj s w' g x y orv)
   | .error e=>v=.bool false∧Row H' pb (pObj s w g e.1 e.2 orv))∧Fp pb H H':=by
 refine acalls_ofN rfl za31 rfl ?_
 obtain⟨H1,hH1⟩:∃H1,H1=(H.push (.cells ZW 0 false)).push (.cells Z2 0 false):=⟨_,rfl⟩
 have n1:H1.next=H.next+2:=by rw[hH1]; rfl
 have k1:∀c,c<H.next→H1.get c=H.get c:=fun c hc=>by rw[hH1,AHeap.get_push,if_neg (by rw[push_next]; omega),get_push_lt hc]
 have g3:H1.get H.next=some (.cells ZW 0 false):=by rw[hH1,AHeap.get_push,if_neg (by rw[push_next]; omega),AHeap.get_push,if_pos rfl]
 have g4:H1.get (H.next+1)=some (.cells Z2 0 false):=by rw[hH1,AHeap.get_push,if_pos (by rw[push_next])]
 have r1:=hr.same (k1 pb hpb)
 have l0:oLoad false 1 H1 (cellR pb 11 0)=some (.str s):=row_load r1 rfl rfl
 have l6:oLoad false 1 H1 (cellR pb 11 6)=some (.int .i64 (w.en:Int)):=row_load r1 rfl rfl
 simp only[ZW,Z2]at hH1 g3 g4
 simp only[c31,sA,sB,seval]
 refine aw_drawN ?_
 simp only[claims,newOf,reserves,← hH1]
 simp only[sA,sB,seval,sR,tr_claim,nil_cell,fldA,fld0,l0,l6]
 refine (next_spec nwoT (s:=s) (p:=(w.en:Int)) om om).mono ?_
 rintro v H2 ⟨rfl,E2⟩
 have e2:=E2.next
 have r2:=r1.same (E2.old pb om)
 have q3:H2.get H.next=_:=(E2.old _ om).trans g3
 have q4:H2.get (H.next+1)=_:=(E2.old _ om).trans g4
 have cl3:aClaim H2 H.next _ none=some (cellR H.next 6 0):=claim_ok q3 rfl
 have dl3:aClaim H1 H.next _ none=some (cellR H.next 6 0):=claim_ok g3 rfl
 have dl4:aClaim H1 (H.next+1) _ none=some (cellR (H.next+1) 2 0):=claim_ok g4 rfl
 have cl4:aClaim H2 (H.next+1) _ none=some (cellR (H.next+1) 2 0):=claim_ok q4 rfl
 cases hn:stepW s w with
 | ok w'=>
  rw[nextA_ok hn]
  obtain⟨H3,m3,r3,n3,k3⟩:=row_storeN (H:=H2) (b:=H.next) ⟨0,q3,Nat.zero_le _⟩ (n:=6) rfl (xs:=wdL w'.k w'.S w'.n w'.line w'.at_ w'.en) rfl rfl
  obtain⟨H4,m4,r4,n4,k4⟩:=row_storeN (H:=H3) (b:=H.next+1) ⟨0,(k3 _ om).trans q4,Nat.zero_le _⟩ (n:=2) rfl (xs:=flL 0 0) rfl rfl
  have s4:=r2.same (H':=H4) (by rw[k4 _ om,k3 _ om])
  have z4:oLoad false 1 H4 (cellR (H.next+1) 2 0)=some (.int .i64 0):=row_load r4 rfl rfl
  have w4:=row_loadN (r3.same (k4 _ om)) (n:=6) rfl
  obtain⟨H5,m5,r5,n5,k5⟩:=row_stK s4 (n:=11) rfl (i:=1) (k:=6) om (xs:=wdL w'.k w'.S w'.n w'.line w'.at_ w'.en) rfl rfl (l':=pObj s w' g x y orv) rfl
  simp only[sA,sB,seval,sR,pairA,ext_0,ext_1,tr_claim,cl3,cl4,m3,m4]
  simp only[ck_nil',ck_cons,ckP_load,ckP_claim,ckP_nil,ck_end,and_true,true_and,List.map_cons,List.map_nil,sA,sB,seval]
  refine⟨⟨⟨_,rfl,fun _=>⟨_,dl3,aeq_cellR _ _ _⟩⟩,⟨_,rfl,fun _=>⟨_,dl4,aeq_cellR _ _ _⟩⟩⟩,?_⟩
  simp only[sA,sB,seval,nil_cell,fldA,fld0,z4,w4,m5]
  exact⟨⟨tt,r5⟩,om,fun c hc hp=>by rw[k5 c hp,k4 c om,k3 c om,E2.old c om,k1 c hc]⟩
 | error e=>
  rw[nextA_bad hn]
  have he:=nextW_err hn
  obtain⟨H3,m3,r3,n3,k3⟩:=row_storeN (H:=H2) (b:=H.next) ⟨0,q3,Nat.zero_le _⟩ (n:=6) rfl (xs:=wdL 0 [] 0 0 0 0) rfl rfl
  obtain⟨H4,m4,r4,n4,k4⟩:=row_storeN (H:=H3) (b:=H.next+1) ⟨0,(k3 _ om).trans q4,Nat.zero_le _⟩ (n:=2) rfl (xs:=flL e.1 e.2) rfl rfl
  have s4:=r2.same (H':=H4) (by rw[k4 _ om,k3 _ om])
  have z4:oLoad false 1 H4 (cellR (H.next+1) 2 0)=some (.int .i64 (e.1:Int)):=row_load r4 rfl rfl
  have w4:=row_loadN r4 (n:=2) rfl
  have he':¬(e.1:Int)=0:=om
  obtain⟨H5,m5,r5,n5,k5⟩:=row_stK s4 (n:=11) rfl (i:=8) (k:=2) om (xs:=flL e.1 e.2) rfl rfl (l':=pObj s w g e.1 e.2 orv) rfl
  simp only[sA,sB,seval,sR,pairA,ext_0,ext_1,tr_claim,cl3,cl4,m3,m4]
  simp only[ck_nil',ck_cons,ckP_load,ckP_claim,ckP_nil,ck_end,and_true,true_and,List.map_cons,List.map_nil,sA,sB,seval]
  refine⟨⟨⟨_,rfl,fun _=>⟨_,dl3,aeq_cellR _ _ _⟩⟩,⟨_,rfl,fun _=>⟨_,dl4,aeq_cellR _ _ _⟩⟩⟩,?_⟩
  simp only[sA,sB,seval,nil_cell,fldA,fld0,z4,he',w4,m5]
  exact⟨⟨tt,r5⟩,om,fun c hc hp=>by rw[k5 c hp,k4 c om,k3 c om,E2.old c om,k1 c hc]⟩
theorem sidx_spec{H:AHeap}{v:AVal}{l:List Bs}{n:Nat}(c:Cel n H v (l.map AVal.str))(x:Bs)(hl:l.length≤1000):ACalls Tryz.prog natT 130 [v,.str x] H fun u H'=>H=H'∧∃i:Int,u=.int .i64 i∧(0≤i↔l.contains x=true):=by
 refine acalls_ofN rfl za130 rfl ?_
 simp only[c130,sA,sB,seval,c.len,List.length_map]
 refine aw_loop (fun m (T:Env) H'=>H=H'∧∃i:Nat,m=l.length-i∧i≤l.length∧T 0=v∧T 1=.str x∧T 7=.int .i64 (l.length:Int)∧T 8=.int .i64 (i:Int)∧(l.take i).contains x=false) l.length
  ⟨rfl,0,rfl,om,by simp only[sA,sB,seval],by simp only[sA,sB,seval],by simp only[sA,sB,seval],by simp only[sA,sB,seval]; try rfl,by simp⟩ ?_
 rintro m T _ ⟨rfl,i,rfl,hi,t0,t1,t7,t8,hx⟩
 by_cases hlt:i<l.length
 case neg=>
  obtain rfl:i=l.length:=om
  have hlt':¬(l.length:Int)<(l.length:Int):=om
  rw[List.take_length]at hx
  simp only[sA,sB,seval,t7,t8,hlt']
  exact⟨tt,_,rfl,by rw[hx]; simp⟩
 have hlt':(i:Int)<(l.length:Int):=om
 obtain⟨y,hy⟩:∃y,l[i]?=some y:=⟨_,List.getElem?_eq_getElem hlt⟩
 have io:=c.idx .i64 (i:=i) (by rw[List.length_map]; exact hlt)
 have lo:=c.load (i:=i) (x:=.str y) (by rw[List.getElem?_map,hy]; rfl)
 have wk:IntKind.i64.wrap ((i:Int)+1)=((i+1:Nat):Int):=w64
 by_cases he:x=y
 ·subst he
  simp only[sA,sB,seval,t0,t1,t7,t8,hlt',io,lo,ar_mv]
  refine⟨tt,_,rfl,?_⟩
  have:l.contains x=true:=by simpa using List.mem_of_getElem? hy
  simp only[this,iff_true]; omega
 ·simp only[sA,sB,seval,t0,t1,t7,t8,hlt',io,lo,he,wk]
  refine⟨l.length-(i+1),om,tt,i+1,rfl,om,tt,tt,tt,tt,?_⟩
  rw[List.take_add_one,hy]
  simp only[Option.toList_some,List.contains_eq_mem,List.mem_append,List.mem_singleton,decide_eq_false_iff_not]at hx ⊢
  rintro (h | h)
  ·exact hx h
  ·exact he h
theorem contains_spec{H:AHeap}{v:AVal}{l:List Bs}{n:Nat}(c:Cel n H v (l.map AVal.str))(x:Bs)(hl:l.length≤1000):ACalls Tryz.prog natT 99 [v,.str x] H fun u H'=>H=H'∧u=.bool (l.contains x):=by
 refine acalls_ofN rfl za99 rfl ?_
 simp only[c99,sA,sB,seval]
 refine (sidx_spec c x hl).mono ?_
 rintro _ _ ⟨rfl,i,rfl,hi⟩
 simp only[sA,sB,seval]
 refine⟨tt,?_⟩
 congr 1
 rw[← Bool.coe_iff_coe,← hi]; simp
theorem pis_spec{H:AHeap}{pb:Nat}{s:Bs}{w:Wd}{g x y:Int}{orv v:AVal}{l:List Bs}{n:Nat}(hr:Row H pb (pObj s w g x y orv))(c:Cel n H v (l.map AVal.str))(hl:l.length≤1000):ACalls Tryz.prog natT 58 [cellR pb 11 0,v] H fun u H'=>H=H'∧u=.bool (sgn w l):=by
 refine acalls_ofN rfl za58 rfl ?_
 have l1:oLoad false 1 H (cellR pb 11 1)=some (.int .u8 (w.k:Int)):=row_load hr rfl rfl
 have l2:oLoad false 1 H (cellR pb 11 2)=some (.str w.S):=row_load hr rfl rfl
 by_cases hk:w.k=4
 ·have hk':(w.k:Int)=4:=om
  simp only[c58,sA,sB,seval,nil_cell,fldA,fld0,l1,hk',l2]
  refine (contains_spec c w.S hl).mono ?_
  rintro _ _ ⟨rfl,rfl⟩
  have e:sgn w l=l.contains w.S:=by simp only[sgn,hk]; rfl
  rw[e]
  simp only[sA,sB,seval]
  exact⟨tt,tt⟩
 ·have hk':¬(w.k:Int)=4:=om
  have e:sgn w l=false:=by
   have:Nat.beq w.k 4=false:=by rw[beq_dec]; exact decide_eq_false hk
   simp only[sgn,this]; rfl
  simp only[c58,sA,sB,seval,nil_cell,fldA,fld0,l1,hk',e]
  exact⟨tt,tt⟩
theorem pkey_spec{H:AHeap}{pb:Nat}{s:Bs}{w:Wd}{g x y:Int}{orv:AVal}(hr:Row H pb (pObj s w g x y orv))(t:Bs):ACalls Tryz.prog natT 64 [cellR pb 11 0,.str t] H fun u H'=>H=H'∧u=.bool (kyw w t):=by
 refine acalls_ofN rfl za64 rfl ?_
 have l1:oLoad false 1 H (cellR pb 11 1)=some (.int .u8 (w.k:Int)):=row_load hr rfl rfl
 have l2:oLoad false 1 H (cellR pb 11 2)=some (.str w.S):=row_load hr rfl rfl
 by_cases hk:w.k=3
 ·have hk':(w.k:Int)=3:=om
  have e:kyw w t=decide (w.S=t):=by simp only[kyw,hk]; rfl
  simp only[c64,sA,sB,seval,nil_cell,fldA,fld0,l1,hk',l2,e]
  exact⟨tt,tt⟩
 ·have hk':¬(w.k:Int)=3:=om
  have e:kyw w t=false:=by
   have:Nat.beq w.k 3=false:=by rw[beq_dec]; exact decide_eq_false hk
   simp only[kyw,this]; rfl
  simp only[c64,sA,sB,seval,nil_cell,fldA,fld0,l1,hk',e]
  exact⟨tt,tt⟩
theorem pfail_spec{H:AHeap}{pb:Nat}{s:Bs}{w:Wd}{g x y:Int}{orv:AVal}(hr:Row H pb (pObj s w g x y orv))(e:Nat):ACalls Tryz.prog natT 70 [cellR pb 11 0,.int .i64 (e:Int)] H fun u H'=>u=.bool false∧Row H' pb (pObj s w g e w.line orv)∧Fp pb H H':=by
 refine acalls_ofN rfl za70 rfl ?_
 have l4:oLoad false 1 H (cellR pb 11 4)=some (.int .i64 (w.line:Int)):=row_load hr rfl rfl
 have bf:aBuild [.int .i64 0,.int .i64 0] [(0,1,.int .i64 (e:Int)),(1,1,.int .i64 (w.line:Int))]=some (.agg (flL e w.line)):=rfl
 obtain⟨H5,m5,r5,n5,k5⟩:=row_stK hr (n:=11) rfl (i:=8) (k:=2) om (xs:=flL e w.line) rfl rfl (l':=pObj s w g e w.line orv) rfl
 simp only[c70,sA,sB,seval,nil_cell,fldA,fld0,l4,bf,m5]
 exact⟨tt,r5,om,fun c _ hp=>k5 c hp⟩
theorem pbegin_no{H:AHeap}{pb:Nat}{s:Bs}{w:Wd}{g:Nat}{x y:Int}{orv:AVal}(hr:Row H pb (pObj s w g x y orv))(h:200≤g):ACalls Tryz.prog natT 59 [cellR pb 11 0] H fun u H'=>u=.bool false∧Row H' pb (pObj s w g 102 w.line orv)∧Fp pb H H':=by
 refine acalls_ofN rfl za59 rfl ?_
 have l7:oLoad false 1 H (cellR pb 11 7)=some (.int .i64 (g:Int)):=row_load hr rfl rfl
 have h':(200:Int)≤(g:Int):=om
 simp only[c59,sA,sB,seval,nil_cell,fldA,fld0,l7,h']
 refine (pfail_spec hr 102).mono ?_
 rintro _ H1 ⟨rfl,r1,f1⟩
 simp only[sA,sB,seval]
 exact⟨tt,r1,f1⟩
theorem pbegin_ok{H:AHeap}{pb:Nat}{s:Bs}{w:Wd}{g:Nat}{x y:Int}{orv:AVal}(hr:Row H pb (pObj s w g x y orv))(h:¬200≤g):ACalls Tryz.prog natT 59 [cellR pb 11 0] H fun u H'=>u=.bool true∧Row H' pb (pObj s w ((g+1:Nat):Int) x y orv)∧Fp pb H H'∧H'.next=H.next:=by
 refine acalls_ofN rfl za59 rfl ?_
 have l7:oLoad false 1 H (cellR pb 11 7)=some (.int .i64 (g:Int)):=row_load hr rfl rfl
 have h':¬(200:Int)≤(g:Int):=om
 have wk:IntKind.i64.wrap ((g:Int)+1)=((g+1:Nat):Int):=w64
 obtain⟨H5,m5,r5,n5,k5⟩:=row_st hr (n:=11) rfl (i:=7) om (x:=.int .i64 ((g+1:Nat):Int)) rfl (l':=pObj s w ((g+1:Nat):Int) x y orv) rfl
 simp only[c59,sA,sB,seval,nil_cell,fldA,fld0,l7,h',wk,m5]
 exact⟨tt,r5,⟨om,fun c _ hp=>k5 c hp⟩,n5⟩
theorem one_cel(H:AHeap)(c:Bs):Cel (H.push (.cells [.str c] 0 false)).next (H.push (.cells [.str c] 0 false)) (oneS H) ([c].map AVal.str):=(row_push H [.str c]).cel rfl (Nat.lt_succ_self _)
theorem ptake_spec{H:AHeap}{pb:Nat}{s:Bs}{w:Wd}{g x y:Int}{orv:AVal}(hr:Row H pb (pObj s w g x y orv))(hpb:pb<H.next)(hw:w.en≤9223372036854775807)(c:Bs) :
  ACalls Tryz.prog natT 69 [cellR pb 11 0,.str c] H fun v H'=>(match takeW s c w with
   | .ok w'=>v=.bool true∧Row H' pb (pObj s w' g x y orv)
   | .error e=>v=.bool false∧Row H' pb (pObj s w g e.1 e.2 orv))∧Fp pb H H':=by
 refine acalls_ofN rfl za69 rfl ?_
 have bs:=build1 (.str []) H (x:=.str c) rfl
 have r1:=hr.same (H':=H.push (.cells [.str c] 0 false)) (get_push_lt hpb)
 have f1:Fp pb H (H.push (.cells [.str c] 0 false)):=⟨by rw[push_next]; omega,fun c hc _=>get_push_lt hc⟩
 simp only[c69,sA,sB,seval,bs]
 refine (pis_spec r1 (one_cel H c) (by simp)).mono ?_
 rintro _ _ ⟨rfl,rfl⟩
 cases hs:sgn w [c] with
 | true=>
  simp only[sA,sB,seval]
  refine (pstep_spec r1 (by rw[push_next]; omega) hw).mono ?_
  rintro v H2 ⟨h2,f2⟩
  have e:takeW s c w=stepW s w:=by unfold takeW; rw[if_pos hs]
  rw[e]
  simp only[sA,sB,seval]
  exact⟨h2,f1.trans f2⟩
 | false=>
  simp only[sA,sB,seval]
  refine (pfail_spec r1 101).mono ?_
  rintro v H2 ⟨rfl,h2,f2⟩
  have e:takeW s c w=.error (101,w.line):=by unfold takeW; rw[if_neg (by rw[hs]; simp)]
  rw[e]
  simp only[sA,sB,seval]
  exact⟨⟨tt,h2⟩,f1.trans f2⟩
end Go.Proofs.Wo
