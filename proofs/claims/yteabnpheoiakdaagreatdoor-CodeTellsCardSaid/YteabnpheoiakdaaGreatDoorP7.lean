/- Part of a proof (YWI YWJ YWK YP0 YPF YPH YT1 YT2 YT4 YC2 YP1); no condition. -/
import Derived.Test.YteabnpheoiakdaaGreatDoorProg
import Derived.KernelRfl
import Derived.Test.YteabnpheoiakdaaGreatDoorP6
set_option linter.unusedSimpArgs false
set_option linter.unusedVariables false
set_option linter.defProp false
set_option linter.unnecessarySimpa false
namespace Go.Proofs.Wo
open Go.Abs Go.Abs.S
structure VC(N:oF):Prop where
 no:∀f,f≠153->N.is f=false
 yes:N.is 153=true
 clone:∀(s:Bs) (H:aa),s.length<=281474976710656->N.run 153 [.str s] H=some (.str s,H)
def wK(hN:VC aF){s:Bs}(hs:s.length<=281474976710656){H:aa}:aq Tryz.prog aF 109 [.str s] H λv H'=>v=.str s/\H=H':=by refine ak (hN.no _ dD) TS rfl ?_;simp only[Vb,sC,seval];refine FU hN.yes (hN.clone s H hs) ?_;simp only[sC,seval];exact⟨by trivial,by trivial⟩
def sub(s:Bs)(i e:Nat):Bs:=(s.drop i).take (e-i)
def iN(k:Nat)(S:Bs)(n line at_ en:Nat):List ae:=[.int .u8 (k:Int),.str S,.int .i64 (n:Int),.int .i64 (line:Int),.int .i64 (at_:Int),.int .i64 (en:Int)]
def jt(e line:Nat):List ae:=[.int .i64 (e:Int),.int .i64 (line:Int)]
structure Xp where
 k:Nat
 S:Bs
 n:Nat
 e:Nat
def jP(s:Bs)(i:Nat):Option Xp:=match s[i]? with
 |none=>none
 |some c=>
  if dP c=true then(match gn (sub s i (dS s i))with|some n=>some ⟨1,[],n,dS s i⟩|none=>none)
  else if beg c=true then some ⟨if qV (sub s i (bO jp s i))=true then 3 else 2,sub s i (bO jp s i),0,bO jp s i⟩
  else if fW (s.drop i)=[]then none else some ⟨4,fW (s.drop i),0,i+(fW (s.drop i)).length⟩
def IR(i:Nat):Option Xp->List ae
 |some t=>iN t.k t.S t.n 0 i t.e
 |none=>iN 0 [] 0 0 0 0
def Ci{s:Bs}{i:Nat}{c:UInt8}(h:s[i]?=some c):i<dS s i↔dP c=true:=by
 cases hc:dP c with
 |false=>
  have h1:=lZ h hc;have:dS s i=i:=by rw[dS,h1,if_pos (.inl rfl)]
  rw[this];simp
 |true=>
  have h1:=gE h hc;have h2:=fM dP s (i+1);have h3:i<dS s i:=by
   unfold dS;split
   ·omega
   ·split<;>omega
  simp[h3]
def gF:List Bs:=[[38,38],[124,124],[61,61],[33,61],[60,61],[62,61],[60],[62],[43],[45],[42],[47],[33],[40],[41],[123],[125],[44],[59],[61]]
def BM:gF=pK++B4.map (λc=>[c]):=by decide
def pP{c:UInt8}{r:Bs}:fW (c::r)=((gF.find? (pre (c::r))).getD []):=by
 rw[BM,List.find?_append,fW];cases pK.find? (pre (c::r))with
 |some t=>rfl
 |none=>
  simp only[Option.none_or];have key:∀l:Bs,(if c∈l then [c]else [])=((l.map λc=>[c]).find? (pre (c::r))).getD []:=by
   intro l;induction l with
   |nil=>simp
   |cons d l ih=>
    have hp:pre (c::r) [d]=decide (c=d):=by simp[pre]
    rw[List.map_cons];by_cases h:c=d
    ·subst h;rw[List.find?_cons_of_pos (by rw[hp];simp)];simp
    ·rw[List.find?_cons_of_neg (by rw[hp];simpa using h),<- ih];simp[h]
  exact key B4
def ID:∀t∈gF,t≠[]:=by decide
def GF{s t:Bs}{i:Nat}(hi:i<=s.length):pre (s.drop i) t=(decide (i+t.length<=s.length)&&decide ((s.drop i).take t.length=t)):=by
 unfold pre;by_cases h:i+t.length<=s.length
 ·simp[h]
 ·have:¬(s.drop i).take t.length=t:=by
   intro e;have:=congrArg List.length e;simp at this;omega
  simp[this]
def BN{s:Bs}{i:Nat}(hi:i<=s.length):i+(fW (s.drop i)).length<=s.length:=by
 rcases Nat.lt_or_ge i s.length with h|h
 ·obtain⟨c,hc⟩:=aZ h;rw[eF hc,pP,<- eF hc];cases hf:gF.find? (pre (s.drop i))with
  |none=>simpa using hi
  |some t=>have:=List.find?_some hf;rw[GF hi]at this;simp only[XA,XK]at this;exact this.1
 ·rw[List.drop_eq_nil_of_le h];have:fW []=[]:=by decide
  rw[this];simpa using hi
def dy(k:Nat)(S:Bs)(n line at_ en:Nat):(iN k S n line at_ en).all ae.one=true:=rfl
def dz(k:Nat)(S:Bs)(n line at_ en:Nat):(iN k S n line at_ en).length=6:=rfl
def Lq(s:Bs):decide (s∈[[108,101,116],[115,101,116],[105,102],[101,108,115,101],[119,104,105,108,101],[114,101,116,117,114,110]])=qV s:=by rw[Bool.eq_iff_iff];simp[qV]
def ZW:List ae:=[.int .u8 0,.str [],.int .i64 0,.int .i64 0,.int .i64 0,.int .i64 0]
def ik:aJ ZW []=some (.agg (iN 0 [] 0 0 0 0)):=rfl
def RO(n i e:Nat):aJ ZW [(0,1,.int .u8 1),(2,1,.int .i64 (n:Int)),(4,1,.int .i64 (i:Int)),(5,1,.int .i64 (e:Int))]=some (.agg (iN 1 [] n 0 i e)):=rfl
def Pb(S:Bs)(i e:Nat):aJ ZW [(0,1,.int .u8 2),(1,1,.str S),(4,1,.int .i64 (i:Int)),(5,1,.int .i64 (e:Int))]=some (.agg (iN 2 S 0 0 i e)):=rfl
def Pa(S:Bs)(i e:Nat):aJ ZW [(0,1,.int .u8 4),(1,1,.str S),(4,1,.int .i64 (i:Int)),(5,1,.int .i64 (e:Int))]=some (.agg (iN 4 S 0 0 i e)):=rfl
def Vk(i line:Nat):aJ ZW [(4,1,.int .i64 (i:Int)),(5,1,.int .i64 (i:Int)),(3,1,.int .i64 (line:Int))]=some (.agg (iN 0 [] 0 line i i)):=rfl
def RP(i line:Nat):aJ ZW [(0,1,.int .u8 5),(3,1,.int .i64 (line:Int)),(4,1,.int .i64 (i:Int)),(5,1,.int .i64 (i:Int))]=some (.agg (iN 5 [] 0 line i i)):=rfl
def OK{α:Type}{p:α->Bool}{l:List α}{k:Nat}{x:α}(h:l[k]?=some x)(hn:(l.take k).find? p=none)(hp:p x=true):l.find? p=some x:=by
 have hlt:=(Xy.1 h).1;have e:l=l.take k++x::l.drop (k+1):=by rw[Xx hlt]at h;simp only[sJ]at h;rw[<- h,<- List.drop_eq_getElem_cons hlt,List.take_append_drop]
 rw[e,List.find?_append,hn,Option.none_or,List.find?_cons_of_pos hp]
def yQ{α:Type}{p:α->Bool}{l:List α}{k:Nat}{x:α}(h:l[k]?=some x)(hn:(l.take k).find? p=none)(hp:p x=false):(l.take (k+1)).find? p=none:=by rw[List.take_add_one,h,List.find?_append,hn,Option.none_or];simp[hp]
def KQ(hN:VC aF){s:Bs}{i:Nat}(hi:i<s.length)(hs:s.length<=1099511627776){H:aa} :
  aq Tryz.prog aF 114 [.str s,.int .i64 (i:Int)] H λv H'=>v=.agg (IR i (jP s i))/\aS H.next H H':=by
 refine ak (hN.no _ dD) TM rfl ?_;obtain⟨c,hc⟩:=aZ hi;obtain⟨H1,m1,r1,n1,k1⟩:=aC H ZW (n:=6) rfl;have hE1:aS H.next H H1:=aS.of_new n1 k1 rL;have hz:([.int .u8 0,.str [],.int .i64 0,.int .i64 0,.int .i64 0,.int .i64 0]:List ae)=ZW:=rfl;simp only[U7,sC,seval,hz,m1];refine(pw (hN.no _ dD) (hN.no _ dD) (i:=i) om om).mono ?_;rintro v _ ⟨rfl,rfl⟩;have hle:=qP (s:=s) (i:=i) om;have hge:=GM s i;have hpos:=Ci hc;have hone:jP s i=if dP c=true then(match gn (sub s i (dS s i))with|some n=>some ⟨1,[],n,dS s i⟩|none=>none)
  else if beg c=true then some ⟨if qV (sub s i (bO jp s i))=true then 3 else 2,sub s i (bO jp s i),0,bO jp s i⟩
  else if fW (s.drop i)=[]then none else some ⟨4,fW (s.drop i),0,i+(fW (s.drop i)).length⟩:=by rw[jP,hc]
 rw[hone];by_cases hd:dP c=true
 ·have hlt:=hpos.2 hd;rw[if_pos hd];have c1:(0:Int)<((dS s i-i:Nat):Int):=om;have w1:IntKind.i64.wrap ((i:Int)+((dS s i-i:Nat):Int))=(dS s i:Int):=by rw[bi om om];omega
  have s1:eU (.str s) (some (.int .i64 (i:Int))) (some (.int .i64 (dS s i:Int)))=some (.str (sub s i (dS s i))):=pL om om;simp only[sC,seval,c1,w1,s1];refine(z6 (hN.no _ dD) (hN.no _ dD) (hN.no _ dD) (by simp[sub];omega)).mono ?_;rintro v H2 ⟨rfl,hE2⟩;have hE12:=hE1.trans (hE2.less om);have r2:=r1.same (hE2.old _ om);cases hn:gn (sub s i (dS s i))with
  |none=>obtain⟨H3,m3,r3,n3,k3⟩:=am r2 (n:=6) rfl (dz 0 [] 0 0 0 0) (dy 0 [] 0 0 0 0);simp only[Iu,sC,seval,bv,bu,ik,m3];refine gb _ _ _ _ (v:=.agg (iN 0 [] 0 0 0 0)) (by simp only[sC,seval];exact aw r3 rfl) ⟨by trivial,⟨by have:=hE12.next;omega,λc hc=>by rw[k3 c om,hE12.old c hc]⟩⟩
  |some n=>obtain⟨H3,m3,r3,n3,k3⟩:=am r2 (n:=6) rfl (dz 1 [] n 0 i (dS s i)) (dy 1 [] n 0 i (dS s i));simp only[Iu,sC,seval,bv,bu,w1,RO,m3];refine gb _ _ _ _ (v:=.agg (iN 1 [] n 0 i (dS s i))) (by simp only[sC,seval];exact aw r3 rfl) ⟨by trivial,⟨by have:=hE12.next;omega,λc hc=>by rw[k3 c om,hE12.old c hc]⟩⟩
 ·rw[if_neg hd];have hn0:dS s i-i=0:=by
   have:¬i<dS s i:=λh=>hd (hpos.1 h);omega
  have c1:¬(0:Int)<((dS s i-i:Nat):Int):=om;simp only[sC,seval,c1,bA hc];refine(tW (hN.no _ dD) c _).mono ?_;rintro v _ ⟨rfl,rfl⟩;by_cases hb:beg c=true
  ·rw[if_pos hb,hb];simp only[sC,seval];refine im (λ(T:bZ) H'=>T 0=.str s/\T 1=.int .i64 (i:Int)/\T 4=ah H.next 6 0/\T 8=.int .i64 (bO jp s i:Int)/\H1=H') (cU _ _) ?_ ?_
   ·refine aM (λq (T:bZ) H'=>∃j:Nat,j<=s.length/\q=s.length-j/\T 0=.str s/\T 1=.int .i64 (i:Int)/\T 4=ah H.next 6 0/\T 8=.int .i64 (j:Int)/\bO jp s i=bO jp s j/\H1=H') (s.length-i) ⟨i,om,rfl,by simp only[sC,seval],by simp only[sC,seval],by simp only[sC,seval],by simp only[sC,seval],rfl,rfl⟩ ?_;rintro q T _ ⟨j,hj,rfl,g0,g1,g4,g8,hA,rfl⟩;by_cases hlt:j<s.length
    ·obtain⟨d,hdj⟩:=aZ hlt;have hlt':(j:Int)<(s.length:Int):=om;simp only[sC,seval,g0,g1,g4,g8,hlt',bA hdj];refine(tW (hN.no _ dD) d _).mono ?_;rintro v _ ⟨rfl,rfl⟩;cases hbd:beg d with
     |true=>
      have hg:jp d=true:=by simp[jp,hbd]
      simp only[sC,seval,g0,g1,g4,g8,dG j om];exact⟨_,om,j+1,om,rfl,by trivial,by trivial,by trivial,by trivial,by rw[hA,gE hdj hg],by trivial⟩
     |false=>
      simp only[sC,seval,g0,g1,g4,g8,bA hdj];refine(nA (hN.no _ dD) d _).mono ?_;rintro v _ ⟨rfl,rfl⟩;cases hdd:dP d with
      |true=>
       have hg:jp d=true:=by simp[jp,hdd]
       simp only[sC,seval,g0,g1,g4,g8,dG j om];exact⟨_,om,j+1,om,rfl,by trivial,by trivial,by trivial,by trivial,by rw[hA,gE hdj hg],by trivial⟩
      |false=>
       have hg:jp d=false:=by simp[jp,hbd,hdd]
       simp only[sC,seval,g0,g1,g4,g8];exact⟨by trivial,by trivial,by trivial,by rw[hA,lZ hdj hg],by trivial⟩
    ·have hlt':¬(j:Int)<(s.length:Int):=om;simp only[sC,seval,g0,g1,g4,g8,hlt'];exact⟨by trivial,by trivial,by trivial,by rw[hA,nw om],by trivial⟩
   ·rintro T _ ⟨g0,g1,g4,g8,rfl⟩;have hje:=fL (p:=jp) (s:=s) (i:=i) om;have hjg:=fM jp s i;have s1:eU (.str s) (some (.int .i64 (i:Int))) (some (.int .i64 (bO jp s i:Int)))=some (.str (sub s i (bO jp s i))):=pL hjg hje;generalize sub s i (bO jp s i)=S at *;generalize bO jp s i=j at *;obtain⟨H2,m2,r2,n2,k2⟩:=aC H1 ZW (n:=6) rfl;obtain⟨H3,m3,r3,n3,k3⟩:=am r2 (n:=6) rfl (dz 2 S 0 0 i j) (dy 2 S 0 0 i j);have b4:aL 6 [.str []] H3 [(0,1,.str [108,101,116]),(1,1,.str [115,101,116]),(2,1,.str [105,102]),(3,1,.str [101,108,115,101]),(4,1,.str [119,104,105,108,101]),(5,1,.str [114,101,116,117,114,110])]=some (BJ H3.next 6 (.known 6),H3.push (.cells ((([[108,101,116],[115,101,116],[105,102],[101,108,115,101],[119,104,105,108,101],[114,101,116,117,114,110]]:List Bs).map .str)) 0 false)):=rfl;have C4:=(gq H3 (([[108,101,116],[115,101,116],[105,102],[101,108,115,101],[119,104,105,108,101],[114,101,116,117,114,110]]:List Bs).map .str)).cel (r:=.known 6) (n:=6) rfl (Nat.lt_succ_self _);have l1:=aj r3 (n:=6) rfl (i:=1) (x:=.str S) rfl;simp only[sC,seval,g0,g1,g4,g8,s1,Pb,hz,m2,m3,fld0,l1,b4];refine(OE (hN.no _ dD) C4 dD S).mono ?_;rintro v _ ⟨rfl,rfl⟩;rw[Lq];generalize hH4:H3.push (.cells ((([[108,101,116],[115,101,116],[105,102],[101,108,115,101],[119,104,105,108,101],[114,101,116,117,114,110]]:List Bs).map .str)) 0 false)=H4;have n4:H4.next=H3.next+1:=by rw[<- hH4];rfl
    have k4:∀c,c<H3.next->H4.get c=H3.get c:=λc hc=>by rw[<- hH4];exact aB hc
    have r4:=r3.same (k4 _ om);have r1':be H4 H.next ZW:=r1.same (by rw[k4 _ om,k3 _ om,k2 _ om]);have hE4:aS H.next H H4:=⟨om,λc hc=>by rw[k4 c om,k3 c om,k2 c om,k1 c om]⟩;clear b4 C4 hH4;cases hk:qV S with
    |true=>obtain⟨H5,m5,r5,n5,k5⟩:=cD r4 (n:=6) rfl (i:=0) om (x:=.int .u8 3) rfl;have e5:(iN 2 S 0 0 i j).set 0 (.int .u8 3)=iN 3 S 0 0 i j:=rfl;rw[e5]at r5;have r1'':=r1'.same (k5 _ om);obtain⟨H6,m6,r6,n6,k6⟩:=am r1'' (n:=6) rfl (dz 3 S 0 0 i j) (dy 3 S 0 0 i j);simp only[sC,seval,g4,fld0,m5,aw r5 (n:=6) rfl,m6];refine gb _ _ _ _ (v:=.agg (iN 3 S 0 0 i j)) (by simp only[sC,seval,g4];exact aw r6 rfl) ⟨by simp only[IR,if_true],⟨om,λc hc=>by rw[k6 c om,k5 c om,hE4.old c hc]⟩⟩
    |false=>obtain⟨H6,m6,r6,n6,k6⟩:=am r1' (n:=6) rfl (dz 2 S 0 0 i j) (dy 2 S 0 0 i j);simp only[sC,seval,g4,aw r4 (n:=6) rfl,m6];refine gb _ _ _ _ (v:=.agg (iN 2 S 0 0 i j)) (by simp only[sC,seval,g4];exact aw r6 rfl) ⟨by simp[IR],⟨om,λc hc=>by rw[k6 c om,hE4.old c hc]⟩⟩
  ·rw[if_neg hb];have hbf:beg c=false:=by simpa using hb
   rw[hbf];have hsg:fW (s.drop i)=(gF.find? (pre (s.drop i))).getD []:=by rw[eF hc];exact pP
   have b2:aL 20 [.str []] H1 [(0,1,.str [38,38]),(1,1,.str [124,124]),(2,1,.str [61,61]),(3,1,.str [33,61]),(4,1,.str [60,61]),(5,1,.str [62,61]),(6,1,.str [60]),(7,1,.str [62]),(8,1,.str [43]),(9,1,.str [45]),(10,1,.str [42]),(11,1,.str [47]),(12,1,.str [33]),(13,1,.str [40]),(14,1,.str [41]),(15,1,.str [123]),(16,1,.str [125]),(17,1,.str [44]),(18,1,.str [59]),(19,1,.str [61])]=some (BJ H1.next 20 (.known 20),H1.push (.cells (gF.map .str) 0 false)):=rfl;have C2:=(gq H1 (gF.map .str)).cel (r:=.known 20) (n:=20) rfl (Nat.lt_succ_self _);simp only[sC,seval,b2];generalize hH2:H1.push (.cells (gF.map .str) 0 false)=H2 at *;have n2:H2.next=H1.next+1:=by rw[<- hH2];rfl
   have k2:∀c,c<H1.next->H2.get c=H1.get c:=λc hc=>by rw[<- hH2];exact aB hc
   have r2:be H2 H.next ZW:=r1.same (k2 _ om);have hE2:aS H.next H H2:=⟨om,λc hc=>by rw[k2 c om,k1 c om]⟩;clear b2;have hll:gF.length=20:=rfl;refine aM (λq (T:bZ) H'=>∃k:Nat,k<=20/\q=20-k/\T 0=.str s/\T 1=.int .i64 (i:Int)/\T 4=ah H.next 6 0/\T 10=BJ H1.next 20 (.known 20)/\T 11=.int .i64 (k:Int)/\(gF.take k).find? (pre (s.drop i))=none/\H2=H') 20 ⟨0,Nat.zero_le _,rfl,by simp only[sC,seval],by simp only[sC,seval],by simp only[sC,seval],by simp only[sC,seval],by simp only[sC,seval];try rfl,rfl,rfl⟩ ?_;rintro q T _ ⟨k,hk,rfl,g0,g1,g4,g10,g11,hA,rfl⟩;by_cases hlt:k<20
   ·have hlt':(k:Int)<20:=om;obtain⟨t,ht⟩:=aZ (l:=gF) (i:=k) om;have e1:=C2.idx .i64 (i:=k) (by rw[XM,hll];exact hlt);have e2:=C2.load (i:=k) (x:=.str t) (by simp[ht]);have htl:t.length<=2:=by
     have:∀t∈gF,t.length<=2:=by decide
     exact this t (XG ht)
    have w1:=PC i t.length om;have hpre:=GF (s:=s) (t:=t) (i:=i) om;have hl:=C2.len;by_cases c1:i+t.length<=s.length
    ·have c1':((i+t.length:Nat):Int)<=(s.length:Int):=om;have s1:=pL (s:=s) (l:=i) (h:=i+t.length) om c1;rw[Nat.add_sub_cancel_left]at s1;by_cases c2:(s.drop i).take t.length=t
     ·have hp:pre (s.drop i) t=true:=by rw[hpre];simp[c1,c2]
      have hf:=OK ht hA hp;rw[hf]at hsg;simp only[Option.getD_some]at hsg;have hne:=ID t (XG ht);rw[hsg,if_neg hne];obtain⟨H3,m3,r3,n3,k3⟩:=am r2 (n:=6) rfl (dz 4 t 0 0 i (i+t.length)) (dy 4 t 0 0 i (i+t.length));simp only[sC,seval,g0,g1,g4,g10,g11,uA,hlt',e1,e2,w1,c1',s1,c2,Pa,m3];refine gb _ _ _ _ (v:=.agg (iN 4 t 0 0 i (i+t.length))) (by simp only[sC,seval,g4];exact aw r3 rfl) ⟨by trivial,⟨om,λc hc=>by rw[k3 c om,hE2.old c hc]⟩⟩
     ·have hp:pre (s.drop i) t=false:=by rw[hpre];simp[c2]
      simp only[sC,seval,g0,g1,g4,g10,g11,uA,hlt',e1,e2,w1,c1',s1,c2,dG k om];exact⟨_,om,k+1,om,rfl,by trivial,by trivial,by trivial,by trivial,rfl,yQ ht hA hp,by trivial⟩
    ·have c1':¬((i+t.length:Nat):Int)<=(s.length:Int):=om;have hp:pre (s.drop i) t=false:=by rw[hpre];simp[c1]
     simp only[sC,seval,g0,g1,g4,g10,g11,uA,hlt',e1,e2,w1,c1',dG k om];exact⟨_,om,k+1,om,rfl,by trivial,by trivial,by trivial,by trivial,rfl,yQ ht hA hp,by trivial⟩
   ·obtain rfl:k=20:=om;rw[List.take_of_length_le om]at hA;rw[hA,Option.getD_none]at hsg;rw[hsg,if_pos rfl];obtain⟨H3,m3,r3,n3,k3⟩:=am r2 (n:=6) rfl (dz 0 [] 0 0 0 0) (dy 0 [] 0 0 0 0);simp only[sC,seval,g0,g1,g4,g10,g11,uA,Int.lt_irrefl,hz,ik,m3];refine gb _ _ _ _ (v:=.agg (iN 0 [] 0 0 0 0)) (by simp only[sC,seval,g4];exact aw r3 rfl) ⟨by trivial,⟨om,λc hc=>by rw[k3 c om,hE2.old c hc]⟩⟩
open Go.Abs Go.Abs.S
def eh(w f:List ae):ae:=.tuple [.agg w,.agg f]
def gR(s:Bs)(p:Int):ae:=
 if 16384<s.length then eh (iN 0 [] 0 0 0 0) (jt 3 0)
 else if p<0∨(s.length:Int)<p then eh (iN 0 [] 0 0 0 0) (jt 2 0)
 else if bI s p.toNat=s.length then eh (iN 5 [] 0 (bT s (bI s p.toNat)) (bI s p.toNat) (bI s p.toNat)) (jt 0 0)
 else match jP s (bI s p.toNat)with
  |some t=>eh (iN t.k t.S t.n (bT s (bI s p.toNat)) (bI s p.toNat) t.e) (jt 0 0)
  |none=>eh (iN 0 [] 0 0 0 0) (jt 100 (bT s (bI s p.toNat)))
def eW{H:aa}{b:Nat}{l m:List ae}(h6:be H b l)(hl:l.length=6)(h2:be H (b+1) m)(hm:m.length=2){xs ys:List ae}(hx:xs.length=6)(ox:xs.all ae.one=true)(hy:ys.length=2)(oy:ys.all ae.one=true) :
  ∃H1 H2,bh 6 H (ah b 6 0) (.agg xs)=some H1/\bh 2 H1 (ah (b+1) 2 0) (.agg ys)=some H2/\be H2 b xs/\be H2 (b+1) ys/\H2.next=H.next/\(∀c,c<b->H2.get c=H.get c)/\∀c,c≠b->H1.get c=H.get c:=by
 obtain⟨H1,m1,r1,n1,k1⟩:=am h6 hl hx ox;obtain⟨H2,m2,r2,n2,k2⟩:=am (h2.same (k1 _ om)) hm hy oy;exact⟨H1,H2,m1,m2,r1.same (k2 _ om),r2,om,λc hc=>by rw[k2 c om,k1 c om],k1⟩
def fP(e l:Nat):(jt e l).all ae.one=true:=rfl
def fQ(e l:Nat):(jt e l).length=2:=rfl
abbrev Z2:List ae:=[.int .i64 0,.int .i64 0]
def GO(H:aa):∃H1 H2,ga H ZW=(ah H.next 6 0,H1)/\ga H1 [.int .i64 0,.int .i64 0]=(ah (H.next+1) 2 0,H2)/\be H2 H.next ZW/\be H2 (H.next+1) Z2/\H2.next=H.next+2/\∀c,c<H.next->H2.get c=H.get c:=by obtain⟨H1,m1,r1,n1,k1⟩:=aC H ZW (n:=6) rfl;obtain⟨H2,m2,r2,n2,k2⟩:=aC H1 Z2 (n:=2) rfl;rw[n1]at m2 r2;exact⟨H1,H2,m1,m2,r1.same (k2 _ om),r2,om,λc hc=>by rw[k2 c om,k1 c om]⟩
def Et(hN:VC aF){s:Bs}{p:Int}(h1:-9223372036854775808<=p)(h2:p<=9223372036854775807){H:aa} :
  aq Tryz.prog aF 71 [.str s,.int .i64 p] H λv H'=>v=gR s p/\aS H.next H H':=by
 refine ak (hN.no _ dD) V5 rfl ?_;obtain⟨H1,H2,m1,m2,r6,r2,n2,k2⟩:=GO H;have hz:([.int .u8 0,.str [],.int .i64 0,.int .i64 0,.int .i64 0,.int .i64 0]:List ae)=ZW:=rfl;have g3:aJ [.int .i64 0,.int .i64 0] [(0,1,.int .i64 3)]=some (.agg (jt 3 0)):=rfl;have g2:aJ [.int .i64 0,.int .i64 0] [(0,1,.int .i64 2)]=some (.agg (jt 2 0)):=rfl;have g0:aJ [.int .i64 0,.int .i64 0] []=some (.agg (jt 0 0)):=rfl;have E2:aS H.next H H2:=⟨om,λc hc=>k2 c hc⟩;have fini:∀(T:bZ) (K:aa) (xs ys:List ae),T 4=ah H.next 6 0->T 5=ah (H.next+1) 2 0->be K H.next xs->be K (H.next+1) ys->xs.length=6->ys.length=2->eh xs ys=gR s p->aS H.next H K ->
   fq [.cell true 6 4,.cell true 2 5] (λv H'=>v=gR s p/\aS H.next H H') .ret T K:=by
  intro T K xs ys t4 t5 q6 q2 lx ly he hE;refine nT _ _ _ _ _ _ _ (v:=.agg xs) (v':=.agg ys) (by rw[t4];exact aw q6 lx) (by rw[t5];exact aw q2 ly) ⟨he,hE⟩
 simp only[c71,sC,seval,hz,m1,m2];by_cases a1:16384<s.length
 ·have a1':(16384:Int)<(s.length:Int):=om;obtain⟨H3,H4,m3,m4,q6,q2,n4,k4,_⟩:=eW r6 rfl r2 rfl (dz 0 [] 0 0 0 0) (dy 0 [] 0 0 0 0) (fQ 3 0) (fP 3 0);simp only[sC,seval,a1',hz,ik,g3,m3,m4];refine fini _ _ _ _ (by simp only[sC,seval]) (by simp only[sC,seval]) q6 q2 rfl rfl (by rw[gR,if_pos a1]) ⟨om,λc hc=>by rw[k4 c hc,k2 c hc]⟩
 have a1':¬(16384:Int)<(s.length:Int):=om;by_cases a2:p<0
 ·obtain⟨H3,H4,m3,m4,q6,q2,n4,k4,_⟩:=eW r6 rfl r2 rfl (dz 0 [] 0 0 0 0) (dy 0 [] 0 0 0 0) (fQ 2 0) (fP 2 0);simp only[sC,seval,a1',a2,hz,ik,g2,m3,m4];refine fini _ _ _ _ (by simp only[sC,seval]) (by simp only[sC,seval]) q6 q2 rfl rfl (by rw[gR,if_neg a1,if_pos (.inl a2)]) ⟨om,λc hc=>by rw[k4 c hc,k2 c hc]⟩
 by_cases a3:(s.length:Int)<p
 ·obtain⟨H3,H4,m3,m4,q6,q2,n4,k4,_⟩:=eW r6 rfl r2 rfl (dz 0 [] 0 0 0 0) (dy 0 [] 0 0 0 0) (fQ 2 0) (fP 2 0);simp only[sC,seval,a1',a2,a3,hz,ik,g2,m3,m4];refine fini _ _ _ _ (by simp only[sC,seval]) (by simp only[sC,seval]) q6 q2 rfl rfl (by rw[gR,if_neg a1,if_pos (.inr a3)]) ⟨om,λc hc=>by rw[k4 c hc,k2 c hc]⟩
 obtain⟨i,rfl⟩:∃i:Nat,p=(i:Int):=⟨p.toNat,om⟩;have hd:gR s (i:Int)=if bI s i=s.length then eh (iN 5 [] 0 (bT s (bI s i)) (bI s i) (bI s i)) (jt 0 0)else match jP s (bI s i)with
  |some t=>eh (iN t.k t.S t.n (bT s (bI s i)) (bI s i) t.e) (jt 0 0)
  |none=>eh (iN 0 [] 0 0 0 0) (jt 100 (bT s (bI s i))):=by
  rw[gR,if_neg a1,if_neg (by rintro(h|h);exact a2 h;exact a3 h),Int.toNat_natCast]
 simp only[sC,seval,a1',a2,a3];refine(BZ (hN.no _ dD) (i:=i) om om).mono ?_;rintro v _ ⟨rfl,rfl⟩;have hj1:=nn s i;rw[hd]at fini;rw[hd];generalize bI s i=j at *;by_cases hj:j=s.length
 ·have hj':(j:Int)=(s.length:Int):=om;simp only[sC,seval,hj'];rw[<- hj'];refine(sY (hN.no _ dD) (i:=j) hj1 om).mono ?_;rintro v _ ⟨rfl,rfl⟩;obtain⟨H3,H4,m3,m4,q6,q2,n4,k4,_⟩:=eW r6 rfl r2 rfl (dz 5 [] 0 (bT s j) j j) (dy 5 [] 0 (bT s j) j j) (fQ 0 0) (fP 0 0);simp only[sC,seval,<- hj',hz,RP,g0,m3,m4];refine fini _ _ _ _ (by simp only[sC,seval]) (by simp only[sC,seval]) q6 q2 rfl rfl (by rw[if_pos hj]) ⟨om,λc hc=>by rw[k4 c hc,k2 c hc]⟩
 have hj':¬(j:Int)=(s.length:Int):=om;rw[if_neg hj]at fini;rw[if_neg hj];simp only[sC,seval,hj'];refine(KQ hN (i:=j) om om).mono ?_;rintro v H3 ⟨rfl,hE3⟩;have q6:=r6.same (hE3.old _ om);have q2:=r2.same (hE3.old _ om);obtain⟨H4,m4,q4,n4,k4⟩:=aC H3 ZW (n:=6) rfl;have ho:(IR j (jP s j)).length=6/\(IR j (jP s j)).all ae.one=true:=by cases jP s j<;>exact⟨rfl,rfl⟩
 obtain⟨H5,m5,q5,n5,k5⟩:=am q4 (n:=6) rfl ho.1 ho.2;have p6:be H5 H.next ZW:=q6.same (by rw[k5 _ (by have:=hE3.next;omega),k4 _ (by have:=hE3.next;omega)]);have p2:be H5 (H.next+1) Z2:=q2.same (by rw[k5 _ (by have:=hE3.next;omega),k4 _ (by have:=hE3.next;omega)]);have E5:aS H.next H H5:=⟨by have:=hE3.next;omega,λc hc=>by have:=hE3.next;rw[k5 c om,k4 c om,hE3.old c om,k2 c hc]⟩;have hb3:=hE3.next;cases ht:jP s j with
 |none=>rw[ht]at q5 m5 fini;have l0:=aj q5 (n:=6) rfl (i:=0) (x:=.int .u8 ((0:Nat):Int)) rfl;obtain⟨H6,H7,m6,m7,s6,s2,n7,k7,_⟩:=eW p6 rfl p2 rfl (dz 0 [] 0 0 0 0) (dy 0 [] 0 0 0 0) (fQ 100 (bT s j)) (fP 100 (bT s j));simp only[Int.cast_ofNat_Int]at l0;simp only[sC,seval,hz,m4,m5,fld0,l0,ik];refine(sY (hN.no _ dD) (i:=j) hj1 om).mono ?_;rintro v _ ⟨rfl,rfl⟩;have gl:aJ [.int .i64 0,.int .i64 0] [(0,1,.int .i64 100),(1,1,.int .i64 (bT s j:Int))]=some (.agg (jt 100 (bT s j))):=rfl;simp only[sC,seval,gl,m6,m7];refine fini _ _ _ _ (by simp only[sC,seval]) (by simp only[sC,seval]) s6 s2 rfl rfl rfl ⟨by have:=E5.next;omega,λc hc=>by rw[k7 c hc,E5.old c hc]⟩
 |some t=>
  have hk:¬(t.k:Int)=0:=by
   rw[jP]at ht;split at ht
   ·simp at ht
   ·split at ht
    ·split at ht
     ·simp only[sJ]at ht;subst ht;simp
     ·simp at ht
    ·split at ht
     ·simp only[sJ]at ht;subst ht;simp only;split<;>simp
     ·split at ht
      ·simp at ht
      ·simp only[sJ]at ht;subst ht;simp
  rw[ht]at q5 m5 fini;have l0:=aj q5 (n:=6) rfl (i:=0) (x:=.int .u8 (t.k:Int)) rfl;simp only[sC,seval,hz,m4,m5,fld0,l0,hk];refine(sY (hN.no _ dD) (i:=j) hj1 om).mono ?_;rintro v _ ⟨rfl,rfl⟩;obtain⟨H6,m6,q6',n6,k6⟩:=cD q5 (n:=6) rfl (i:=3) om (x:=.int .i64 (bT s j:Int)) rfl;have e6:(IR j (some t)).set 3 (.int .i64 (bT s j:Int))=iN t.k t.S t.n (bT s j) j t.e:=rfl;rw[e6]at q6';obtain⟨H7,H8,m7,m8,s6,s2,n8,k8,_⟩:=eW (p6.same (k6 _ om)) rfl (p2.same (k6 _ om)) rfl (dz t.k t.S t.n (bT s j) j t.e) (dy t.k t.S t.n (bT s j) j t.e) (fQ 0 0) (fP 0 0);simp only[sC,seval,fld0,m6,aw q6' (n:=6) rfl,g0,m7,m8];refine fini _ _ _ _ (by simp only[sC,seval]) (by simp only[sC,seval]) s6 s2 rfl rfl rfl ⟨by have:=E5.next;omega,λc hc=>by rw[k8 c hc,k6 c om,E5.old c hc]⟩
open Go.Abs Go.Abs.S
def Ie(a b:Int):aeq (.agg [.int .i64 a,.int .i64 b]) (.agg [.int .i64 a,.int .i64 b])=true:=by simp[aeq,aeqs,gd]
def yA(hN:VC aF){s:Bs}{p:Int}(h1:-9223372036854775808<=p)(h2:p<=9223372036854775807){H:aa} :
  aq Tryz.prog aF 62 [.str s,.int .i64 p] H λv H'=>v=gR s p/\aS H.next H H':=by
 refine ak (hN.no _ dD) We rfl ?_;obtain⟨H1,H2,m1,m2,r6,r2,n2,k2⟩:=GO H;have hz:([.int .u8 0,.str [],.int .i64 0,.int .i64 0,.int .i64 0,.int .i64 0]:List ae)=ZW:=rfl;have g3:aJ [.int .i64 0,.int .i64 0] [(0,1,.int .i64 3)]=some (.agg (jt 3 0)):=rfl;have g2:aJ [.int .i64 0,.int .i64 0] [(0,1,.int .i64 2)]=some (.agg (jt 2 0)):=rfl;have g0:aJ [.int .i64 0,.int .i64 0] []=some (.agg (jt 0 0)):=rfl;have fini:∀(T:bZ) (K:aa) (xs ys:List ae),T 4=ah H.next 6 0->T 5=ah (H.next+1) 2 0->be K H.next xs->be K (H.next+1) ys->xs.length=6->ys.length=2->eh xs ys=gR s p->aS H.next H K ->
   fq [.cell true 6 4,.cell true 2 5] (λv H'=>v=gR s p/\aS H.next H H') .ret T K:=by
  intro T K xs ys t4 t5 q6 q2 lx ly he hE;refine nT _ _ _ _ _ _ _ (v:=.agg xs) (v':=.agg ys) (by rw[t4];exact aw q6 lx) (by rw[t5];exact aw q2 ly) ⟨he,hE⟩
 simp only[c62,sC,seval,hz,m1,m2];by_cases a1:16384<s.length
 ·have a1':(16384:Int)<(s.length:Int):=om;obtain⟨H3,H4,m3,m4,q6,q2,n4,k4,_⟩:=eW r6 rfl r2 rfl (dz 0 [] 0 0 0 0) (dy 0 [] 0 0 0 0) (fQ 3 0) (fP 3 0);simp only[sC,seval,a1',hz,ik,g3,m3,m4];refine fini _ _ _ _ (by simp only[sC,seval]) (by simp only[sC,seval]) q6 q2 rfl rfl (by rw[gR,if_pos a1]) ⟨om,λc hc=>by rw[k4 c hc,k2 c hc]⟩
 have a1':¬(16384:Int)<(s.length:Int):=om;by_cases a2:p<0
 ·obtain⟨H3,H4,m3,m4,q6,q2,n4,k4,_⟩:=eW r6 rfl r2 rfl (dz 0 [] 0 0 0 0) (dy 0 [] 0 0 0 0) (fQ 2 0) (fP 2 0);simp only[sC,seval,a1',a2,hz,ik,g2,m3,m4];refine fini _ _ _ _ (by simp only[sC,seval]) (by simp only[sC,seval]) q6 q2 rfl rfl (by rw[gR,if_neg a1,if_pos (.inl a2)]) ⟨om,λc hc=>by rw[k4 c hc,k2 c hc]⟩
 by_cases a3:(s.length:Int)<p
 ·obtain⟨H3,H4,m3,m4,q6,q2,n4,k4,_⟩:=eW r6 rfl r2 rfl (dz 0 [] 0 0 0 0) (dy 0 [] 0 0 0 0) (fQ 2 0) (fP 2 0);simp only[sC,seval,a1',a2,a3,hz,ik,g2,m3,m4];refine fini _ _ _ _ (by simp only[sC,seval]) (by simp only[sC,seval]) q6 q2 rfl rfl (by rw[gR,if_neg a1,if_pos (.inr a3)]) ⟨om,λc hc=>by rw[k4 c hc,k2 c hc]⟩
 obtain⟨i,rfl⟩:∃i:Nat,p=(i:Int):=⟨p.toNat,om⟩;have hd:gR s (i:Int)=if bI s i=s.length then eh (iN 5 [] 0 (bT s (bI s i)) (bI s i) (bI s i)) (jt 0 0)else match jP s (bI s i)with
  |some t=>eh (iN t.k t.S t.n (bT s (bI s i)) (bI s i) t.e) (jt 0 0)
  |none=>eh (iN 0 [] 0 0 0 0) (jt 100 (bT s (bI s i))):=by
  rw[gR,if_neg a1,if_neg (by rintro(h|h);exact a2 h;exact a3 h),Int.toNat_natCast]<;>rfl
 simp only[sC,seval,a1',a2,a3];refine(IC (hN.no _ dD) (hN.no _ dD) (hN.no _ dD) (hN.no _ dD) (i:=i) om om).mono ?_;rintro v _ ⟨rfl,rfl⟩;have hj1:=nn s i;rw[hd]at fini;rw[hd];generalize bI s i=j at *;simp only[sC,seval,uw hj1];refine(Fy (hN.no _ dD) (s.take j)).mono ?_;rintro v _ ⟨rfl,rfl⟩;have hcl:(s.take j).count 10<=j:=by have:=List.count_le_length (a:=(10:UInt8)) (l:=s.take j);simp at this;omega
 have wl:IntKind.i64.wrap (1+((s.take j).count 10:Int))=(bT s j:Int):=by rw[bi om om];unfold bT;omega
 obtain⟨H3,m3,q3,n3,k3⟩:=aC H2 ZW (n:=6) rfl;obtain⟨H4,m4,q4,n4,k4⟩:=am q3 (n:=6) rfl (dz 0 [] 0 (bT s j) j j) (dy 0 [] 0 (bT s j) j j);have l3:=aj q4 (n:=6) rfl (i:=3) (x:=.int .i64 (bT s j:Int)) rfl;obtain⟨H5,m5,q5,n5,k5⟩:=aC H4 Z2 (n:=2) rfl;have gl:aJ [.int .i64 0,.int .i64 0] [(0,1,.int .i64 100),(1,1,.int .i64 (bT s j:Int))]=some (.agg (jt 100 (bT s j))):=rfl;obtain⟨H6,m6,q6,n6,k6⟩:=am q5 (n:=2) rfl (fQ 100 (bT s j)) (fP 100 (bT s j));simp only[sW,sL,lC,kB,rY,sB,seval,wl,hz,Vk,m3,m4,fld0,l3,gl,m5,m6];rw[ip];have b6:be H6 H2.next (iN 0 [] 0 (bT s j) j j):=q4.same (by rw[k6 _ om,k5 _ om]);have p6:be H6 H.next ZW:=r6.same (by rw[k6 _ om,k5 _ om,k4 _ om,k3 _ om]);have p2:be H6 (H.next+1) Z2:=r2.same (by rw[k6 _ om,k5 _ om,k4 _ om,k3 _ om]);have E6:aS H.next H H6:=⟨om,λc hc=>by rw[k6 c om,k5 c om,k4 c om,k3 c om,k2 c hc]⟩;have hn4:H4.next=H2.next+1:=om;have hn6:H6.next=H2.next+2:=om;rw[hn4]at q6;rw[hn4];generalize H2.next=b at *;clear m1 m2 m3 m4 m5 m6 k3 k4 k5 k6 q3 q4 q5 r6 r2 k2 n3 n4 n5 n6 l3;refine im (λ(T:bZ) H'=>T 4=ah H.next 6 0/\T 5=ah (H.next+1) 2 0/\T 6=ah b 6 0/\aS H.next H H'/\be H' H.next ZW/\be H' (H.next+1) Z2/\b<H'.next /\
   ∃(k:Nat) (S:Bs) (n e:Nat),be H' b (iN k S n (bT s j) j e)/\eh (iN k S n (bT s j) j e) (jt 0 0)=if j=s.length then eh (iN 5 [] 0 (bT s j) j j) (jt 0 0)else match jP s j with
    |some t=>eh (iN t.k t.S t.n (bT s j) j t.e) (jt 0 0)
    |none=>eh (iN 0 [] 0 0 0 0) (jt 100 (bT s j))) (cU _ _) ?_ ?_
 rotate_left
 ·rintro T H7 ⟨t4,t5,t6,hE7,s6,s2,_,k,S,n,e,hr,he⟩;obtain⟨H8,H9,m8,m9,u6,u2,n9,k9,_⟩:=eW s6 rfl s2 rfl (dz k S n (bT s j) j e) (dy k S n (bT s j) j e) (fQ 0 0) (fP 0 0);simp only[sC,seval,t4,t5,t6,aw hr (n:=6) rfl,g0,m8,m9];refine fini _ _ _ _ (by simp only[sC,seval,t4]) (by simp only[sC,seval,t5]) u6 u2 rfl rfl he ⟨by have:=hE7.next;omega,λc hc=>by rw[k9 c hc,hE7.old c hc]⟩
 have hne:H.next+1<b:=om;by_cases hj:j=s.length
 ·have hj':(j:Int)=(s.length:Int):=om;obtain⟨H7,m7,q7,n7,k7⟩:=cD b6 (n:=6) rfl (i:=0) om (x:=.int .u8 5) rfl;simp only[sC,seval,hj',fld0,m7];refine⟨by trivial,by trivial,by trivial,⟨by have:=E6.next;omega,λc hc=>by rw[k7 c om,E6.old c hc]⟩,p6.same (k7 _ om),p2.same (k7 _ om),om,5,[],0,j,q7,by rw[if_pos hj]⟩
 have hj':¬(j:Int)=(s.length:Int):=om;obtain⟨c,hc⟩:=aZ (l:=s) (i:=j) om;have hone:jP s j=if dP c=true then(match gn (sub s j (dS s j))with|some n=>some ⟨1,[],n,dS s j⟩|none=>none)
  else if beg c=true then some ⟨if qV (sub s j (bO jp s j))=true then 3 else 2,sub s j (bO jp s j),0,bO jp s j⟩
  else if fW (s.drop j)=[]then none else some ⟨4,fW (s.drop j),0,j+(fW (s.drop j)).length⟩:=by
  rw[jP,hc]<;>rfl
 rw[if_neg hj]at fini;rw[if_neg hj];simp only[sC,seval,hj',bA hc];refine(jY (hN.no _ dD) c _).mono ?_;rintro v _ ⟨rfl,rfl⟩;cases hdc:dP c with
 |true=>
  rw[if_pos hdc]at hone;simp only[sC,seval];refine(qO (hN.no _ dD) (hN.no _ dD) (hN.no _ dD) (i:=j) om om).mono ?_;rintro v _ ⟨rfl,rfl⟩;have hge:=GM s j;have hle:=qP (s:=s) (i:=j) om;have s1:eU (.str s) (some (.int .i64 (j:Int))) (some (.int .i64 (dS s j:Int)))=some (.str (sub s j (dS s j))):=pL om om;have hsub:(sub s j (dS s j)).length<=4611686018427387904:=by simp[sub];omega
  generalize dS s j=e at *;obtain⟨H7,m7,q7,n7,k7⟩:=cD b6 (n:=6) rfl (i:=5) om (x:=.int .i64 (e:Int)) rfl;have e7:(iN 0 [] 0 (bT s j) j j).set 5 (.int .i64 (e:Int))=iN 0 [] 0 (bT s j) j e:=rfl;rw[e7]at q7;have l5:=aj q7 (n:=6) rfl (i:=5) (x:=.int .i64 (e:Int)) rfl;simp only[sC,seval,fld0,m7,l5,s1];refine(Cg (hN.no _ dD) (hN.no _ dD) (hN.no _ dD) (hN.no _ dD) (hN.no _ dD) (hN.no _ dD) (hN.no _ dD) (hN.no _ dD) (hN.no _ dD) hsub).mono ?_;rintro v H8 ⟨rfl,hE8⟩;have hb8:=hE8.next;have b8:=q7.same (hE8.old b om);have p68:be H8 H.next ZW:=p6.same (by rw[hE8.old _ om,k7 _ om]);have p28:be H8 (H.next+1) Z2:=p2.same (by rw[hE8.old _ om,k7 _ om]);have f8:be H8 (b+1) (jt 100 (bT s j)):=q6.same (by rw[hE8.old _ om,k7 _ om]);have E8:aS H.next H H8:=⟨by have:=E6.next;omega,λc hc=>by rw[hE8.old c (by have:=E6.next;omega),k7 c om,E6.old c hc]⟩;clear l5 m7 q7;cases hs:gn (sub s j e)with
  |none=>rw[hs]at hone;rw[hone]at fini ⊢;simp only[Iu,sC,seval,bv,bu];obtain⟨H9,H10,m9,m10,u6,u2,n10,k10,k9⟩:=eW p68 rfl p28 rfl (dz 0 [] 0 0 0 0) (dy 0 [] 0 0 0 0) (fQ 100 (bT s j)) (fP 100 (bT s j));refine dI rfl ?_;have lf:=aw f8 (n:=2) rfl;have f9:be H9 (b+1) (jt 100 (bT s j)):=f8.same (k9 _ om);have lf9:=aw f9 (n:=2) rfl;simp only[sC,seval,sR,hz,ik,lf,m9,m10];simp only[ci,cj,bP,cm,cQ,and_true,true_and,List.map_cons,List.map_nil,sC,seval];refine⟨⟨_,rfl,λ_=>⟨_,lf9,Ie _ _⟩⟩,?_⟩;refine fini _ _ _ _ (by simp only[sC,seval]) (by simp only[sC,seval]) u6 u2 rfl rfl rfl ⟨by have:=E8.next;omega,λc hc=>by rw[k10 c hc,E8.old c hc]⟩
  |some n=>rw[hs]at hone;rw[hone];obtain⟨H9,m9,q9,n9,k9⟩:=cD b8 (n:=6) rfl (i:=0) om (x:=.int .u8 1) rfl;obtain⟨H10,m10,q10,n10,k10⟩:=cD q9 (n:=6) rfl (i:=2) om (x:=.int .i64 (n:Int)) rfl;simp only[Iu,sC,seval,bv,bu,fld0,m9,m10];refine⟨by trivial,by trivial,by trivial,⟨by have:=E8.next;omega,λc hc=>by rw[k10 c om,k9 c om,E8.old c hc]⟩,p68.same (by rw[k10 _ om,k9 _ om]),p28.same (by rw[k10 _ om,k9 _ om]),om,1,[],n,e,q10,rfl⟩
 |false=>
  rw[if_neg (by rw[hdc];simp)]at hone;simp only[sC,seval,bA hc];refine(ug (hN.no _ dD) c _).mono ?_;rintro v _ ⟨rfl,rfl⟩;cases hbc:beg c with
  |true=>
   rw[if_pos hbc]at hone;rw[hone];simp only[sC,seval];refine(nv (hN.no _ dD) (IX (hN.no _ dD) (hN.no _ dD) (hN.no _ dD)) (i:=j) om om).mono ?_;rintro v _ ⟨rfl,rfl⟩;have hje:=fL (p:=jp) (s:=s) (i:=j) om;have hjg:=fM jp s j;have s1:eU (.str s) (some (.int .i64 (j:Int))) (some (.int .i64 (bO jp s j:Int)))=some (.str (sub s j (bO jp s j))):=pL hjg hje;have hsub:(sub s j (bO jp s j)).length<=281474976710656:=by simp[sub];omega
   generalize sub s j (bO jp s j)=S at *;generalize bO jp s j=e at *;obtain⟨H7,m7,q7,n7,k7⟩:=cD b6 (n:=6) rfl (i:=5) om (x:=.int .i64 (e:Int)) rfl;have e7:(iN 0 [] 0 (bT s j) j j).set 5 (.int .i64 (e:Int))=iN 0 [] 0 (bT s j) j e:=rfl;rw[e7]at q7;have l5:=aj q7 (n:=6) rfl (i:=5) (x:=.int .i64 (e:Int)) rfl;simp only[sC,seval,fld0,m7,l5,s1];refine(wK hN hsub).mono ?_;rintro v _ ⟨rfl,rfl⟩;obtain⟨H8,m8,q8,n8,k8⟩:=cD q7 (n:=6) rfl (i:=0) om (x:=.int .u8 2) rfl;obtain⟨H9,m9,q9,n9,k9⟩:=cD q8 (n:=6) rfl (i:=1) om (x:=.str S) rfl;have e9:((iN 0 [] 0 (bT s j) j e).set 0 (.int .u8 2)).set 1 (.str S)=iN 2 S 0 (bT s j) j e:=rfl;rw[e9]at q9;have l1:=aj q9 (n:=6) rfl (i:=1) (x:=.str S) rfl;simp only[sC,seval,fld0,m8,m9,l1];refine(Lr (hN.no _ dD) S).mono ?_;rintro v _ ⟨rfl,rfl⟩;have k79:∀c,c≠b->H9.get c=H6.get c:=λc hc=>by rw[k9 c hc,k8 c hc,k7 c hc]
   cases hk:qV S with
   |true=>obtain⟨H10,m10,q10,n10,k10⟩:=cD q9 (n:=6) rfl (i:=0) om (x:=.int .u8 3) rfl;simp only[sC,seval,fld0,m10];refine⟨by trivial,by trivial,by trivial,⟨by have:=E6.next;omega,λc hc=>by rw[k10 c om,k79 c om,E6.old c hc]⟩,p6.same (by rw[k10 _ om,k79 _ om]),p2.same (by rw[k10 _ om,k79 _ om]),om,3,S,0,e,q10,by simp⟩
   |false=>simp only[sC,seval];refine⟨by trivial,by trivial,by trivial,⟨by have:=E6.next;omega,λc hc=>by rw[k79 c om,E6.old c hc]⟩,p6.same (k79 _ om),p2.same (k79 _ om),om,2,S,0,e,q9,by simp⟩
  |false=>
   rw[if_neg (by rw[hbc];simp)]at hone;simp only[sC,seval];refine(IE (hN.no _ dD) (hN.no _ dD) (hN.no _ dD) (hN.no _ dD) (hN.no _ dD) (i:=j) om).mono ?_;rintro v _ ⟨rfl,rfl⟩;have hsl:=BN (s:=s) (i:=j) om;generalize fW (s.drop j)=S at *;by_cases hS:S=[]
   ·rw[if_pos hS]at hone;rw[hone]at fini ⊢;simp only[sC,seval,hS];obtain⟨H9,H10,m9,m10,u6,u2,n10,k10,k9⟩:=eW p6 rfl p2 rfl (dz 0 [] 0 0 0 0) (dy 0 [] 0 0 0 0) (fQ 100 (bT s j)) (fP 100 (bT s j));refine dI rfl ?_;have lf:=aw q6 (n:=2) rfl;have f9:be H9 (b+1) (jt 100 (bT s j)):=q6.same (k9 _ om);have lf9:=aw f9 (n:=2) rfl;simp only[sC,seval,sR,hz,ik,lf,m9,m10];simp only[ci,cj,bP,cm,cQ,and_true,true_and,List.map_cons,List.map_nil,sC,seval];refine⟨⟨_,rfl,λ_=>⟨_,lf9,Ie _ _⟩⟩,?_⟩;refine fini _ _ _ _ (by simp only[sC,seval]) (by simp only[sC,seval]) u6 u2 rfl rfl rfl ⟨by have:=E6.next;omega,λc hc=>by rw[k10 c hc,E6.old c hc]⟩
   ·rw[if_neg hS]at hone;rw[hone];simp only[sC,seval,hS];refine(wK hN (s:=S) om).mono ?_;rintro v _ ⟨rfl,rfl⟩;obtain⟨H7,m7,q7,n7,k7⟩:=cD b6 (n:=6) rfl (i:=0) om (x:=.int .u8 4) rfl;obtain⟨H8,m8,q8,n8,k8⟩:=cD q7 (n:=6) rfl (i:=1) om (x:=.str S) rfl;obtain⟨H9,m9,q9,n9,k9⟩:=cD q8 (n:=6) rfl (i:=5) om (x:=.int .i64 ((j+S.length:Nat):Int)) rfl;have k79:∀c,c≠b->H9.get c=H6.get c:=λc hc=>by rw[k9 c hc,k8 c hc,k7 c hc]
    simp only[sC,seval,fld0,PC j S.length om,m7,m8,m9];refine⟨by trivial,by trivial,by trivial,⟨by have:=E6.next;omega,λc hc=>by rw[k79 c om,E6.old c hc]⟩,p6.same (k79 _ om),p2.same (k79 _ om),om,4,S,0,_,q9,rfl⟩
open Go.Abs Go.Abs.S
inductive Ex where
 |mk (k:Nat) (s:Bs) (n:Int) (kids:List Ex)
inductive St where
 |mk (k:Nat) (s:Bs) (e:Ex) (body els:List St) (line:Int)
abbrev JG:=Nat×Nat
structure Wd where
 k:Nat
 S:Bs
 n:Nat
 line:Nat
 at_:Nat
 en:Nat
def fC(s:Bs)(p:Nat):Except JG Wd:=
 if 16384<s.length then .error (3,0)
 else if s.length<p then .error (2,0)
 else if bI s p=s.length then .ok ⟨5,[],0,bT s (bI s p),bI s p,bI s p⟩
 else match jP s (bI s p)with
  |some t=>.ok ⟨t.k,t.S,t.n,bT s (bI s p),bI s p,t.e⟩
  |none=>.error (100,bT s (bI s p))
abbrev iU(α:Type):=Except JG (α×Wd)
def mU(w:Wd)(l:List Bs):Bool:=Nat.beq w.k 4&&l.contains w.S
def um(w:Wd)(s:Bs):Bool:=Nat.beq w.k 3&&decide (w.S=s)
def eD(s:Bs)(w:Wd):Except JG Wd:=fC s w.en
def fu(s:Bs)(c:Bs)(w:Wd):Except JG Wd:=if mU w [c]then eD s w else .error (101,w.line)
def nD{α:Type}(o:Except JG Wd)(f:Wd->Option (iU α)):Option (iU α):=match o with
 | .error e=>some (.error e)
 | .ok w=>f w
def xq{α β:Type}(o:Option (iU α))(f:α->Wd->Option (iU β)):Option (iU β):=match o with
 |none=>none
 |some (.error e)=>some (.error e)
 |some (.ok (a,w))=>f a w
def dC{α:Type}(a:α)(w:Wd):Option (iU α):=some (.ok (a,w))
def tB{α:Type}(e:Nat)(w:Wd):Option (iU α):=some (.error (e,w.line))
def Lc:Nat->List Bs
 |1=>[[42],[47]]
 |2=>[[43],[45]]
 |3=>[[61,61],[33,61],[60,61],[62,61],[60],[62]]
 |4=>[[38,38]]
 |_=>[[124,124]]
inductive NT where
 |rule (k:Nat)
 |loop (k:Nat) (e:Ex)
 |prim
 |args (S:Bs) (out:List Ex)
def iX(s:Bs)(rec:NT->Nat->Wd->Option (iU Ex)):NT->Nat->Wd->Option (iU Ex)
 | .rule 0,g,w=>
  if 200<=g then tB 102 w
  else if mU w [[45],[33]]then nD (eD s w) λw1=>xq (rec (.rule 0) (g+1) w1) λe w2=>dC (.mk 3 w.S 0 [e]) w2
  else rec .prim (g+1) w
 | .rule (k+1),g,w=>xq (rec (.rule k) g w) λe w1=>rec (.loop (k+1) e) g w1
 | .loop k e,g,w=>
  if mU w (Lc k)then nD (eD s w) λw1=>xq (rec (.rule (k-1)) g w1) λr w2=>if Nat.beq k 3 then dC (.mk 3 w.S 0 [e,r]) w2 else rec (.loop k (.mk 3 w.S 0 [e,r])) g w2
  else dC e w
 | .prim,g,w=>
  if w.k=1 then nD (eD s w) λw1=>dC (.mk 1 [] w.n []) w1
  else if w.k=2 then nD (eD s w) λw1=>
   if mU w1 [[40]]then nD (eD s w1) λw2=>
    if mU w2 [[41]]then nD (eD s w2) λw3=>dC (.mk 4 w.S 0 []) w3
    else rec (.args w.S []) g w2
   else dC (.mk 2 w.S 0 []) w1
  else if mU w [[40]]then nD (eD s w) λw1=>xq (rec (.rule 5) g w1) λe w2=>nD (fu s [41] w2) λw3=>dC e w3
  else tB 101 w
 | .args S out,g,w=>xq (rec (.rule 5) g w) λe w1=>
  if mU w1 [[44]]then nD (eD s w1) λw2=>rec (.args S (out++[e])) g w2
  else nD (fu s [41] w1) λw2=>dC (.mk 4 S 0 (out++[e])) w2
def pE(s:Bs):Nat->NT->Nat->Wd->Option (iU Ex)
 |0=>λ_ _ _=>none
 |f+1=>iX s (pE s f)
inductive NS where
 |stmt
 |body
 |more (out:List St)
def nE(s:Bs)(pe:NT->Nat->Wd->Option (iU Ex))(k line g:Nat)(w:Wd):Option (iU (List St)):=
 if w.k=2 then nD (eD s w) λw1=>nD (fu s [61] w1) λw2=>xq (pe (.rule 5) g w2) λe w3=>nD (fu s [59] w3) λw4=>dC [.mk k w.S e [] [] line] w4
 else tB 101 w
def ow(s:Bs)(pe:NT->Nat->Wd->Option (iU Ex))(rec:NS->Nat->Wd->Option (iU (List St)))(g:Nat)(w:Wd)(f:Ex->List St->Wd->Option (iU (List St))):Option (iU (List St)):=nD (fu s [40] w) λw1=>xq (pe (.rule 5) g w1) λe w2=>nD (fu s [41] w2) λw3=>xq (rec .body g w3) λl w4=>f e l w4
def nj(s:Bs)(pe:NT->Nat->Wd->Option (iU Ex))(rec:NS->Nat->Wd->Option (iU (List St))):NS->Nat->Wd->Option (iU (List St))
 | .stmt,g,w=>
  if 200<=g then tB 102 w
  else if um w [108,101,116]then nD (eD s w) λw1=>nE s pe 1 w.line (g+1) w1
  else if um w [115,101,116]then nD (eD s w) λw1=>nE s pe 2 w.line (g+1) w1
  else if um w [105,102]then nD (eD s w) λw1=>ow s pe rec (g+1) w1 λe l w2=>
   if um w2 [101,108,115,101]then nD (eD s w2) λw3=>xq (rec .body (g+1) w3) λm w4=>dC [.mk 3 [] e l m w.line] w4
   else dC [.mk 3 [] e l [] w.line] w2
  else if um w [119,104,105,108,101]then nD (eD s w) λw1=>ow s pe rec (g+1) w1 λe l w2=>dC [.mk 4 [] e l [] w.line] w2
  else if um w [114,101,116,117,114,110]then nD (eD s w) λw1=>xq (pe (.rule 5) (g+1) w1) λe w2=>nD (fu s [59] w2) λw3=>dC [.mk 5 [] e [] [] w.line] w3
  else tB 101 w
 | .body,g,w=>nD (fu s [123] w) λw1=>rec (.more []) g w1
 | .more out,g,w=>
  if mU w [[125]]then nD (eD s w) λw1=>dC out w1
  else xq (rec .stmt g w) λx w1=>rec (.more (out++x)) g w1
def pS(s:Bs):Nat->NS->Nat->Wd->Option (iU (List St))
 |0=>λ_ _ _=>none
 |f+1=>nj s (pE s f) (pS s f)
def ul(s:Bs):Nat->List St->Wd->Option (Except JG (List St))
 |0,_,_=>none
 |f+1,out,w=>if w.k=5 then some (.ok out)else match pS s f .stmt 0 w with
  |none=>none
  |some (.error e)=>some (.error e)
  |some (.ok (x,w1))=>ul s f (out++x) w1
def mn(s:Bs)(f:Nat):pE s (f+1)=iX s (pE s f):=rfl
def qL(s:Bs)(f:Nat):pS s (f+1)=nj s (pE s f) (pS s f):=rfl
mutual
def Ex.size:Ex->Nat
 | .mk _ _ _ kids=>aU kids+1
def aU:List Ex->Nat
 | []=>0
 |e::l=>e.size+aU l
end
mutual
def Ex.deep:Ex->Nat
 | .mk _ _ _ kids=>bG kids+1
def bG:List Ex->Nat
 | []=>0
 |e::l=>max e.deep (bG l)
end
mutual
def St.size:St->Nat
 | .mk _ _ e body els _=>e.size+au body+au els+1
def au:List St->Nat
 | []=>0
 |x::l=>x.size+au l
end
mutual
def St.deep:St->Nat
 | .mk _ _ e body els _=>max e.deep (max (bw body) (bw els))+1
def bw:List St->Nat
 | []=>0
 |x::l=>max x.deep (bw l)
end
def cH(s:Bs):Bool:=match fC s 0 with
 | .ok w=>Nat.beq w.k 2&&decide (w.S=s)
 | .error _=>false
def nC(s:Bs)(n:Nat):Bool:=match n with
 |1=>[[45],[33]].contains s
 |2=>[[124,124],[38,38],[61,61],[33,61],[60,61],[62,61],[60],[62],[43],[45],[42],[47]].contains s
 |_=>false
def fB(k:Nat)(s:Bs)(n:Int)(kids:Nat):Bool:=
 if k=1 then decide (0<=n)&&(s.isEmpty&&Nat.beq kids 0)
 else if k=2 then decide (n=0)&&(cH s&&Nat.beq kids 0)
 else if k=3 then decide (n=0)&&nC s kids
 else if k=4 then decide (n=0)&&cH s
 else false
mutual
def lD:Ex->Bool
 | .mk k s n kids=>fB k s n kids.length&&eY kids
def eY:List Ex->Bool
 | []=>true
 |e::l=>lD e&&eY l
end
def cM(k:Nat)(s:Bs)(body els:Nat):Bool:=
 if k=1∨k=2 then cH s&&(Nat.beq body 0&&Nat.beq els 0)
 else if k=3 then s.isEmpty
 else if k=4 then s.isEmpty&&Nat.beq els 0
 else if k=5 then s.isEmpty&&(Nat.beq body 0&&Nat.beq els 0)
 else false
mutual
def Bb:St->Bool
 | .mk k s e body els _=>cM k s body.length els.length&&(lD e&&(cA body&&cA els))
def cA:List St->Bool
 | []=>true
 |x::l=>Bb x&&cA l
end
def hX(l:List St):Bool:=decide (au l<=1000)&&decide (bw l<=40)
def d8(l:List St):Bool:=cA l&&hX l
def wz(s:Bs):Nat:=20*s.length+100
def jM(s:Bs):Except JG (List St):=match fC s 0 with
 | .error e=>.error e
 | .ok w=>match ul s (wz s) [] w with
  |none=>.error (0,0)
  |some (.error e)=>.error e
  |some (.ok l)=>if hX l then .ok l else .error (102,0)
open Go.Abs Go.Abs.S
def NR{s:Bs}{j:Nat}(h:fW (s.drop j)≠[]):0<(fW (s.drop j)).length:=List.length_pos_iff.2 h
structure rV(s:Bs)(w:Wd):Prop where
 long:s.length<=16384
 en:w.en<=s.length
 key:w.k=3->qV w.S=true
 sig:w.k=4->w.S∈gF
def N6{s:Bs}{j:Nat}{t:Xp}(hj:j<=s.length)(h:jP s j=some t):j<t.e/\t.e<=s.length/\t.k≠5/\(t.k=3->qV t.S=true)/\(t.k=4->t.S∈gF):=by
 unfold jP at h;cases hc:s[j]? with
 |none=>rw[hc]at h;simp at h
 |some c=>
  rw[hc]at h;simp only at h;have hlt:=(Xy.1 hc).1;by_cases hd:dP c=true
  ·rw[if_pos hd]at h;cases hs:gn (sub s j (dS s j))with
   |none=>rw[hs]at h;simp at h
   |some n=>rw[hs]at h;simp only[sJ]at h;subst h;exact⟨(Ci hc).2 hd,qP hj,by simp,by simp,by simp⟩
  ·rw[if_neg hd]at h;by_cases hb:beg c=true
   ·rw[if_pos hb]at h;simp only[sJ]at h;subst h;have hg:jp c=true:=by simp[jp,hb]
    have:=gE hc hg;have h2:=fM jp s (j+1);refine⟨by simp only;omega,fL hj,?_,?_,?_⟩
    ·simp only;split<;>omega
    ·simp only;intro q;split at q
     ·assumption
     ·omega
    ·simp only;intro q;split at q<;>omega
   ·rw[if_neg hb]at h;by_cases hs:fW (s.drop j)=[]
    ·rw[if_pos hs]at h;simp at h
    ·rw[if_neg hs]at h;simp only[sJ]at h;subst h;have:=NR hs;refine⟨by simp only;omega,BN hj,by simp,by simp,λ_=>?_⟩;simp only;have hd':s.drop j=c::s.drop (j+1):=by
      rw[<- (Xy.1 hc).2,<- List.drop_eq_getElem_cons hlt]
     rw[hd']at hs ⊢;rw[pP]at hs ⊢;cases hf:gF.find? (pre (c::s.drop (j+1)))with
     |none=>rw[hf]at hs;simp at hs
     |some x=>simpa using List.mem_of_find?_eq_some hf
def qQ{s:Bs}{p:Nat}{w:Wd}(h:fC s p=.ok w):rV s w/\p<=w.en/\(w.k≠5->p<w.en):=by
 unfold fC at h;by_cases a1:16384<s.length
 ·rw[if_pos a1]at h;simp at h
 rw[if_neg a1]at h;by_cases a2:s.length<p
 ·rw[if_pos a2]at h;simp at h
 rw[if_neg a2]at h;have hp:=Kk (s:=s) (i:=p) om;by_cases a3:bI s p=s.length
 ·rw[if_pos a3]at h;simp only[Except.ok.injEq]at h;subst h;exact⟨⟨om,by simp only;omega,by simp,by simp⟩,by simp only;omega,by simp⟩
 rw[if_neg a3]at h;cases ho:jP s (bI s p)with
 |none=>rw[ho]at h;simp at h
 |some t=>rw[ho]at h;simp only[Except.ok.injEq]at h;subst h;obtain⟨h1,h2,h3,h4,h5⟩:=N6 (nn s p) ho;exact⟨⟨om,h2,h4,h5⟩,by simp only;omega,λ_=>by simp only;omega⟩
def mW(s:Bs)(w:Wd):Nat:=if w.k=5 then 0 else s.length+1-w.en
def bJ{s:Bs}{w w':Wd}(h:eD s w=.ok w')(hw:rV s w)(hk:w.k≠5):rV s w'/\mW s w'<mW s w:=by
 obtain⟨h1,h2,h3⟩:=qQ h;refine⟨h1,?_⟩;have e1:=h1.en;have e2:=hw.en;unfold mW;rw[if_neg hk];by_cases hk':w'.k=5
 ·rw[if_pos hk'];omega
 ·rw[if_neg hk'];have:=h3 hk';omega
def jK{w:Wd}{l:List Bs}(h:mU w l=true):w.k=4:=by simp only[mU,XA]at h;exact XF h.1
def mJ{w:Wd}{s:Bs}(h:um w s=true):w.k=3:=by simp only[um,XA]at h;exact XF h.1
def dH{s c:Bs}{w w':Wd}(h:fu s c w=.ok w')(hw:rV s w):mU w [c]=true/\eD s w=.ok w'/\rV s w'/\mW s w'<mW s w:=by
 unfold fu at h;by_cases hs:mU w [c]=true
 ·rw[if_pos hs]at h;have:=bJ h hw (by rw[jK hs];omega);exact⟨hs,h,this⟩
 ·rw[if_neg hs]at h;simp at h
def pu{α:Type}(s:Bs)(o:Option (iU α))(m:Nat):Prop:=∃r,o=some r/\∀a w',r=.ok (a,w')->rV s w'/\mW s w'<m
def pu.le{α:Type}{s:Bs}{o:Option (iU α)}{m m':Nat}(h:pu s o m)(hm:m<=m'):pu s o m':=by obtain⟨r,h1,h2⟩:=h;exact⟨r,h1,λa w' h=>⟨(h2 a w' h).1,by have:=(h2 a w' h).2;omega⟩⟩
def dB{α:Type}{s:Bs}{a:α}{w:Wd}{m:Nat}(hw:rV s w)(hm:mW s w<m):pu s (dC a w) m:=⟨_,rfl,λa' w' h=>by simp only[Except.ok.injEq,pJ]at h;rw[<- h.2];exact⟨hw,hm⟩⟩
def nS{α:Type}{s:Bs}{e:Nat}{w:Wd}{m:Nat}:pu (α:=α) s (tB e w) m:=⟨_,rfl,λa' w' h=>by simp at h⟩
def cC{α:Type}{s:Bs}{o:Except JG Wd}{f:Wd->Option (iU α)}{m:Nat}(h:∀w',o=.ok w'->pu s (f w') m):pu s (nD o f) m:=by
 cases o with
 |error e=>exact⟨_,rfl,λa' w' h=>by simp at h⟩
 |ok w'=>exact h w' rfl
def fF{α β:Type}{s:Bs}{o:Option (iU α)}{f:α->Wd->Option (iU β)}{m k:Nat}(ho:pu s o k)(h:∀a w',rV s w'->mW s w'<k->pu s (f a w') m):pu s (xq o f) m:=by
 obtain⟨r,rfl,h2⟩:=ho;cases r with
 |error e=>exact⟨_,rfl,λa' w' h=>by simp at h⟩
 |ok p=>obtain⟨a,w'⟩:=p;exact h a w' (h2 a w' rfl).1 (h2 a w' rfl).2
def DF:NT->Nat
 | .rule k=>k+2
 | .loop _ _=>0
 | .prim=>1
 | .args _ _=>8
def N7:NT->Prop
 | .rule k=>k<=5
 | .loop k _=>1<=k/\k<=5
 |_=>True
def P7(s:Bs):∀(f:Nat) (nt:NT) (g:Nat) (w:Wd),rV s w->N7 nt->9*mW s w+DF nt<f->pu s (pE s f nt g w) (mW s w+(match nt with | .loop _ _=>1|_=>0))
 |0,_,_,_,_,_,h=>absurd h (Nat.not_lt_zero _)
 |f+1,nt,g,w,hw,hk,h=>by
  have ih:=P7 s f;rw[mn];cases nt with
  |rule k=>
   simp only[DF,N7,Nat.add_zero]at h hk ⊢;cases k with
   |zero=>
    simp only[iX];by_cases g2:200<=g
    ·rw[if_pos g2];exact nS
    rw[if_neg g2];by_cases hs:mU w [[45],[33]]=true
    ·rw[if_pos hs];refine cC λw1 h1=>?_;obtain⟨k1,k2⟩:=bJ h1 hw (by rw[jK hs];omega);refine fF (ih (.rule 0) (g+1) w1 k1 (by simp only[N7];omega) (by simp only[DF];omega)) λe w2 l1 l2=>?_;simp only[Nat.add_zero]at l2;exact dB l1 om
    ·rw[if_neg hs];exact ih .prim (g+1) w hw trivial (by simp only[DF];omega)
   |succ k=>simp only[iX];refine fF (ih (.rule k) g w hw (by simp only[N7];omega) (by simp only[DF];omega)) λe w1 l1 l2=>?_;simp only[Nat.add_zero]at l2;exact(ih (.loop (k+1) e) g w1 l1 ⟨om,hk⟩ (by simp only[DF];omega)).le (by simp only;omega)
  |loop k e=>
   simp only[DF,N7,Nat.add_zero]at h hk ⊢;simp only[iX];by_cases hs:mU w (Lc k)=true
   ·rw[if_pos hs];refine cC λw1 h1=>?_;obtain⟨k1,k2⟩:=bJ h1 hw (by rw[jK hs];omega);refine fF (ih (.rule (k-1)) g w1 k1 (by simp only[N7];omega) (by simp only[DF];omega)) λr w2 l1 l2=>?_;simp only[Nat.add_zero]at l2;cases hb:Nat.beq k 3 with
    |true=>exact dB l1 om
    |false=>exact(ih (.loop k _) g w2 l1 hk (by simp only[DF];omega)).le (by simp only;omega)
   ·rw[if_neg hs];exact dB hw om
  |prim=>
   simp only[DF,Nat.add_zero]at h ⊢;simp only[iX];by_cases c1:w.k=1
   ·rw[if_pos c1];refine cC λw1 h1=>?_;obtain⟨k1,k2⟩:=bJ h1 hw om;exact dB k1 om
   rw[if_neg c1];by_cases c2:w.k=2
   ·rw[if_pos c2];refine cC λw1 h1=>?_;obtain⟨k1,k2⟩:=bJ h1 hw om;by_cases hs:mU w1 [[40]]=true
    ·rw[if_pos hs];refine cC λw2 h2=>?_;obtain⟨k3,k4⟩:=bJ h2 k1 (by rw[jK hs];omega);by_cases hs2:mU w2 [[41]]=true
     ·rw[if_pos hs2];refine cC λw3 h3=>?_;obtain⟨k5,k6⟩:=bJ h3 k3 (by rw[jK hs2];omega);exact dB k5 om
     ·rw[if_neg hs2];exact(ih (.args _ _) g w2 k3 trivial (by simp only[DF];omega)).le (by simp only;omega)
    ·rw[if_neg hs];exact dB k1 om
   rw[if_neg c2];by_cases hs:mU w [[40]]=true
   ·rw[if_pos hs];refine cC λw1 h1=>?_;obtain⟨k1,k2⟩:=bJ h1 hw (by rw[jK hs];omega);refine fF (ih (.rule 5) g w1 k1 (by simp only[N7];omega) (by simp only[DF];omega)) λe w2 l1 l2=>?_;simp only[Nat.add_zero]at l2;refine cC λw3 h3=>?_;obtain⟨_,_,k5,k6⟩:=dH h3 l1;exact dB k5 om
   ·rw[if_neg hs];exact nS
  |args S out=>
   simp only[DF,Nat.add_zero]at h ⊢;simp only[iX];refine fF (ih (.rule 5) g w hw (by simp only[N7];omega) (by simp only[DF];omega)) λe w1 l1 l2=>?_;simp only[Nat.add_zero]at l2;by_cases hs:mU w1 [[44]]=true
   ·rw[if_pos hs];refine cC λw2 h2=>?_;obtain⟨k3,k4⟩:=bJ h2 l1 (by rw[jK hs];omega);exact(ih (.args _ _) g w2 k3 trivial (by simp only[DF];omega)).le (by simp only;omega)
   ·rw[if_neg hs];refine cC λw2 h2=>?_;obtain⟨_,_,k5,k6⟩:=dH h2 l1;exact dB k5 om
def Ni:NS->Nat
 | .stmt=>0
 | .body=>0
 | .more _=>1
def P6(s:Bs):∀(f:Nat) (nt:NS) (g:Nat) (w:Wd),rV s w->9*mW s w+Ni nt+2<f->pu s (pS s f nt g w) (mW s w)
 |0,_,_,_,_,h=>absurd h (Nat.not_lt_zero _)
 |f+1,nt,g,w,hw,h=>by
  have ih:=P6 s f;have ihE:=P7 s f;rw[qL];have pe:∀g w1,rV s w1->mW s w1<mW s w->pu s (pE s f (.rule 5) g w1) (mW s w):=λg w1 h1 h2=>(ihE (.rule 5) g w1 h1 (by simp only[N7];omega) (by simp only[DF];omega)).le (by simp only;omega);have named:∀k line g w1,rV s w1->mW s w1<mW s w->pu s (nE s (pE s f) k line g w1) (mW s w):=by
   intro k line g w1 k1 k2;unfold nE;by_cases c:w1.k=2
   ·rw[if_pos c];refine cC λw2 h2=>?_;obtain⟨k3,k4⟩:=bJ h2 k1 om;refine cC λw3 h3=>?_;obtain⟨_,_,k5,k6⟩:=dH h3 k3;refine fF (pe g w3 k5 om) λe w4 l1 l2=>?_;refine cC λw5 h5=>?_;obtain⟨_,_,k7,k8⟩:=dH h5 l1;exact dB k7 om
   ·rw[if_neg c];exact nS
  have asked:∀g w1 F,rV s w1->mW s w1<mW s w->(∀e l w4,rV s w4->mW s w4<mW s w->pu s (F e l w4) (mW s w))->pu s (ow s (pE s f) (pS s f) g w1 F) (mW s w):=by intro g w1 F k1 k2 hF;unfold ow;refine cC λw2 h2=>?_;obtain⟨_,_,k3,k4⟩:=dH h2 k1;refine fF (pe g w2 k3 om) λe w3 l1 l2=>?_;refine cC λw4 h4=>?_;obtain⟨_,_,k5,k6⟩:=dH h4 l1;refine fF (ih .body g w4 k5 (by simp only[Ni];omega)) λl w5 m1 m2=>?_;exact hF e l w5 m1 om
  cases nt with
  |stmt=>
   simp only[Ni]at h;simp only[nj];by_cases g2:200<=g
   ·rw[if_pos g2];exact nS
   rw[if_neg g2];by_cases c1:um w [108,101,116]=true
   ·rw[if_pos c1];refine cC λw1 h1=>?_;obtain⟨k1,k2⟩:=bJ h1 hw (by rw[mJ c1];omega);exact named _ _ _ w1 k1 k2
   rw[if_neg c1];by_cases c2:um w [115,101,116]=true
   ·rw[if_pos c2];refine cC λw1 h1=>?_;obtain⟨k1,k2⟩:=bJ h1 hw (by rw[mJ c2];omega);exact named _ _ _ w1 k1 k2
   rw[if_neg c2];by_cases c3:um w [105,102]=true
   ·rw[if_pos c3];refine cC λw1 h1=>?_;obtain⟨k1,k2⟩:=bJ h1 hw (by rw[mJ c3];omega);refine asked _ w1 _ k1 k2 λe l w2 l1 l2=>?_;by_cases c:um w2 [101,108,115,101]=true
    ·rw[if_pos c];refine cC λw3 h3=>?_;obtain⟨k3,k4⟩:=bJ h3 l1 (by rw[mJ c];omega);refine fF (ih .body _ w3 k3 (by simp only[Ni];omega)) λm w4 m1 m2=>?_;exact dB m1 om
    ·rw[if_neg c];exact dB l1 om
   rw[if_neg c3];by_cases c4:um w [119,104,105,108,101]=true
   ·rw[if_pos c4];refine cC λw1 h1=>?_;obtain⟨k1,k2⟩:=bJ h1 hw (by rw[mJ c4];omega);exact asked _ w1 _ k1 k2 λe l w2 l1 l2=>dB l1 om
   rw[if_neg c4];by_cases c5:um w [114,101,116,117,114,110]=true
   ·rw[if_pos c5];refine cC λw1 h1=>?_;obtain⟨k1,k2⟩:=bJ h1 hw (by rw[mJ c5];omega);refine fF (pe _ w1 k1 k2) λe w2 l1 l2=>?_;refine cC λw3 h3=>?_;obtain⟨_,_,k5,k6⟩:=dH h3 l1;exact dB k5 om
   rw[if_neg c5];exact nS
  |body=>simp only[Ni]at h;simp only[nj];refine cC λw1 h1=>?_;obtain⟨_,_,k1,k2⟩:=dH h1 hw;exact(ih (.more []) g w1 k1 (by simp only[Ni];omega)).le om
  |more out=>
   simp only[Ni]at h;simp only[nj];by_cases c:mU w [[125]]=true
   ·rw[if_pos c];refine cC λw1 h1=>?_;obtain⟨k1,k2⟩:=bJ h1 hw (by rw[jK c];omega);exact dB k1 om
   ·rw[if_neg c];refine fF (ih .stmt g w hw (by simp only[Ni];omega)) λx w1 l1 l2=>?_;exact(ih (.more _) g w1 l1 (by simp only[Ni];omega)).le om
def Hj(s:Bs):∀(f:Nat) (out:List St) (w:Wd),rV s w->10*mW s w+4<f->∃r,ul s f out w=some r
 |0,_,_,_,h=>absurd h (Nat.not_lt_zero _)
 |f+1,out,w,hw,h=>by
  unfold ul;by_cases c:w.k=5
  ·rw[if_pos c];exact⟨_,rfl⟩
  rw[if_neg c];obtain⟨r,h1,h2⟩:=P6 s f .stmt 0 w hw (by simp only[Ni];omega);rw[h1];cases r with
  |error e=>exact⟨_,rfl⟩
  |ok p=>obtain⟨x,w1⟩:=p;obtain⟨l1,l2⟩:=h2 x w1 rfl;exact Hj s f (out++x) w1 l1 om
def LA{s:Bs}{w:Wd}(h:fC s 0=.ok w):∃r,ul s (wz s) [] w=some r:=by
 obtain⟨h1,_,_⟩:=qQ h;refine Hj s _ [] w h1 ?_;have:mW s w<=s.length+1:=by unfold mW;split<;>omega
 unfold wz;omega
open Go.Abs Go.Abs.S
def eM(P:Nat->Prop)(H:aa)(m:Nat)(v:ae)(k:Nat)(C:List ae):Prop:=(Q7 v=true/\k=0/\C=[])∨∃a r,v=.slice (some a) k r/\P a.b/\bH H a (m*k)=some C
def eM.mono{P Q:Nat->Prop}{H H':aa}{m k:Nat}{v:ae}{C:List ae}(h:eM P H m v k C)(q:∀b,P b->Q b/\H'.get b=H.get b):eM Q H' m v k C:=by
 rcases h with h|⟨a,r,h1,h2,h3⟩
 ·exact .inl h
 ·exact .inr ⟨a,r,h1,(q _ h2).1,by rw[vN (q _ h2).2];exact h3⟩
def eM.one{P:Nat->Prop}{H:aa}{m k:Nat}{v:ae}{C:List ae}(h:eM P H m v k C):v.one=true:=by
 rcases h with⟨h,_⟩|⟨a,r,rfl,_⟩
 ·exact OC h
 ·rfl
def eM.len{P:Nat->Prop}{H:aa}{m k:Nat}{v:ae}{C:List ae}(h:eM P H m v k C):ez false v=some (.int .i64 (k:Int)):=by
 rcases h with⟨h,rfl,_⟩|⟨a,r,rfl,_⟩
 ·rcases gS h with rfl|⟨a,rfl⟩<;>rfl
 ·rfl
def eM.nil(P:Nat->Prop)(H:aa)(m:Nat):eM P H m aX 0 []:=.inl ⟨rfl,rfl,rfl⟩
def eM.app{P:Nat->Prop}{H:aa}{m k:Nat}{v:ae}{C:List ae}(h:jy m 0 H v C k)(hb:bx v P):eM P H m v k C:=by
 rcases h with⟨rfl,rfl,rfl⟩|⟨b,low,rfl,h2,h3,h4,h5,h6,h7⟩
 ·exact .nil P H m
 ·refine .inr ⟨_,_,rfl,hb _ _ _ rfl,?_⟩;rw[<- h2];exact fA h5 h6
def cz(m:Nat)(v:ae)(i:Nat):ae:=match v with
 | .slice (some a) _ _=>.ptr (some ⟨a.b,a.lim,a.o+i*m⟩)
 |_=>cF
def eM.idx{P:Nat->Prop}{H:aa}{m k:Nat}{v:ae}{C:List ae}(h:eM P H m v k C){i:Nat}(hi:i<k):jk m v (.int .i64 (i:Int))=some (cz m v i):=by
 rcases h with⟨_,rfl,_⟩|⟨a,r,rfl,_⟩
 ·omega
 ·show(bif Nat.blt i k then some (ae.ptr (some ⟨a.b,a.lim,a.o+i*m⟩))else none)=_;rw[show Nat.blt i k=true by simpa[Nat.blt_eq]using hi];rfl
def uB{H:aa}{a:Ad}{n i j:Nat}{C:List ae}(h:bH H a n=some C)(hij:i+j<=n):bH H ⟨a.b,a.lim,a.o+i⟩ j=some ((C.drop i).take j):=by obtain⟨l,low,ro,mk,h1,h2,h3,h4,rfl⟩:=qI h;unfold bH;simp only[h1,Xz h2,Xz h3,Xz (show a.o+i+j<=a.lim by omega),Bool.and_self,cond_true];rw[List.drop_take,List.take_take,Nat.min_eq_left om,List.drop_drop]
def eM.load{P:Nat->Prop}{H:aa}{m k:Nat}{v:ae}{C:List ae}(h:eM P H m v k C){i:Nat}(hi:i<k):al true m H (cz m v i)=some (.agg ((C.drop (i*m)).take m)):=by
 rcases h with⟨_,rfl,_⟩|⟨a,r,rfl,_,h3⟩
 ·omega
 ·have hm:i*m+m<=m*k:=by
   have:(i+1)*m<=k*m:=Nat.mul_le_mul_right m hi;rw[Nat.mul_comm m k];rw[Nat.add_mul,Nat.one_mul]at this;exact this
  simp only[al,cz,uB h3 hm,cond_true]
def eM.aeq{P:Nat->Prop}{H:aa}{m k:Nat}{v:ae}{C:List ae}(h:eM P H m v k C):aeq v v=true:=by
 rcases h with⟨h,_⟩|⟨a,r,rfl,_⟩
 ·rcases gS h with rfl|⟨a,rfl⟩
  ·exact Dq
  ·simp[Go.Abs.aeq]
 ·cases r<;>simp[Go.Abs.aeq]
mutual
def XE(P:Nat->Prop)(H:aa):Ex->List ae->Prop
 | .mk k s n kids,c=>∃v C,c=[.int .u8 (k:Int),.str s,.int .i64 n,v]/\eM P H 4 v kids.length C/\FY P H kids C
def FY(P:Nat->Prop)(H:aa):List Ex->List ae->Prop
 | [],C=>C=[]
 |e::l,C=>∃c D,C=c++D/\XE P H e c/\FY P H l D
end
def XE.len{P:Nat->Prop}{H:aa}{e:Ex}{c:List ae}(h:XE P H e c):c.length=4:=by cases e;obtain⟨v,C,rfl,_⟩:=h;rfl
def XE.one{P:Nat->Prop}{H:aa}{e:Ex}{c:List ae}(h:XE P H e c):c.all ae.one=true:=by cases e;obtain⟨v,C,rfl,h2,_⟩:=h;simp only[List.all_cons,List.all_nil,h2.one];rfl
def XE.aeqs{P:Nat->Prop}{H:aa}{e:Ex}{c:List ae}(h:XE P H e c):aeqs c c=true:=by cases e;obtain⟨v,C,rfl,h2,_⟩:=h;simp[Go.Abs.aeqs,dM,uR,h2.aeq]
mutual
def XE.mono{P Q:Nat->Prop}{H H':aa}(q:∀b,P b->Q b/\H'.get b=H.get b):∀{e:Ex} {c:List ae},XE P H e c->XE Q H' e c
 | .mk _ _ _ _,_,h=>by obtain⟨v,C,h1,h2,h3⟩:=h;exact⟨v,C,h1,h2.mono q,FY.mono q h3⟩
def FY.mono{P Q:Nat->Prop}{H H':aa}(q:∀b,P b->Q b/\H'.get b=H.get b):∀{l:List Ex} {C:List ae},FY P H l C->FY Q H' l C
 | [],_,h=>h
 |_::_,_,h=>by obtain⟨c,D,h1,h2,h3⟩:=h;exact⟨c,D,h1,XE.mono q h2,FY.mono q h3⟩
end
def FY.len{P:Nat->Prop}{H:aa}:∀{l:List Ex} {C:List ae},FY P H l C->C.length=4*l.length
 | [],_,h=>by rw[show _=[]from h];rfl
 |_::l,_,⟨c,D,h1,h2,h3⟩=>by rw[h1,lA,h2.len,FY.len h3,XB];omega
def FY.at{P:Nat->Prop}{H:aa}:∀{l:List Ex} {C:List ae},FY P H l C->∀{i:Nat} {e:Ex},l[i]?=some e->XE P H e ((C.drop (i*4)).take 4)
 | [],_,_,i,e,hi=>by simp at hi
 |x::l,_,⟨c,D,h1,h2,h3⟩,i,e,hi=>by
  subst h1;have hl:=h2.len;cases i with
  |zero=>simp only[XH,sJ]at hi;subst hi;rw[Nat.zero_mul,List.drop_zero,List.take_append_of_le_length om,List.take_of_length_le om];exact h2
  |succ i=>rw[XI]at hi;have:=FY.at h3 hi;rw[show(i+1)*4=c.length+i*4 by omega,List.drop_append,List.drop_of_length_le om,List.nil_append,show c.length+i*4-c.length=i*4 by omega];exact this
mutual
def XS(P:Nat->Prop)(H:aa):St->List ae->Prop
 | .mk k s e body els line,c=>∃ce vb Cb ve Ce,c=.int .u8 (k:Int)::.str s::(ce++[vb,ve,.int .i64 line])/\XE P H e ce/\eM P H 9 vb body.length Cb/\lV P H body Cb/\eM P H 9 ve els.length Ce/\lV P H els Ce
def lV(P:Nat->Prop)(H:aa):List St->List ae->Prop
 | [],C=>C=[]
 |e::l,C=>∃c D,C=c++D/\XS P H e c/\lV P H l D
end
def XS.len{P:Nat->Prop}{H:aa}{e:St}{c:List ae}(h:XS P H e c):c.length=9:=by cases e;obtain⟨ce,vb,Cb,ve,Ce,rfl,h2,_⟩:=h;simp[h2.len]
def XS.one{P:Nat->Prop}{H:aa}{e:St}{c:List ae}(h:XS P H e c):c.all ae.one=true:=by cases e;obtain⟨ce,vb,Cb,ve,Ce,rfl,h2,h3,_,h5,_⟩:=h;simp only[List.all_cons,List.all_append,List.all_nil,h2.one,h3.one,h5.one];rfl
def Dp:∀{l m l' m':List ae},aeqs l l'=true->aeqs m m'=true->aeqs (l++m) (l'++m')=true
 | [],_,[],_,_,h=>h
 | [],_,_::_,_,h,_=>by simp[Go.Abs.aeqs]at h
 |_::_,_,[],_,h,_=>by simp[Go.Abs.aeqs]at h
 |x::l,m,y::l',m',h,h'=>by simp only[Go.Abs.aeqs,XA]at h;simp only[XQ,Go.Abs.aeqs,h.1,Dp h.2 h',Bool.and_self]
def XS.aeqs{P:Nat->Prop}{H:aa}{e:St}{c:List ae}(h:XS P H e c):aeqs c c=true:=by cases e;obtain⟨ce,vb,Cb,ve,Ce,rfl,h2,h3,_,h5,_⟩:=h;simp only[Go.Abs.aeqs,dM,uR,Bool.true_and];exact Dp h2.aeqs (by simp[Go.Abs.aeqs,h3.aeq,h5.aeq,dM])
mutual
def XS.mono{P Q:Nat->Prop}{H H':aa}(q:∀b,P b->Q b/\H'.get b=H.get b):∀{e:St} {c:List ae},XS P H e c->XS Q H' e c
 | .mk _ _ _ _ _ _,_,h=>by obtain⟨ce,vb,Cb,ve,Ce,h1,h2,h3,h4,h5,h6⟩:=h;exact⟨ce,vb,Cb,ve,Ce,h1,h2.mono q,h3.mono q,lV.mono q h4,h5.mono q,lV.mono q h6⟩
def lV.mono{P Q:Nat->Prop}{H H':aa}(q:∀b,P b->Q b/\H'.get b=H.get b):∀{l:List St} {C:List ae},lV P H l C->lV Q H' l C
 | [],_,h=>h
 |_::_,_,h=>by obtain⟨c,D,h1,h2,h3⟩:=h;exact⟨c,D,h1,XS.mono q h2,lV.mono q h3⟩
end
def lV.len{P:Nat->Prop}{H:aa}:∀{l:List St} {C:List ae},lV P H l C->C.length=9*l.length
 | [],_,h=>by rw[show _=[]from h];rfl
 |_::l,_,⟨c,D,h1,h2,h3⟩=>by rw[h1,lA,h2.len,lV.len h3,XB];omega
def lV.at{P:Nat->Prop}{H:aa}:∀{l:List St} {C:List ae},lV P H l C->∀{i:Nat} {e:St},l[i]?=some e->XS P H e ((C.drop (i*9)).take 9)
 | [],_,_,i,e,hi=>by simp at hi
 |x::l,_,⟨c,D,h1,h2,h3⟩,i,e,hi=>by
  subst h1;have hl:=h2.len;cases i with
  |zero=>simp only[XH,sJ]at hi;subst hi;rw[Nat.zero_mul,List.drop_zero,List.take_append_of_le_length om,List.take_of_length_le om];exact h2
  |succ i=>rw[XI]at hi;have:=lV.at h3 hi;rw[show(i+1)*9=c.length+i*9 by omega,List.drop_append,List.drop_of_length_le om,List.nil_append,show c.length+i*9-c.length=i*9 by omega];exact this
def In(n m:Nat)(c:Nat):Prop:=n<=c/\c<m
open Go.Abs Go.Abs.S
def iq:List (Bs×(List Nat×Nat)):=
 [([118, 101, 99], ([1, 1, 1], 2)), ([120], ([2], 1)), ([121], ([2], 1)), ([122], ([2], 1)), ([100, 111, 116], ([2, 2], 1)), ([99, 114, 111, 115, 115], ([2, 2], 2)),
  ([117, 110, 105, 116], ([2], 2)), ([115, 113, 114, 116], ([1], 1)), ([115, 105, 110], ([1], 1)), ([99, 111, 115], ([1], 1)), ([97, 98, 115], ([1], 1)),
  ([102, 108, 111, 111, 114], ([1], 1)), ([109, 105, 110], ([1, 1], 1)), ([109, 97, 120], ([1, 1], 1)), ([115, 97, 109, 112, 108, 101], ([1, 1], 2))]
def ew{α:Type}:List (Bs×α)->Bs->Option α
 | [],_=>none
 |x::l,s=>if x.1=s then some x.2 else ew l s
def FB:List Bs:=[[124,124],[38,38],[61,61],[33,61],[60,61],[62,61],[60],[62]]
def ja(s:Bs)(a b:Nat):Nat:=
 if s∈FB then(if a=1/\b=1 then 1 else 0)
 else if s=[43]∨s=[45]then(if a=b then a else 0)
 else if s=[42]then(if a=1 then b else if b=1 then a else 0)
 else if s=[47]then(if b=1 then a else 0)
 else 0
def yw(s:Bs):List Nat->Nat
 | [a]=>if s=[45]∨(s=[33]/\a=1)then a else 0
 | [a,b]=>ja s a b
 |_=>0
abbrev aO:=List (Bs×Nat)
def fk:aO->Bs->Option Nat
 | [],_=>none
 |x::l,s=>match fk l s with
  |some t=>some t
  |none=>if x.1=s then some x.2 else none
def js(s:Bs)(ts:List Nat):Except Nat Nat:=match ew iq s with
 |none=>.error 110
 |some (args,own)=>if ts.length≠args.length then .error 112 else if ts≠args then .error 111 else .ok own
def jT(E:aO)(k:Nat)(s:Bs)(ts:List Nat):Except Nat Nat:=
 if k=1 then .ok 1
 else if k=2 then(match fk E s with|some t=>.ok t|none=>.error 110)
 else if k=3 then(if yw s ts=0 then .error 111 else .ok (yw s ts))
 else if k=4 then js s ts
 else .error 111
mutual
def lB(E:aO):Ex->Except Nat Nat
 | .mk k s _ kids=>match eA E kids with
  | .error e=>.error e
  | .ok ts=>jT E k s ts
def eA(E:aO):List Ex->Except Nat (List Nat)
 | []=>.ok []
 |e::l=>match lB E e with
  | .error f=>.error f
  | .ok t=>match eA E l with
   | .error f=>.error f
   | .ok ts=>.ok (t::ts)
end
def Gn(a:Except Nat (List Nat))(b:Except Nat (List Nat)):Except Nat (List Nat):=match a with
 | .error e=>.error e
 | .ok x=>match b with
  | .error e=>.error e
  | .ok y=>.ok (x++y)
def vl(E:aO)(m:List Ex):∀l:List Ex,eA E (l++m)=Gn (eA E l) (eA E m)
 | []=>by simp only[List.nil_append,eA,Gn];cases eA E m<;>rfl
 |e::l=>by
  simp only[XQ,eA,vl E m l];cases lB E e with
  |error f=>rfl
  |ok t=>
   cases eA E l with
   |error f=>rfl
   |ok ts=>cases eA E m<;>rfl
def ye{E:aO}{l:List Ex}{e:Ex}{ts:List Nat}(h:eA E l=.ok ts):eA E (l++[e])=match lB E e with | .error f=>.error f | .ok t=>.ok (ts++[t]):=by rw[vl,h];simp only[Gn,eA];cases lB E e<;>rfl
def Bq{E:aO}{l:List Ex}{e:Ex}{f:Nat}(i:Nat)(h:∃ts,eA E (l.take i)=.ok ts)(hi:l[i]?=some e)(he:lB E e=.error f):eA E l=.error f:=by
 obtain⟨ts,h⟩:=h;have hlt:i<l.length:=(Xy.1 hi).1;have hd:l=l.take i++(e::l.drop (i+1)):=by rw[<- (Xy.1 hi).2,<- List.drop_eq_getElem_cons hlt,List.take_append_drop]
 rw[hd,vl,h];simp only[Gn,eA,he]
def lF{E:aO}:∀{l:List Ex} {ts:List Nat},eA E l=.ok ts->ts.length=l.length
 | [],ts,h=>by simp only[eA,Except.ok.injEq]at h;subst h;rfl
 |e::l,ts,h=>by
  simp only[eA]at h;cases he:lB E e with
  |error f=>rw[he]at h;simp at h
  |ok t=>
   rw[he]at h;cases hl:eA E l with
   |error f=>rw[hl]at h;simp at h
   |ok us=>rw[hl]at h;simp only[Except.ok.injEq]at h;subst h;rw[XB,XB,lF hl]
def pV(x:Bs×Nat)(s:Bs):∀E:aO,fk (E++[x]) s=if x.1=s then some x.2 else fk E s
 | []=>rfl
 |y::E=>by
  simp only[XQ,fk,pV x s E];by_cases h:x.1=s
  ·simp only[if_pos h]
  ·simp only[if_neg h]
def ba:aO:=[([117],1),([118],1),([112],2),([110],2)]
structure kW(E:aO):Prop where
 four:E.take 4=ba
 once:(E.map (·.1)).Nodup
 kind:∀x∈E,x.2=1∨x.2=2
def kW.len{E:aO}(h:kW E):4<=E.length:=by have:=congrArg List.length h.four;rw[XT]at this;simp only[ba,XB,XC]at this;omega
def kW.given:kW ba:=⟨rfl,by decide,by decide⟩
def kW.snoc{E:aO}{s:Bs}{t:Nat}(h:kW E)(hs:s∉E.map (·.1))(ht:t=1∨t=2):kW (E++[(s,t)]):=by
 refine⟨?_,?_,?_⟩
 ·rw[List.take_append_of_le_length h.len];exact h.four
 ·rw[List.map_append,List.nodup_append];refine⟨h.once,by simp,?_⟩;intro a ha b hb e;simp only[List.map_cons,List.map_nil,List.mem_singleton]at hb;subst hb;subst e;exact hs ha
 ·intro x hx;rcases List.mem_append.1 hx with hx|hx
  ·exact h.kind x hx
  ·rw[List.mem_singleton.1 hx];exact ht
def sZ{s:Bs}{t:Nat}:∀{E:aO},fk E s=some t->(s,t)∈E
 | [],h=>by simp[fk]at h
 |x::E,h=>by
  simp only[fk]at h;cases hl:fk E s with
  |some u=>rw[hl]at h;simp only[sJ]at h;subst h;exact List.mem_cons_of_mem _ (sZ hl)
  |none=>
   rw[hl]at h;by_cases hx:x.1=s
   ·rw[if_pos hx]at h;simp only[sJ]at h;subst h;subst hx;exact List.mem_cons_self ..
   ·rw[if_neg hx]at h;simp at h
def N5{s:Bs}{ts:List Nat}(h:∀t∈ts,t=1∨t=2)(hn:yw s ts≠0):yw s ts=1∨yw s ts=2:=by
 match ts,h,hn with
 | [],_,hn=>exact absurd rfl hn
 | [a],h,hn=>
  simp only[yw]at hn ⊢;by_cases q:s=[45]∨(s=[33]/\a=1)
  ·rw[if_pos q];exact h a (by simp)
  ·rw[if_neg q]at hn;exact absurd rfl hn
 | [a,b],h,hn=>
  have ha:=h a (by simp);have hb:=h b (by simp);simp only[yw,ja]at hn ⊢
  repeat' split
  all_goals first|exact .inl rfl|exact ha|exact hb|simp_all
 |_::_::_::_,_,hn=>exact absurd rfl hn
def wW:∀x∈iq,x.2.2=1∨x.2.2=2:=by decide
def iK{α:Type}{s:Bs}{x:α}:∀{l:List (Bs×α)},ew l s=some x->(s,x)∈l
 | [],h=>by simp[ew]at h
 |y::l,h=>by
  simp only[ew]at h;by_cases hy:y.1=s
  ·rw[if_pos hy]at h;simp only[sJ]at h;subst h;subst hy;exact List.mem_cons_self ..
  ·rw[if_neg hy]at h;exact List.mem_cons_of_mem _ (iK h)
def Jm{s:Bs}{ts:List Nat}{t:Nat}(h:js s ts=.ok t):t=1∨t=2:=by
 unfold js at h;cases ha:ew iq s with
 |none=>rw[ha]at h;simp at h
 |some x=>
  obtain⟨args,own⟩:=x;rw[ha]at h;simp only at h;by_cases h1:ts.length≠args.length
  ·rw[if_pos h1]at h;simp at h
  rw[if_neg h1]at h;by_cases h2:ts≠args
  ·rw[if_pos h2]at h;simp at h
  rw[if_neg h2]at h;simp only[Except.ok.injEq]at h;subst h;exact wW _ (iK ha)
def I2{E:aO}(hE:kW E){k:Nat}{s:Bs}{ts:List Nat}(hts:∀t∈ts,t=1∨t=2){t:Nat}(h:jT E k s ts=.ok t):t=1∨t=2:=by
 unfold jT at h;by_cases h1:k=1
 ·rw[if_pos h1]at h;simp only[Except.ok.injEq]at h;omega
 rw[if_neg h1]at h;by_cases h2:k=2
 ·rw[if_pos h2]at h;cases hl:fk E s with
  |none=>rw[hl]at h;simp at h
  |some u=>rw[hl]at h;simp only[Except.ok.injEq]at h;subst h;exact hE.kind _ (sZ hl)
 rw[if_neg h2]at h;by_cases h3:k=3
 ·rw[if_pos h3]at h;by_cases h0:yw s ts=0
  ·rw[if_pos h0]at h;simp at h
  ·rw[if_neg h0]at h;simp only[Except.ok.injEq]at h;subst h;exact N5 hts h0
 rw[if_neg h3]at h;by_cases h4:k=4
 ·rw[if_pos h4]at h;exact Jm h
 ·rw[if_neg h4]at h;simp at h
mutual
def qB{E:aO}(hE:kW E):∀{e:Ex} {t:Nat},lB E e=.ok t->t=1∨t=2
 | .mk k s n kids,t,h=>by
  simp only[lB]at h;cases hk:eA E kids with
  |error f=>rw[hk]at h;simp at h
  |ok ts=>rw[hk]at h;exact I2 hE (qz hE hk) h
def qz{E:aO}(hE:kW E):∀{l:List Ex} {ts:List Nat},eA E l=.ok ts->∀t∈ts,t=1∨t=2
 | [],ts,h=>by simp only[eA,Except.ok.injEq]at h;subst h;simp
 |e::l,ts,h=>by
  simp only[eA]at h;cases he:lB E e with
  |error f=>rw[he]at h;simp at h
  |ok t=>
   rw[he]at h;cases hl:eA E l with
   |error f=>rw[hl]at h;simp at h
   |ok us=>
    rw[hl]at h;simp only[Except.ok.injEq]at h;subst h;intro u hu;rcases List.mem_cons.1 hu with rfl|hu
    ·exact qB hE he
    ·exact qz hE hl u hu
end
def bB(s:Bs):aO->Option Nat
 | []=>none
 |x::l=>if x.1=s then some 0 else(bB s l).map (·+1)
def dc(E:aO)(k:Nat)(s:Bs)(t:Nat):Except Nat aO:=
 if k=1 then(if s∈E.map (·.1)then .error 110 else .ok (E++[(s,t)]))
 else if k=2 then(match bB s E with
  |none=>.error 110
  |some i=>if i<4 then .error 110 else match E[i]? with
   |some x=>if x.2=t then .ok E else .error 111
   |none=>.error 110)
 else if k=3∨k=4 then(if t=2 then .error 111 else .ok E)
 else if k=5 then(if t=1 then .error 111 else .ok E)
 else .ok E
def Ba(E:aO)(k:Nat)(s:Bs)(e:Ex):Except Nat aO:=match lB E e with
 | .error f=>.error f
 | .ok t=>dc E k s t
abbrev lY:=Nat×Int
def St.kind:St->Nat
 | .mk k _ _ _ _ _=>k
def St.line:St->Int
 | .mk _ _ _ _ _ n=>n
mutual
def xJ(E:aO):St->Except lY aO
 | .mk k s e body els line=>match Ba E k s e with
  | .error f=>.error (f,line)
  | .ok E'=>match ft E' false body with
   | .error f=>.error f
   | .ok _=>match ft E' false els with
    | .error f=>.error f
    | .ok _=>.ok E'
def ft(E:aO)(ret:Bool):List St->Except lY aO
 | []=>.ok E
 |x::l=>if ret then .error (113,x.line)else match xJ E x with
  | .error f=>.error f
  | .ok E'=>ft E' (decide (x.kind=5)) l
end
mutual
def Ev:St->Bool
 | .mk k _ _ body els _=>decide (k=5)||(decide (k=3)&&(gt body&&gt els))
def gt:List St->Bool
 | []=>false
 | [x]=>Ev x
 |_::y::l=>gt (y::l)
end
def dm(l:List St):lY:=if d8 l then (match ft ba false l with
  | .error f=>f
  | .ok _=>if gt l then(0,0)else(113,0))else(103,0)
def td{E E':aO}(hE:kW E){k:Nat}{s:Bs}{t:Nat}(ht:t=1∨t=2)(h:dc E k s t=.ok E'):kW E':=by
 unfold dc at h
 repeat' split at h
 all_goals first
  |(simp at h;done)
  |(simp only[Except.ok.injEq]at h;subst h;first|exact hE|exact hE.snoc ‹_› ht)
def NN{E E':aO}(hE:kW E){k:Nat}{s:Bs}{e:Ex}(h:Ba E k s e=.ok E'):kW E':=by
 unfold Ba at h;cases he:lB E e with
 |error f=>rw[he]at h;simp at h
 |ok t=>rw[he]at h;exact td hE (qB hE he) h
def jD{s:Bs}:∀{E:aO} {i:Nat},bB s E=some i->∃t,E[i]?=some (s,t)
 | [],i,h=>by simp[bB]at h
 |x::E,i,h=>by
  simp only[bB]at h;by_cases hx:x.1=s
  ·rw[if_pos hx]at h;simp only[sJ]at h;subst h;subst hx;exact⟨x.2,rfl⟩
  ·rw[if_neg hx]at h;cases hf:bB s E with
   |none=>rw[hf]at h;simp at h
   |some j=>rw[hf]at h;simp only[Option.map_some,sJ]at h;subst h;obtain⟨t,ht⟩:=jD hf;exact⟨t,by rw[XI];exact ht⟩
def gT{s:Bs}:∀{E:aO},bB s E=none↔s∉E.map (·.1)
 | []=>by simp[bB]
 |x::E=>by
  simp only[bB,List.map_cons,List.mem_cons,not_or];by_cases hx:x.1=s
  ·simp[hx]
  ·rw[if_neg hx,Option.map_eq_none_iff,gT];constructor
   ·intro h;exact⟨λe=>hx e.symm,h⟩
   ·intro h;exact h.2
open Go.Abs Go.Abs.S
structure JE where
 o:Nat
 a:Nat
 b:Nat
 c:Nat
structure Cs where
 code:List JE
 cons:List Int
 regs:Nat
def Cs.put(o a b c:Nat)(x:Cs):Cs:={ x with code:=x.code++[⟨o,a,b,c⟩] }
def yF(i n:Nat):List JE->List JE
 | []=>[]
 |x::l=>match i with
  |0=>{ x with c:=n }::l
  |i+1=>x::yF i n l
def Cs.land(i:Nat)(x:Cs):Cs:={ x with code:=yF i x.code.length x.code }
def Cs.use(r:Nat)(x:Cs):Cs:={ x with regs:=max x.regs (r+1) }
def eu(n:Int):List Int->Option Nat
 | []=>none
 |x::l=>if x=n then some 0 else(eu n l).map (·+1)
def Cs.con(n:Int)(x:Cs):Cs:=match eu n x.cons with
 |some _=>x
 |none=>{ x with cons:=x.cons++[n] }
def Cs.conI(n:Int)(x:Cs):Nat:=(eu n x.cons).getD x.cons.length
def mI(s:Bs)(E:aO):Nat:=(bB s E).getD 0
def fy(s:Bs):Nat:=(ew [([124,124],16),([38,38],15),([61,61],9),([33,61],10),([60,61],11),([62,61],12),([60],13),([62],14),([43],3),([45],4),([42],5)] s).getD 6
def lQ (s : Bs) : Nat := (ew [([118, 101, 99], 17), ([120], 18), ([121], 19), ([122], 20), ([100, 111, 116], 21), ([99, 114, 111, 115, 115], 22), ([117, 110, 105, 116], 23), ([115, 113, 114, 116], 24), ([115, 105, 110], 25),
   ([99, 111, 115], 26), ([97, 98, 115], 27), ([102, 108, 111, 111, 114], 28), ([109, 105, 110], 29), ([109, 97, 120], 30), ([115, 97, 109, 112, 108, 101], 31)] s).getD 0
def ef(E:aO)(e:Ex):Nat:=match lB E e with
 | .ok t=>t
 | .error _=>0
def wx(E:aO):List Ex->Nat
 | []=>0
 |e::_=>ef E e
def je(E:aO)(k:Nat)(s:Bs)(n:Int)(kids:List Ex)(r:Nat)(x:Cs):Cs:=
 if k=1 then(x.con n).put 1 r (x.conI n) 0
 else if k=2 then x.put 2 r (mI s E) 0
 else if k=3 then(if kids.length=1 then x.put (if s=[33]then 8 else 7) r r 0
  else if s=[42]/\wx E kids=2 then x.put 5 r (r+1) r else x.put (fy s) r r (r+1))
 else if k=4 then x.put (lQ s) r r (if kids.length=2 then r+1 else 0)
 else x
mutual
def cE(E:aO):Ex->Nat->Cs->Cs
 | .mk k s n kids,r,x=>je E k s n kids r (oi E kids r (x.use r))
def oi(E:aO):List Ex->Nat->Cs->Cs
 | [],_,x=>x
 |e::l,r,x=>oi E l (r+1) (cE E e r x)
end
def eo(E:aO):St->aO
 | .mk k s e _ _ _=>if k=1 then E++[(s,ef E e)]else E
mutual
def cS(E:aO):St->Cs->Cs
 | .mk k s e body els _,x=>
  let r:=E.length
  let y:=cE E e r x
  if k=1 then y
  else if k=2 then y.put 2 (mI s E) r 0
  else if k=3 then
   let z:=cL E body (y.put 33 r 0 0)
   if els.length=0 then z.land y.code.length
   else if gt body then cL E els (z.land y.code.length)
   else(cL E els ((z.put 32 0 0 0).land y.code.length)).land z.code.length
  else if k=4 then((cL E body (y.put 33 r 0 0)).put 32 0 0 x.code.length).land y.code.length
  else y.put 34 r 0 0
def cL(E:aO):List St->Cs->Cs
 | [],x=>x
 |s::l,x=>cL (eo E s) l (cS E s x)
end
def uo:Cs:=⟨[],[],4⟩
def WZ:Cs:=⟨[],[],0⟩
def cI(l:List St):Cs×lY:=if (dm l).1=0 then(if 250<(cL ba l uo).regs then(WZ,(102,0))else(cL ba l uo,(0,0)))else(WZ,dm l)
def oV(i n:Nat):∀l:List JE,(yF i n l).length=l.length:=by
 induction i with
 |zero=>intro l;cases l<;>rfl
 |succ i ih=>intro l;cases l with
  |nil=>rfl
  |cons x l=>simp only[yF,XB,ih]
def HC(E:aO)(m:List Ex):∀(l:List Ex) (r:Nat) (x:Cs),oi E (l++m) r x=oi E m (r+l.length) (oi E l r x)
 | [],r,x=>rfl
 |e::l,r,x=>by simp only[XQ,oi,HC E m l,XB];rw[show r+1+l.length=r+(l.length+1) by omega]
def rC(n:Int)(x:Cs):(x.con n).code=x.code/\(x.con n).regs=x.regs/\(x.con n).cons.length<=x.cons.length+1:=by unfold Cs.con;cases eu n x.cons<;>simp
def I1(E:aO)(k:Nat)(s:Bs)(n:Int)(kids:List Ex)(r:Nat)(x:Cs) :
  (je E k s n kids r x).code.length<=x.code.length+1/\(je E k s n kids r x).cons.length<=x.cons.length+1/\(je E k s n kids r x).regs=x.regs:=by
 obtain⟨h1,h2,h3⟩:=rC n x;unfold je
 repeat' split
 all_goals simp only[Cs.put,lA,XB,XC,h1,h2]
 all_goals refine⟨om,om,by first|rfl|trivial⟩
mutual
def AO(E:aO):∀(e:Ex) (r:Nat) (x:Cs),(cE E e r x).code.length<=x.code.length+e.size/\(cE E e r x).cons.length<=x.cons.length+e.size/\(cE E e r x).regs<=max x.regs (r+e.size)
 | .mk k s n kids,r,x=>by have h:=I1 E k s n kids r (oi E kids r (x.use r));have g:=uM E kids r (x.use r);have u:(x.use r).regs=max x.regs (r+1):=rfl;have u1:(x.use r).code=x.code:=rfl;have u2:(x.use r).cons=x.cons:=rfl;simp only[cE,Ex.size];rw[u,u1,u2]at g;refine⟨om,om,om⟩
def uM(E:aO):∀(l:List Ex) (r:Nat) (x:Cs),(oi E l r x).code.length<=x.code.length+aU l/\(oi E l r x).cons.length<=x.cons.length+aU l/\(oi E l r x).regs<=max x.regs (r+aU l)
 | [],r,x=>by simp only[oi,aU];refine⟨om,om,om⟩
 |e::l,r,x=>by
  have h:=AO E e r x;have g:=uM E l (r+1) (cE E e r x);have p:0<e.size:=by cases e;simp only[Ex.size];omega
  simp only[oi,aU];refine⟨om,om,om⟩
end
def lM(E:aO)(s:St):(eo E s).length<=E.length+1/\E.length<=(eo E s).length:=by cases s;simp only[eo];split<;>simp
mutual
def FF(E:aO):∀(s:St) (x:Cs),(cS E s x).code.length<=x.code.length+3*s.size/\(cS E s x).cons.length<=x.cons.length+s.size/\(cS E s x).regs<=max x.regs (E.length+s.size)
 | .mk k s e body els line,x=>by
  have h:=AO E e E.length x;have p:0<e.size:=by cases e;simp only[Ex.size];omega
  have b:=mB E body ((cE E e E.length x).put 33 E.length 0 0);have pl:∀(y:Cs) (o a b c:Nat),(y.put o a b c).code.length=y.code.length+1/\(y.put o a b c).cons=y.cons/\(y.put o a b c).regs=y.regs:=by intro y o a b c;simp[Cs.put]
  have ll:∀(y:Cs) (i:Nat),(y.land i).code.length=y.code.length/\(y.land i).cons=y.cons/\(y.land i).regs=y.regs:=by intro y i;simp[Cs.land,oV]
  simp only[cS,St.size];simp only[pl]at b;split
  ·refine⟨om,om,om⟩
  split
  ·simp only[pl];refine⟨om,om,om⟩
  split
  ·split
   ·simp only[ll];refine⟨om,om,om⟩
   split
   ·have c:=mB E els ((cL E body ((cE E e E.length x).put 33 E.length 0 0)).land (cE E e E.length x).code.length);simp only[ll]at c;refine⟨om,om,om⟩
   ·have c:=mB E els (((cL E body ((cE E e E.length x).put 33 E.length 0 0)).put 32 0 0 0).land (cE E e E.length x).code.length);simp only[ll,pl]at c ⊢;refine⟨om,om,om⟩
  split
  ·simp only[ll,pl];refine⟨om,om,om⟩
  ·simp only[pl];refine⟨om,om,om⟩
def mB(E:aO):∀(l:List St) (x:Cs),(cL E l x).code.length<=x.code.length+3*au l/\(cL E l x).cons.length<=x.cons.length+au l/\(cL E l x).regs<=max x.regs (E.length+au l)
 | [],x=>by simp only[cL,au];refine⟨om,om,om⟩
 |s::l,x=>by
  have h:=FF E s x;have g:=mB (eo E s) l (cS E s x);have n:=lM E s;have p:0<s.size:=by cases s;simp only[St.size];omega
  simp only[cL,au];refine⟨om,om,om⟩
end
open Go.Abs Go.Abs.S
def rZ(P:Nat->Prop)(H:aa)(m:Nat)(v:ae)(k:Nat)(C:List ae):Prop:=(Q7 v=true/\k=0/\C=[])∨∃b low r,v=.slice (some ⟨b,C.length,0⟩) k r/\P b/\H.get b=some (.cells C low false)/\low<=C.length/\C.length=m*k
def rZ.sl{P:Nat->Prop}{H:aa}{m k:Nat}{v:ae}{C:List ae}(h:rZ P H m v k C):eM P H m v k C:=by
 rcases h with h|⟨b,low,r,h1,h2,h3,h4,h5⟩
 ·exact .inl h
 ·refine .inr ⟨_,r,h1,h2,?_⟩;rw[<- h5];exact fA h3 h4
def rZ.mono{P Q:Nat->Prop}{H H':aa}{m k:Nat}{v:ae}{C:List ae}(h:rZ P H m v k C)(q:∀b,P b->Q b/\H'.get b=H.get b):rZ Q H' m v k C:=by
 rcases h with h|⟨b,low,r,h1,h2,h3,h4,h5⟩
 ·exact .inl h
 ·exact .inr ⟨b,low,r,h1,(q b h2).1,(q b h2).2.trans h3,h4,h5⟩
def rZ.app{P:Nat->Prop}{H:aa}{m k:Nat}{v:ae}{C:List ae}(h:jy m 0 H v C k)(hb:bx v P):rZ P H m v k C:=by
 rcases h with⟨rfl,rfl,rfl⟩|⟨b,low,rfl,h2,h3,h4,h5,h6,h7⟩
 ·exact .inl ⟨rfl,rfl,rfl⟩
 ·exact .inr ⟨b,low,_,rfl,hb _ _ _ rfl,h5,h6,h2⟩
def rZ.row{P:Nat->Prop}{H:aa}{m k n:Nat}{b:Nat}{r:xj}{C:List ae}(h:be H b C)(hn:C.length=n)(hk:m*k=n)(hp:P b):rZ P H m (.slice (some ⟨b,n,0⟩) k r) k C:=by subst hn;obtain⟨low,h1,h2⟩:=h;exact .inr ⟨b,low,r,rfl,hp,h1,h2,hk.symm⟩
def rZ.one{P:Nat->Prop}{H:aa}{m k:Nat}{v:ae}{C:List ae}(h:rZ P H m v k C):v.one=true:=h.sl.one
def rZ.aeq{P:Nat->Prop}{H:aa}{m k:Nat}{v:ae}{C:List ae}(h:rZ P H m v k C):aeq v v=true:=h.sl.aeq
def rZ.nil(P:Nat->Prop)(H:aa)(m:Nat):rZ P H m aX 0 []:=.inl ⟨rfl,rfl,rfl⟩
mutual
def mL(P:Nat->Prop)(H:aa):Ex->List ae->Prop
 | .mk k s n kids,c=>∃v C,c=[.int .u8 (k:Int),.str s,.int .i64 n,v]/\rZ P H 4 v kids.length C/\ed P H kids C
def ed(P:Nat->Prop)(H:aa):List Ex->List ae->Prop
 | [],C=>C=[]
 |e::l,C=>∃c D,C=c++D/\mL P H e c/\ed P H l D
end
mutual
def mL.xe{P:Nat->Prop}{H:aa}:∀{e:Ex} {c:List ae},mL P H e c->XE P H e c
 | .mk _ _ _ _,_,⟨v,C,h1,h2,h3⟩=>⟨v,C,h1,h2.sl,ed.xes h3⟩
def ed.xes{P:Nat->Prop}{H:aa}:∀{l:List Ex} {C:List ae},ed P H l C->FY P H l C
 | [],_,h=>h
 |_::_,_,⟨c,D,h1,h2,h3⟩=>⟨c,D,h1,mL.xe h2,ed.xes h3⟩
end
mutual
def mL.mono{P Q:Nat->Prop}{H H':aa}(q:∀b,P b->Q b/\H'.get b=H.get b):∀{e:Ex} {c:List ae},mL P H e c->mL Q H' e c
 | .mk _ _ _ _,_,⟨v,C,h1,h2,h3⟩=>⟨v,C,h1,h2.mono q,ed.mono q h3⟩
def ed.mono{P Q:Nat->Prop}{H H':aa}(q:∀b,P b->Q b/\H'.get b=H.get b):∀{l:List Ex} {C:List ae},ed P H l C->ed Q H' l C
 | [],_,h=>h
 |_::_,_,⟨c,D,h1,h2,h3⟩=>⟨c,D,h1,mL.mono q h2,ed.mono q h3⟩
end
def mL.len{P:Nat->Prop}{H:aa}{e:Ex}{c:List ae}(h:mL P H e c):c.length=4:=h.xe.len
def mL.one{P:Nat->Prop}{H:aa}{e:Ex}{c:List ae}(h:mL P H e c):c.all ae.one=true:=h.xe.one
def mL.aeqs{P:Nat->Prop}{H:aa}{e:Ex}{c:List ae}(h:mL P H e c):aeqs c c=true:=h.xe.aeqs
def ed.len{P:Nat->Prop}{H:aa}{l:List Ex}{C:List ae}(h:ed P H l C):C.length=4*l.length:=h.xes.len
def ed.app{P:Nat->Prop}{H:aa}{l':List Ex}{C':List ae}(h':ed P H l' C'):∀{l:List Ex} {C:List ae},ed P H l C->ed P H (l++l') (C++C')
 | [],_,h=>by rw[show _=[]from h];exact h'
 |_::l,_,⟨c,D,h1,h2,h3⟩=>⟨c,D++C',by rw[h1,List.append_assoc],h2,ed.app h' h3⟩
def ed.sing{P:Nat->Prop}{H:aa}{e:Ex}{c:List ae}(h:mL P H e c):ed P H [e] c:=⟨c,[],by simp,h,rfl⟩
def ed.at{P:Nat->Prop}{H:aa}:∀{l:List Ex} {C:List ae},ed P H l C->∀{i:Nat} {e:Ex},l[i]?=some e->mL P H e ((C.drop (i*4)).take 4)
 | [],_,_,i,e,hi=>by simp at hi
 |x::l,_,⟨c,D,h1,h2,h3⟩,i,e,hi=>by
  subst h1;have hl:=h2.len;cases i with
  |zero=>simp only[XH,sJ]at hi;subst hi;rw[Nat.zero_mul,List.drop_zero,List.take_append_of_le_length om,List.take_of_length_le om];exact h2
  |succ i=>rw[XI]at hi;have:=ed.at h3 hi;rw[show(i+1)*4=c.length+i*4 by omega,List.drop_append,List.drop_of_length_le om,List.nil_append,show c.length+i*4-c.length=i*4 by omega];exact this
def rZ.same{P Q:Nat->Prop}{H:aa}{m k k':Nat}{v:ae}{C C':List ae}(h:rZ P H m v k C)(h':rZ Q H m v k' C'):k=k'/\C=C':=by
 rcases h with⟨h1,h2,h3⟩|⟨b,low,r,h1,h2,h3,h4,h5⟩
 ·rcases h' with⟨_,g2,g3⟩|⟨b,low,r,g1,g2,g3,g4,g5⟩
  ·exact⟨h2.trans g2.symm,h3.trans g3.symm⟩
  ·rcases gS h1 with e|⟨a,e⟩<;>rw[e]at g1<;>simp[aX]at g1
 ·rcases h' with⟨g1,g2,g3⟩|⟨b',low',r',g1,g2,g3,g4,g5⟩
  ·rcases gS g1 with e|⟨a,e⟩<;>rw[e]at h1<;>simp[aX]at h1
  ·rw[h1]at g1;simp only[ae.slice.injEq,sJ,Ad.mk.injEq]at g1;obtain⟨⟨rfl,_,_⟩,rfl,_⟩:=g1;rw[h3]at g3;simp only[sJ,di.cells.injEq]at g3;exact⟨rfl,g3.1⟩
mutual
def mL.same{P Q:Nat->Prop}{H:aa}:∀{e e':Ex} {c:List ae},mL P H e c->mL Q H e' c->e=e'
 | .mk k s n kids,.mk k' s' n' kids',c,⟨v,C,h1,h2,h3⟩,⟨v',C',g1,g2,g3⟩=>by rw[h1]at g1;simp only[List.cons.injEq,ae.int.injEq,true_and,ae.str.injEq,and_true]at g1;obtain⟨q1,q2,q3,q4⟩:=g1;subst q4;obtain⟨q5,rfl⟩:=h2.same g2;rw[ed.same q5 h3 g3,q2,q3,show k=k' by omega]
def ed.same{P Q:Nat->Prop}{H:aa}:∀{l l':List Ex} {C:List ae},l.length=l'.length->ed P H l C->ed Q H l' C->l=l'
 | [],[],_,_,_,_=>rfl
 | [],_::_,_,h,_,_=>by simp at h
 |_::_,[],_,h,_,_=>by simp at h
 |e::l,e'::l',C,h,⟨c,D,h1,h2,h3⟩,⟨c',D',g1,g2,g3⟩=>by rw[h1]at g1;obtain⟨rfl,rfl⟩:=List.append_inj g1 (h2.len.trans g2.len.symm);rw[mL.same h2 g2,ed.same (by simpa using h) h3 g3]
end
mutual
def uU(P:Nat->Prop)(H:aa):St->List ae->Prop
 | .mk k s e body els line,c=>∃ce vb Cb ve Ce,c=.int .u8 (k:Int)::.str s::(ce++[vb,ve,.int .i64 line])/\mL P H e ce/\eM P H 9 vb body.length Cb/\dY P H body Cb/\eM P H 9 ve els.length Ce/\dY P H els Ce
def dY(P:Nat->Prop)(H:aa):List St->List ae->Prop
 | [],C=>C=[]
 |e::l,C=>∃c D,C=c++D/\uU P H e c/\dY P H l D
end
mutual
def uU.xs{P:Nat->Prop}{H:aa}:∀{e:St} {c:List ae},uU P H e c->XS P H e c
 | .mk _ _ _ _ _ _,_,⟨ce,vb,Cb,ve,Ce,h1,h2,h3,h4,h5,h6⟩=>⟨ce,vb,Cb,ve,Ce,h1,h2.xe,h3,dY.xss h4,h5,dY.xss h6⟩
def dY.xss{P:Nat->Prop}{H:aa}:∀{l:List St} {C:List ae},dY P H l C->lV P H l C
 | [],_,h=>h
 |_::_,_,⟨c,D,h1,h2,h3⟩=>⟨c,D,h1,uU.xs h2,dY.xss h3⟩
end
mutual
def uU.mono{P Q:Nat->Prop}{H H':aa}(q:∀b,P b->Q b/\H'.get b=H.get b):∀{e:St} {c:List ae},uU P H e c->uU Q H' e c
 | .mk _ _ _ _ _ _,_,⟨ce,vb,Cb,ve,Ce,h1,h2,h3,h4,h5,h6⟩=>⟨ce,vb,Cb,ve,Ce,h1,h2.mono q,h3.mono q,dY.mono q h4,h5.mono q,dY.mono q h6⟩
def dY.mono{P Q:Nat->Prop}{H H':aa}(q:∀b,P b->Q b/\H'.get b=H.get b):∀{l:List St} {C:List ae},dY P H l C->dY Q H' l C
 | [],_,h=>h
 |_::_,_,⟨c,D,h1,h2,h3⟩=>⟨c,D,h1,uU.mono q h2,dY.mono q h3⟩
end
def uU.one{P:Nat->Prop}{H:aa}{e:St}{c:List ae}(h:uU P H e c):c.all ae.one=true:=h.xs.one
def uU.len{P:Nat->Prop}{H:aa}{e:St}{c:List ae}(h:uU P H e c):c.length=9:=h.xs.len
def uU.aeqs{P:Nat->Prop}{H:aa}{e:St}{c:List ae}(h:uU P H e c):aeqs c c=true:=h.xs.aeqs
def dY.len{P:Nat->Prop}{H:aa}{l:List St}{C:List ae}(h:dY P H l C):C.length=9*l.length:=h.xss.len
def dY.app{P:Nat->Prop}{H:aa}{l':List St}{C':List ae}(h':dY P H l' C'):∀{l:List St} {C:List ae},dY P H l C->dY P H (l++l') (C++C')
 | [],_,h=>by rw[show _=[]from h];exact h'
 |_::l,_,⟨c,D,h1,h2,h3⟩=>⟨c,D++C',by rw[h1,List.append_assoc],h2,dY.app h' h3⟩
def dY.sing{P:Nat->Prop}{H:aa}{e:St}{c:List ae}(h:uU P H e c):dY P H [e] c:=⟨c,[],by simp,h,rfl⟩
def dY.at{P:Nat->Prop}{H:aa}:∀{l:List St} {C:List ae},dY P H l C->∀{i:Nat} {e:St},l[i]?=some e->uU P H e ((C.drop (i*9)).take 9)
 | [],_,_,i,e,hi=>by simp at hi
 |x::l,_,⟨c,D,h1,h2,h3⟩,i,e,hi=>by
  subst h1;have hl:=h2.xs.len;cases i with
  |zero=>simp only[XH,sJ]at hi;subst hi;rw[Nat.zero_mul,List.drop_zero,List.take_append_of_le_length om,List.take_of_length_le om];exact h2
  |succ i=>rw[XI]at hi;have:=dY.at h3 hi;rw[show(i+1)*9=c.length+i*9 by omega,List.drop_append,List.drop_of_length_le om,List.nil_append,show c.length+i*9-c.length=i*9 by omega];exact this
def zQ(n:Nat)(H:aa)(v:ae)(l:List Ex):Prop:=∃C,jy 4 0 H v C l.length/\bx v (In n H.next)/\ed (λc=>In n H.next c/\bx v (c≠·)) H l C
def zQ.nil(n:Nat)(H:aa):zQ n H aX []:=⟨[],.nil _ _ _,cP _,rfl⟩
def zQ.keep{n:Nat}{H H':aa}{v:ae}{l:List Ex}(h:zQ n H v l)(hn:H.next<=H'.next)(e:∀c,In n H.next c->H'.get c=H.get c):zQ n H' v l:=by obtain⟨C,h1,h2,h3⟩:=h;exact⟨C,h1.same hn (h2.mono λb hb=>e b hb),h2.mono λb hb=>⟨hb.1,XL hb.2 hn⟩,h3.mono λb hb=>⟨⟨⟨hb.1.1,XL hb.1.2 hn⟩,hb.2⟩,e b hb.1⟩⟩
def zQ.sl{n:Nat}{H:aa}{v:ae}{l:List Ex}(h:zQ n H v l):∃C,rZ (In n H.next) H 4 v l.length C/\ed (In n H.next) H l C:=by obtain⟨C,h1,h2,h3⟩:=h;exact⟨C,.app h1 h2,h3.mono λb hb=>⟨hb.1,rfl⟩⟩
def zQ.push{n m:Nat}{H:aa}{v:ae}{l:List Ex}(h:zQ n H v l){e:Ex}{xs:List ae}(hx:mL (In m H.next) H e xs)(hm:n<=m)(hn:n<=H.next)(hv:bx v (·<m))(hl:l.length<=1000000){bytes:Nat}(hb1:0<bytes)(hb2:bytes<=1000) :
  ∃v' H',a8 4 bytes (H.push (.cells xs 0 false)) v (pU H 4)=some (v',H')/\zQ n H' v' (l++[e])/\H.next<=H'.next/\∀c,c<H.next->bx v (c≠·)->H'.get c=H.get c:=by
 obtain⟨C,h1,h2,h3⟩:=h;have hb:2*(l.length+1)*bytes<=281474976710656:=by have:2*(l.length+1)*bytes<=2*(1000000+1)*1000:=Nat.mul_le_mul om hb2;omega
 obtain⟨v',H',a1,a2,a3,a4,a5⟩:=h1.pushB hx.len hx.xe.one om hb hb1;have k:∀c,In n H.next c->bx v (c≠·)->In n H'.next c/\bx v' (c≠·):=by
  intro c hc hd;refine⟨⟨hc.1,XL hc.2 a3⟩,(a4 _ hd).mono λb hb=>?_⟩;rcases hb with hb|hb
  ·exact hb
  ·have:=hc.2;omega
 refine⟨v',H',a1,⟨C++xs,by rw[lA];exact a2,?_,ed.app (ed.sing ?_) ?_⟩,a3,a5⟩
 ·intro a j r e;refine⟨?_,a2.blk' a j r e⟩;rcases(a4 _ h2) a j r e with hb|hb
  ·exact hb.1
  ·omega
 ·refine hx.mono λb hb=>⟨?_,a5 b hb.2 ?_⟩
  ·exact k b ⟨Nat.le_trans hm hb.1,hb.2⟩ (hv.mono λc hc=>by have:=hb.1;omega)
  ·exact hv.mono λc hc=>by have:=hb.1;omega
 ·exact h3.mono λb hb=>⟨k b hb.1 hb.2,a5 b hb.1.2 hb.2⟩
def qv(n:Nat)(H:aa)(v:ae)(l:List St):Prop:=∃C,jy 9 0 H v C l.length/\bx v (In n H.next)/\dY (λc=>In n H.next c/\bx v (c≠·)) H l C
def qv.nil(n:Nat)(H:aa):qv n H aX []:=⟨[],.nil _ _ _,cP _,rfl⟩
def qv.keep{n:Nat}{H H':aa}{v:ae}{l:List St}(h:qv n H v l)(hn:H.next<=H'.next)(e:∀c,In n H.next c->H'.get c=H.get c):qv n H' v l:=by obtain⟨C,h1,h2,h3⟩:=h;exact⟨C,h1.same hn (h2.mono λb hb=>e b hb),h2.mono λb hb=>⟨hb.1,XL hb.2 hn⟩,h3.mono λb hb=>⟨⟨⟨hb.1.1,XL hb.1.2 hn⟩,hb.2⟩,e b hb.1⟩⟩
def qv.sl{n:Nat}{H:aa}{v:ae}{l:List St}(h:qv n H v l):∃C,eM (In n H.next) H 9 v l.length C/\dY (In n H.next) H l C:=by obtain⟨C,h1,h2,h3⟩:=h;exact⟨C,.app h1 h2,h3.mono λb hb=>⟨hb.1,rfl⟩⟩
def qv.push{n m:Nat}{H:aa}{v:ae}{l:List St}(h:qv n H v l){e:St}{xs:List ae}(hx:uU (In m H.next) H e xs)(hm:n<=m)(hn:n<=H.next)(hv:bx v (·<m))(hl:l.length<=1000000){bytes:Nat}(hb1:0<bytes)(hb2:bytes<=1000) :
  ∃v' H',a8 9 bytes (H.push (.cells xs 0 false)) v (pU H 9)=some (v',H')/\qv n H' v' (l++[e])/\H.next<=H'.next/\∀c,c<H.next->bx v (c≠·)->H'.get c=H.get c:=by
 obtain⟨C,h1,h2,h3⟩:=h;have hb:2*(l.length+1)*bytes<=281474976710656:=by have:2*(l.length+1)*bytes<=2*(1000000+1)*1000:=Nat.mul_le_mul om hb2;omega
 obtain⟨v',H',a1,a2,a3,a4,a5⟩:=h1.pushB hx.xs.len hx.xs.one om hb hb1;have k:∀c,In n H.next c->bx v (c≠·)->In n H'.next c/\bx v' (c≠·):=by
  intro c hc hd;refine⟨⟨hc.1,XL hc.2 a3⟩,(a4 _ hd).mono λb hb=>?_⟩;rcases hb with hb|hb
  ·exact hb
  ·have:=hc.2;omega
 refine⟨v',H',a1,⟨C++xs,by rw[lA];exact a2,?_,dY.app (dY.sing ?_) ?_⟩,a3,a5⟩
 ·intro a j r e;refine⟨?_,a2.blk' a j r e⟩;rcases(a4 _ h2) a j r e with hb|hb
  ·exact hb.1
  ·omega
 ·refine hx.mono λb hb=>⟨?_,a5 b hb.2 ?_⟩
  ·exact k b ⟨Nat.le_trans hm hb.1,hb.2⟩ (hv.mono λc hc=>by have:=hb.1;omega)
  ·exact hv.mono λc hc=>by have:=hb.1;omega
 ·exact h3.mono λb hb=>⟨k b hb.1 hb.2,a5 b hb.1.2 hb.2⟩
open Go.Abs Go.Abs.S
noncomputable section
set_option maxRecDepth 100000
def c9:cf:=by
 refine(λx (_:cN Tryz.prog 9=some x)=>x) ?a ?b
 case b=>cbv;rfl
def za9:cN Tryz.prog 9=some c9:=by kernel_rfl
def Xg:cf:=by
 refine(λx (_:cN Tryz.prog 30=some x)=>x) ?a ?b
 case b=>cbv;rfl
def WE:cN Tryz.prog 30=some Xg:=by kernel_rfl
def W9:cf:=by
 refine(λx (_:cN Tryz.prog 59=some x)=>x) ?a ?b
 case b=>cbv;rfl
def Sw:cN Tryz.prog 59=some W9:=by kernel_rfl
def c70:cf:=by
 refine(λx (_:cN Tryz.prog 70=some x)=>x) ?a ?b
 case b=>cbv;rfl
def V6:cN Tryz.prog 70=some c70:=by kernel_rfl
def Xa:cf:=by
 refine(λx (_:cN Tryz.prog 58=some x)=>x) ?a ?b
 case b=>cbv;rfl
def Wg:cN Tryz.prog 58=some Xa:=by kernel_rfl
def W2:cf:=⟨9,zq [zo 4 (.mv (.c (.bool false)))] (zq [zm 5 0,zm 6 1,zx 7 130 [.t 5,.t 6],zk 8 .geq 7 0,zm 4 8] .ret),[.t 4]⟩
def Ss:cN Tryz.prog 99=some W2:=by kernel_rfl
def RI:cf:=by
 refine(λx (_:cN Tryz.prog 130=some x)=>x) ?a ?b
 case b=>cbv;rfl
def Pw:cN Tryz.prog 130=some RI:=by kernel_rfl
def c61:cf:=by
 refine(λx (_:cN Tryz.prog 61=some x)=>x) ?a ?b
 case b=>cbv;rfl
def Wf:cN Tryz.prog 61=some c61:=by kernel_rfl
def c31:cf:=⟨29,zq [zo 2 (.mv (.c (.bool false)))] (.seq (.draw [zm 6 0,zc 7 6,zf 8 0 7,zl 9 8,zm 10 0,zc 11 10,zf 12 1 11,zf 13 5 12,zl 14 13,zx 15 62 [.t 9,.t 14],zm 5 15,ze 16 0 5,ze 17 1 5,zo 3 (.new [zU 0,.str [],zI 0,zI 0,zI 0,zI 0]),zo 4 (.new [zI 0,zI 0]),zp (.store 6 (.t 3) (.t 16)),zp (.store 2 (.t 4) (.t 17))] [[],[],[],[],[],[],[],[],[],[],[],[],[],[9],[9],[],[]]) (zr [zf 18 0 4,zl 19 18,zk 20 .neq 19 0] 20 (zq [zm 21 0,zt 22 2 4,zc 23 21,zf 24 8 23,zp (.store 2 (.t 24) (.t 22))] (zq [zo 2 (.mv (.c (.bool false)))] .ret)) .skip (zq [zm 25 0,zt 26 6 3,zc 27 25,zf 28 1 27,zp (.store 6 (.t 28) (.t 26))] (zq [zo 2 (.mv (.c (.bool true)))] .ret)))),[.t 2]⟩
def WC:cN Tryz.prog 31=some c31:=by kernel_rfl
def Vj:cf:=by
 refine(λx (_:cN Tryz.prog 100=some x)=>x) ?a ?b
 case b=>cbv;rfl
def T4:cN Tryz.prog 100=some Vj:=by kernel_rfl
def c69:cf:=by
 refine(λx (_:cN Tryz.prog 69=some x)=>x) ?a ?b
 case b=>cbv;rfl
def V7:cN Tryz.prog 69=some c69:=by kernel_rfl
def c29:cf:=by
 refine(λx (_:cN Tryz.prog 29=some x)=>x) ?a ?b
 case b=>cbv;rfl
def WF:cN Tryz.prog 29=some c29:=by kernel_rfl
def c57:cf:=by
 refine(λx (_:cN Tryz.prog 57=some x)=>x) ?a ?b
 case b=>cbv;rfl
def Wh:cN Tryz.prog 57=some c57:=by kernel_rfl
def Xf:cf:=by
 refine(λx (_:cN Tryz.prog 32=some x)=>x) ?a ?b
 case b=>cbv;rfl
def WB:cN Tryz.prog 32=some Xf:=by kernel_rfl
def W8:cf:=by
 refine(λx (_:cN Tryz.prog 64=some x)=>x) ?a ?b
 case b=>cbv;rfl
def Wc:cN Tryz.prog 64=some W8:=by kernel_rfl
def W7:cf:=by
 refine(λx (_:cN Tryz.prog 65=some x)=>x) ?a ?b
 case b=>cbv;rfl
def Wb:cN Tryz.prog 65=some W7:=by kernel_rfl
def c68:cf:=by
 refine(λx (_:cN Tryz.prog 68=some x)=>x) ?a ?b
 case b=>cbv;rfl
def V8:cN Tryz.prog 68=some c68:=by kernel_rfl
def c66:cf:=by
 refine(λx (_:cN Tryz.prog 66=some x)=>x) ?a ?b
 case b=>cbv;rfl
def Wa:cN Tryz.prog 66=some c66:=by kernel_rfl
def c67:cf:=by
 refine(λx (_:cN Tryz.prog 67=some x)=>x) ?a ?b
 case b=>cbv;rfl
def V9:cN Tryz.prog 67=some c67:=by kernel_rfl
def Qe:cf:=⟨8,.reg [zl 1 0,zc 2 1,zf 3 7 2,zl 4 3,zk 5 .sub 4 1,zc 6 1,zf 7 7 6,zs 7 5],[]⟩
def Qy:cN Tryz.prog 3132=some Qe:=by kernel_rfl
def Qd:cf:=⟨8,.reg [zl 1 0,zc 2 1,zf 3 7 2,zl 4 3,zk 5 .sub 4 1,zc 6 1,zf 7 7 6,zs 7 5],[]⟩
def Qx:cN Tryz.prog 3135=some Qd:=by kernel_rfl
end
open Go.Abs Go.Abs.S
def iE(z:List ae):xA z none=.cells z 0 false:=_root_.id rfl
def j6(b:Nat)(z z':List ae)(s:Option (Nat×Nat)):AG b z s (.new z')=.claim b z s:=_root_.id rfl
def lG{α:Type}(a b:α):∀(f:Nat) (t:Tr α) (k:Nat),Tr.setF b f (Tr.setF a f t k) k=Tr.setF b f t k
 |0,_,_=>rfl
 |f+1,.e,k=>by
  cases h:Nat.beq k 0 with
  |true=>simp only[Tr.setF,h,cond_true]
  |false=>
   cases h2:Nat.beq (k % 2) 1 with
   |true=>simp only[Tr.setF,h,h2,cond_true,cond_false,lG a b f]
   |false=>simp only[Tr.setF,h,h2,cond_false,lG a b f]
 |f+1,.n l o r,k=>by
  cases h:Nat.beq k 0 with
  |true=>simp only[Tr.setF,h,cond_true]
  |false=>
   cases h2:Nat.beq (k % 2) 1 with
   |true=>simp only[Tr.setF,h,h2,cond_true,cond_false,lG a b f]
   |false=>simp only[Tr.setF,h,h2,cond_false,lG a b f]
def Kx(H:aa)(A B:di):(H.push A).set H.next B=H.push B:=by show aa.mk _ _=aa.mk _ _;congr 1;exact lG A B _ _ _
def jF(b b':Nat)(k:lX)(z:List ae)(s:Option (Nat×Nat))(xs:List bW):AG b z s (.hf (.fill b' k) xs)=.hf (.fill b k) xs:=_root_.id rfl
def LM{H:aa}{len:Nat}{z:List ae}{ofs:List (Nat×Nat)}{l xs:List ae}(h:kV (BS z len) (Ip ofs l)=some xs):kj (.fill H.next (.lit len z ofs)) (H.push (.cells [] 0 false)) l=some (.slice (some ⟨H.next,xs.length,0⟩) len (.known len),H.push (.cells xs 0 false)):=by
 have g:(H.push (.cells [] 0 false)).get H.next=some (.cells [] 0 false):=by rw[aa.get_push,if_pos rfl]
 simp only[kj,iL,g,pD,h,Kx]
def du(s:Bs)(w:Wd)(g x y:Int)(orv:ae):List ae:=.str s::(iN w.k w.S w.n w.line w.at_ w.en++[.int .i64 g,.int .i64 x,.int .i64 y,orv])
structure Fp(pb:Nat)(H H':aa):Prop where
 next:H.next<=H'.next
 old:∀c,c<H.next->c≠pb->H'.get c=H.get c
def Fp.refl(pb:Nat)(H:aa):Fp pb H H:=⟨Nat.le_refl _,λ_ _ _=>rfl⟩
def Fp.trans{pb:Nat}{H H' H2:aa}(a:Fp pb H H')(b:Fp pb H' H2):Fp pb H H2:=⟨Nat.le_trans a.next b.next,λc h1 h2=>by rw[b.old c (XL h1 a.next) h2,a.old c h1 h2]⟩
def vX{s:Bs}{p:Nat}{w:Wd}(h:fC s p=.ok w):gR s (p:Int)=eh (iN w.k w.S w.n w.line w.at_ w.en) (jt 0 0):=by
 unfold fC at h;unfold gR;by_cases a1:16384<s.length
 ·rw[if_pos a1]at h;first|(simp at h;done)|(simp only[Except.error.injEq]at h;subst h;rw[if_pos a1])
 rw[if_neg a1]at h ⊢;by_cases a2:s.length<p
 ·rw[if_pos a2]at h;have a2':(p:Int)<0∨(s.length:Int)<(p:Int):=.inr om
  first|(simp at h;done)|(simp only[Except.error.injEq]at h;subst h;rw[if_pos a2'])
 have a2':¬((p:Int)<0∨(s.length:Int)<(p:Int)):=om;rw[if_neg a2]at h;rw[if_neg a2',Int.toNat_natCast];by_cases a3:bI s p=s.length
 ·rw[if_pos a3]at h ⊢
  first|(simp at h;done)|(simp only[Except.ok.injEq]at h;subst h;rfl)
 rw[if_neg a3]at h ⊢;split at h<;>first|(simp at h;done)|skip
 rename_i ht
 first|simp only[Except.ok.injEq]at h|simp only[Except.error.injEq]at h
 subst h;simp only[ht]
def sP{s:Bs}{p:Nat}{e:JG}(h:fC s p=.error e):gR s (p:Int)=eh (iN 0 [] 0 0 0 0) (jt e.1 e.2):=by
 unfold fC at h;unfold gR;by_cases a1:16384<s.length
 ·rw[if_pos a1]at h;first|(simp at h;done)|(simp only[Except.error.injEq]at h;subst h;rw[if_pos a1])
 rw[if_neg a1]at h ⊢;by_cases a2:s.length<p
 ·rw[if_pos a2]at h;have a2':(p:Int)<0∨(s.length:Int)<(p:Int):=.inr om
  first|(simp at h;done)|(simp only[Except.error.injEq]at h;subst h;rw[if_pos a2'])
 have a2':¬((p:Int)<0∨(s.length:Int)<(p:Int)):=om;rw[if_neg a2]at h;rw[if_neg a2',Int.toNat_natCast];by_cases a3:bI s p=s.length
 ·rw[if_pos a3]at h ⊢
  first|(simp at h;done)|(simp only[Except.ok.injEq]at h;subst h;rfl)
 rw[if_neg a3]at h ⊢;split at h<;>first|(simp at h;done)|skip
 rename_i ht
 first|simp only[Except.ok.injEq]at h|simp only[Except.error.injEq]at h
 subst h;simp only[ht]
def bQ{H:aa}{b n:Nat}{l l':List ae}(h:be H b l)(hn:l.length=n){i:Nat}(hi:i<n){x:ae}(hx:x.one=true)(e:l.set i x=l') :
  ∃H',bh 1 H (ah b n i) x=some H'/\be H' b l'/\H'.next=H.next/\∀c,c≠b->H'.get c=H.get c:=by
 subst e;exact cD h hn hi hx
def oO{H:aa}{b n:Nat}{l l':List ae}(h:be H b l)(hn:l.length=n){i k:Nat}(hik:i+k<=n){xs:List ae}(hx:xs.length=k)(ho:xs.all ae.one=true)(e:l.take i++(xs++l.drop (i+k))=l') :
  ∃H',bh k H (ah b n i) (.agg xs)=some H'/\be H' b l'/\H'.next=H.next/\∀c,c≠b->H'.get c=H.get c:=by
 subst e;exact Ep h hn hik hx ho
def QQ:VC aF:=⟨λf hf=>by show Nat.beq f 153=false;rw[ch];exact decide_eq_false hf,rfl,λs H hs=>by show(bif Nat.beq 153 153 then xg H [.str s]else none)=_;rw[show Nat.beq 153 153=true from rfl,cond_true];simp only[xg,Xz hs,cond_true]⟩
end Go.Proofs.Wo
