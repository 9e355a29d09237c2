/- Part of a proof (YW4 YW5 YW6 YW7 YW8 YW9 YWA YWB YWD YWE YWF YWG YWH YWI YWJ YWK YP0 YPF); no condition. -/
import Derived.Test.YtfleblkgifoeaaaDoorP7
set_option linter.unusedSimpArgs false
set_option linter.unusedVariables false
set_option linter.unnecessarySimpa false
namespace Go.Proofs.Wo
open Go.Abs Go.Abs.S
def sq(c:UInt8):Bool:=!decide (c.toNat=46)
def bW(s:Bs):Bs:=s.takeWhile sq
def behind(s:Bs):Bs:=(s.dropWhile sq).drop 1
def ir(s:Bs):Bool:=!(s.all sq)
theorem vH(s:Bs):(bW s).length<=s.length:=(List.takeWhile_sublist (p:=sq) (l:=s)).length_le
theorem pR(s:Bs):bW s=s.take (bW s).length:=by
 exact (List.prefix_iff_eq_take.1 (List.takeWhile_prefix sq (l:=s)))
theorem zD(s:Bs):s.drop (bW s).length=s.dropWhile sq:=by
 have h:bW s++s.dropWhile sq=s:=List.takeWhile_append_dropWhile (p:=sq) (l:=s)
 generalize hw:bW s=w at *
 conv=>lhs; rw[<- h]
 rw[List.drop_left]
theorem lz(s:Bs):behind s=s.drop ((bW s).length+1):=by
 rw[behind,<- zD,List.drop_drop]
theorem Fl{s:Bs}(h:ir s=true):(bW s).length<s.length:=by
 rcases Nat.lt_or_ge (bW s).length s.length with hl | hl
 ·exact hl
 ·have e:bW s=s:=by rw[pR s,List.take_of_length_le hl]
  have:s.all sq=true:=by rw[<- e]; exact List.all_takeWhile
  simp[ir,this]at h
theorem Kw(s:Bs)(n:Nat):vC 46 s n=if ir s then ((n+(bW s).length:Nat):Int) else -1:=by
 induction s generalizing n with
 | nil=>rfl
 | cons c r ih=>
  rw[vC]
  by_cases h:c.toNat=46
  ·have hc:c=46:=UInt8.toNat_inj.1 h
   subst hc
   simp[ir,sq,bW]
  ·have hc:¬c=46:=fun e=>h (by rw[e]; rfl)
   have hn:sq c=true:=by simp[sq,h]
   have e1:ir (c::r)=ir r:=by simp[ir,hn]
   have e2:(bW (c::r)).length=(bW r).length+1:=by rw[bW,List.takeWhile_cons_of_pos hn]; rfl
   have e3:Nat.beq c.toNat (UInt8.toNat 46)=false:=by
    cases hb:Nat.beq c.toNat (UInt8.toNat 46) with
    | false=>rfl
    | true=>exact absurd (N8 hb) h
   rw[e1,e2,e3,cond_false,ih,show n+1+(bW r).length=n+((bW r).length+1) by omega]
theorem Jr{s:Bs}(h:ir s=false):bW s=s/\behind s=[]:=by
 have ha:s.all sq=true:=by simpa[ir] using h
 have hall:=List.all_eq_true.1 ha
 have e:bW s=s:=by
  rw[bW]
  have:=List.takeWhile_append_of_pos (p:=sq) (l₁:=s) (l₂:=[]) hall
  simpa using this
 exact⟨e,by rw[lz,e]; simp⟩
theorem Fj(h76:aB.is 72=false){H:ab}{s:Bs}:an Tryd.prog aB 72 [.str s,.int .u8 46] H fun v H'=>v=.int .i64 (vC 46 s 0)/\H=H':=by
 refine ak h76 Lr rfl ?_
 have e:jJ .ibs [.str s,.int .u8 46]=some (.int .i64 (vC 46 s 0)):=rfl
 simp only[NG,sA,sB,seval,e]
 exact⟨by trivial,by trivial⟩
theorem yX(h74:aB.is 69=false)(h76:aB.is 72=false){H:ab}{s:Bs}:an Tryd.prog aB 69 [.str s,.str [46]] H fun v H'=>v=.int .i64 (vC 46 s 0)/\H=H':=by
 refine ak h74 My rfl ?_
 have i0:jk (.str [46]) (.int .i64 0)=some (.int .u8 46):=rfl
 have hl1:((List.length [(46:UInt8)]:Nat):Int)=1:=rfl
 by_cases hs:[46]=s
 ·subst hs
  have e:vC 46 [46] 0=0:=rfl
  rw[e]
  simp only[NI,sA,sB,seval,hl1]
  exact⟨by trivial,by trivial⟩
 ·simp only[NI,sA,sB,seval,hl1,hs,i0]
  refine (Fj h76).mono ?_
  rintro v _ ⟨rfl,rfl⟩
  simp only[sA,sB,seval]
  exact⟨by trivial,by trivial⟩
theorem FL(h34:aB.is 62=false)(h57:aB.is 70=false)(h74:aB.is 69=false)(h76:aB.is 72=false){H:ab}{s:Bs}(hs:s.length<=4611686018427387904) :
  an Tryd.prog aB 62 [.str s,.str [46]] H fun v H'=>v=.tuple [.str (bW s),.str (behind s),.bool (ir s)]/\H=H':=by
 refine ak h34 ME rfl ?_
 simp only[c62,sA,sB,seval]
 have key:an Tryd.prog aB 70 [.str s,.str [46]] H fun v H'=>v=.tuple [.str (bW s),.str (behind s),.bool (ir s)]/\H=H':=by
  refine ak h57 Mx rfl ?_
  simp only[c70,sA,sB,seval]
  refine (yX h74 h76).mono ?_
  rintro v _ ⟨rfl,rfl⟩
  have hl1:((List.length [(46:UInt8)]:Nat):Int)=1:=rfl
  rw[Kw]
  cases hp:ir s with
  | true=>
   have hlt:=Fl hp
   have hge:(0:Int)<=((0+(bW s).length:Nat):Int):=om
   rw[Nat.zero_add]at *
   have e1:=py (s:=s) (h:=(bW s).length) (vH s)
   have e2:=Ar (s:=s) (l:=(bW s).length+1) om
   rw[<- pR]at e1
   rw[<- lz]at e2
   simp only[sA,sB,seval,hge,hl1,lK (bW s).length om,e1,e2]
   exact⟨by trivial,by trivial⟩
  | false=>
   obtain⟨e1,e2⟩:=Jr hp
   simp only[sA,sB,seval,e1,e2]
   exact⟨by trivial,by trivial⟩
 refine key.mono ?_
 rintro v _ ⟨rfl,rfl⟩
 simp only[eC,Oa,Ob,sA,sB,seval]
 exact⟨by trivial,by trivial⟩
open Go.Abs Go.Abs.S
def iq(s:Bs):Bool:=(match s with | []=>false | c::_=>dig c)&&decide (ep s 0=s.length)
def ek(s:Bs):Option Nat:=if iq s=true/\eu (bW s)<2147483648 then some (eu (bW s)*2 ^ 32+iH (iI (behind s))) else none
def Hw:Option Nat->aa
 | some n=>.tuple [.int .i64 (n:Int),.bool true]
 | none=>.tuple [.int .i64 0,.bool false]
theorem lj{c:UInt8}(h:dig c=true):sq c=true:=by
 simp[dig]at h; simp[sq]; omega
theorem B4(s:Bs):(bW s).length=bg sq s 0:=by simp[bg,bW]
theorem wH{s:Bs}(h:iq s=true):(∀c∈bW s,dig c=true)/\∀c∈behind s,dig c=true:=by
 simp only[iq,N4,Od]at h
 obtain⟨h0,h1⟩:=h
 have hin:∀{a j:Nat} {c:UInt8},a<=j->j<bg dig s a->s[j]?=some c->dig c=true:=by
  intro a j c ha hj hc
  obtain⟨d,hd,hp⟩:=AB ha hj
  rw[hc]at hd; cases hd; exact hp
 have hle:=ie (p:=dig) (s:=s) (i:=0) (Nat.zero_le _)
 by_cases hd:s[bg dig s 0]?=some 46
 ·have hlt:=(N2.1 hd).1
  have hp0:bg dig s 0≠0:=by
   intro e
   cases s with
   | nil=>simp at hlt
   | cons c r=>
    simp only at h0
    rw[kQ (c:=c) rfl h0]at e
    have:=gu dig (c::r) (0+1)
    omega
  have hw:(bW s).length=bg dig s 0:=by
   rw[B4]
   rcases Nat.lt_trichotomy (bg sq s 0) (bg dig s 0) with hl | hl | hl
   ·obtain⟨c,hc⟩:=bS (l:=s) (i:=bg sq s 0) om
    have:=wh hc
    rw[lj (hin (Nat.zero_le _) hl hc)]at this
    cases this
   ·exact hl
   ·obtain⟨c,hc,hp⟩:=AB (Nat.zero_le _) hl
    rw[hd]at hc; cases hc
    simp[sq]at hp
  unfold ep at h1
  rw[if_neg (by rintro (e | e); exact hp0 e; exact e hd)]at h1
  split at h1
  ·constructor
   ·intro c hc
    rw[pR,hw]at hc
    obtain⟨j,hj⟩:=List.mem_iff_getElem?.1 hc
    have hjl:=(N2.1 hj).1
    simp only[Ol]at hjl
    rw[List.getElem?_take_of_lt om]at hj
    exact hin (Nat.zero_le _) om hj
   ·intro c hc
    rw[lz,hw]at hc
    obtain⟨j,hj⟩:=List.mem_iff_getElem?.1 hc
    rw[List.getElem?_drop]at hj
    have hjl:=(N2.1 hj).1
    exact hin (a:=bg dig s 0+1) om om hj
  ·omega
 ·unfold ep at h1
  rw[if_pos (.inr hd)]at h1
  have hall:∀c∈s,dig c=true:=by
   intro c hc
   obtain⟨j,hj⟩:=List.mem_iff_getElem?.1 hc
   have hjl:=(N2.1 hj).1
   exact hin (Nat.zero_le _) om hj
  have hp:ir s=false:=by
   simp only[ir,Bool.not_eq_false']
   exact List.all_eq_true.2 fun c hc=>lj (hall c hc)
  obtain⟨e1,e2⟩:=Jr hp
  rw[e1,e2]
  exact⟨hall,by simp⟩
theorem vI(l:Bs)(i:Nat):eu (l.take i)<=eu l:=by
 have h:=CM (l.drop i) (eu (l.take i))
 have e:eu l=List.foldl (fun n c=>n*10+dv c) (eu (l.take i)) (l.drop i):=by
  unfold eu
  rw[<- List.foldl_append,List.take_append_drop]
 rw[e,h]
 have:eu (l.take i)*1<=eu (l.take i)*10 ^ (l.drop i).length:=Nat.mul_le_mul_left _ (Nat.pos_of_ne_zero (by simp))
 omega
theorem wG(h12:aB.is 44=false)(h22:aB.is 42=false)(h23:aB.is 43=false)(h25:aB.is 46=false)(h34:aB.is 62=false)(h35:aB.is 63=false)(h57:aB.is 70=false)(h74:aB.is 69=false)(h76:aB.is 72=false)
  {H:ab} {s:Bs} (hs:s.length<=4611686018427387904):an Tryd.prog aB 44 [.str s] H fun v H'=>v=Hw (ek s)/\b7 H.next H H':=by
 refine ak h12 MU rfl ?_
 cases s with
 | nil=>
  have e:ek []=none:=rfl
  rw[e]
  simp only[NK,sA,sB,seval]
  exact⟨by trivial,b7.refl _ _⟩
 | cons c r=>
  have i0:jk (.str (c::r)) (.int .i64 0)=some (KN c):=cW (s:=c::r) (i:=0) rfl .i64
  have hne:¬c::r=[]:=by simp
  simp only[NK,sA,sB,seval,hne,i0]
  refine (gQ h22 c H).mono ?_
  rintro v _ ⟨rfl,rfl⟩
  cases hd:dig c with
  | false=>
   have e:ek (c::r)=none:=by simp[ek,iq,hd]
   rw[e]
   simp only[sA,sB,seval]
   exact⟨by trivial,b7.refl _ _⟩
  | true=>
  simp only[sA,sB,seval]
  refine (nu h23 h25 h22 (Nat.zero_le _) hs).mono ?_
  rintro v _ ⟨rfl,rfl⟩
  have hle:=uN (s:=c::r) (Nat.zero_le _)
  by_cases hn:ep (c::r) 0=(c::r).length
  ·have hnum:iq (c::r)=true:=by simp only[iq,hd,hn,decide_true,Bool.and_self]
   have hn':((ep (c::r) 0:Nat):Int)=((c::r).length:Int):=by rw[hn]
   generalize c::r=s at *
   obtain⟨hw,hb⟩:=wH hnum
   simp only[sA,sB,seval,hn']
   refine (FL h34 h57 h74 h76 hs).mono ?_
   rintro v _ ⟨rfl,rfl⟩
   simp only[eC,Oa,Ob,sA,sB,seval]
   have hwl:=vH s
   have hbl:(behind s).length<=s.length:=by rw[lz]; simp
   have hsay:ek s=if eu (bW s)<2147483648 then some (eu (bW s)*2 ^ 32+iH (iI (behind s))) else none:=by simp[ek,hnum]
   rw[hsay]
   generalize bW s=w at *
   generalize behind s=t at *
   refine bD (fun q (T:bU) H'=>∃i:Nat,i<=w.length/\q=w.length-i/\T 4=.str w/\T 5=.str t/\T 7=.int .i64 (eu (w.take i):Int)/\eu (w.take i)<2147483648/\T 31=.int .i64 (w.length:Int)/\T 32=.int .i64 (i:Int)/\H=H') w.length
    ⟨0,Nat.zero_le _,rfl,rfl,rfl,rfl,by simp[eu],rfl,rfl,rfl⟩ ?_
   rintro q T _ ⟨i,hi,rfl,g4,g5,g7,hv,g31,g32,rfl⟩
   by_cases hlt:i<w.length
   ·have hlt':(i:Int)<(w.length:Int):=om
    obtain⟨c,hc⟩:=bS hlt
    have hdc:=hw c (N9 hc)
    have hdv:(c.toNat:Int)-48=((dv c:Nat):Int):=by simp[dig]at hdc; unfold dv; omega
    have hd9:dv c<=9:=by simp[dig]at hdc; unfold dv; omega
    have hw1:IntKind.u8.wrap ((dv c:Nat):Int)=((dv c:Nat):Int):=gi om om
    have hw2:IntKind.i64.wrap ((dv c:Nat):Int)=((dv c:Nat):Int):=bw om om
    have hw3:IntKind.i64.wrap ((eu (w.take i):Int)*10)=((eu (w.take i)*10:Nat):Int):=by rw[bw om om]; omega
    have hw4:IntKind.i64.wrap (((eu (w.take i)*10:Nat):Int)+((dv c:Nat):Int))=((eu (w.take (i+1)):Nat):Int):=by
     rw[bw om om,List.take_add_one,hc,Option.toList_some,Du]; omega
    simp only[sA,sB,seval,g4,g5,g7,g31,g32,hlt',cW hc,hdv,hw1,hw2,hw3,hw4]
    by_cases hbig:eu (w.take (i+1))<2147483648
    ·have hbig':¬(2147483648:Int)<=((eu (w.take (i+1)):Nat):Int):=om
     simp only[sA,sB,seval,g4,g5,g7,g31,g32,hbig',lK i om]
     exact⟨_,om,i+1,om,rfl,by trivial,by trivial,rfl,hbig,by trivial,rfl,by trivial⟩
    ·have hbig':(2147483648:Int)<=((eu (w.take (i+1)):Nat):Int):=om
     have:=vI w (i+1)
     simp only[sA,sB,seval,g4,g5,g7,g31,g32,hbig']
     exact⟨by rw[if_neg om]; rfl,b7.refl _ _⟩
   ·obtain rfl:i=w.length:=om
    rw[List.take_length]at g7 hv
    have e1:=xA (k':=.u64) (a:=eu w) (b:=32) om om
    simp only[Int.cast_ofNat_Int]at e1
    simp only[sA,sB,seval,g4,g5,g7,g31,g32,Int.lt_irrefl,e1]
    refine (Cr h35 hb om).mono ?_
    rintro v H' ⟨rfl,hx⟩
    have hf:=Bb (vj hb)
    have e2:=Bx (a:=eu w*2 ^ 32) (b:=iH (iI t)) om om
    rw[Ev 32 _ hf]at e2
    simp only[sA,sB,seval,e2]
    exact⟨by rw[if_pos hv]; rfl,hx⟩
  ·have hn':¬((ep (c::r) 0:Nat):Int)=((c::r).length:Int):=om
   have e:ek (c::r)=none:=by simp only[ek,iq,hn,decide_false,Bool.and_false,Oc,false_and,if_false]
   rw[e]
   simp only[sA,sB,seval,hn']
   exact⟨by trivial,b7.refl _ _⟩
open Go.Abs Go.Abs.S
end Go.Proofs.Wo
namespace Go.Proofs.Wo
open Go.Abs Go.Abs.S
open Go.Abs Go.Abs.S
def yy(n:Nat):List Nat:=if h:n<10 then [n] else n % 10::yy (n / 10)
termination_by n
decreasing_by omega
def ef(n:Nat):List Nat:=(yy n).reverse
theorem HL{n:Nat}(h:n<10):yy n=[n]:=by rw[yy,dif_pos h]
theorem HM{n:Nat}(h:¬n<10):yy n=n % 10::yy (n / 10):=by rw[yy,dif_neg h]
theorem fM{n:Nat}(h:n<10):ef n=[n]:=by rw[ef,HL h]; rfl
theorem lm{n:Nat}(h:¬n<10):ef n=ef (n / 10)++[n % 10]:=by rw[ef,HM h]; simp[ef]
theorem w9(n:Nat):∀d∈ef n,d<=9:=by
 induction n using Nat.strongRecOn with
 | _ n ih=>
  by_cases h:n<10
  ·rw[fM h]; simp; omega
  ·rw[lm h]
   intro d hd
   rcases List.mem_append.1 hd with h1 | h1
   ·exact ih (n / 10) om d h1
   ·simp at h1; omega
theorem qW(n:Nat):db (ef n)=n:=by
 induction n using Nat.strongRecOn with
 | _ n ih=>
  by_cases h:n<10
  ·rw[fM h]; simp[db]
  ·rw[lm h,jS,ih (n / 10) om]
   simp[db]; omega
def dJ:Nat->Nat->List Nat
 | 0,_=>[]
 | k+1,r=>if r=0 then [] else r*10 / 4294967296::dJ k (r*10 % 4294967296)
def cQ(l:List Nat):Bs:=l.map fun d=>UInt8.ofNat (48+d)
theorem lB(l:List Nat):(cQ l).length=l.length:=by simp[cQ]
def hZ(r:Nat):Bs:=if r=0 then [] else 46::cQ (dJ 32 r)
def bb(n:Int):Bs:=(if n<0 then [45] else [])++(cQ (ef (n.natAbs / 4294967296))++hZ (n.natAbs % 4294967296))
theorem CK(k r:Nat):(dJ k r).length<=k:=by
 induction k generalizing r with
 | zero=>simp[dJ]
 | succ k ih=>
  rw[dJ]
  split
  ·simp
  ·have:=ih (r*10 % 4294967296); simp; omega
theorem qX(k:Nat):∀n,n<10 ^ (k+1)->(ef n).length<=k+1:=by
 induction k with
 | zero=>intro n h; rw[fM (by simpa using h)]; simp
 | succ k ih=>
  intro n h
  by_cases hn:n<10
  ·rw[fM hn]; simp
  ·rw[lm hn]
   have:=ih (n / 10) (by rw[Nat.pow_succ]at h; omega)
   simp; omega
open Go.Abs Go.Abs.S
theorem Hq{a:Int}(h1:0<=a)(h2:a<18446744073709551616):IntKind.u64.wrap a=a:=by
 rw[IntKind.wrap_u64]; omega
theorem J2(k:IntKind)(n:Int):IR .neg (.int k n)=some (.int k (k.wrap (0-n))):=by
 simp only[IR,lU]
theorem tK{k r:Nat}(hk:k<=32)(hr:r<4294967296)(hd:2 ^ (32-k) ∣ r)(h0:r≠0):∃k',k=k'+1/\dJ k r=r*10 / 4294967296::dJ k' (r*10 % 4294967296)/\2 ^ (32-k') ∣ r*10 % 4294967296:=by
 cases k with
 | zero=>
  exfalso
  obtain⟨c,hc⟩:=hd
  simp only[Nat.sub_zero]at hc
  have:c≠0:=by rintro rfl; simp at hc; exact h0 hc
  have:2 ^ 32*1<=2 ^ 32*c:=Nat.mul_le_mul_left _ om
  omega
 | succ k=>
  refine⟨k,rfl,by rw[dJ,if_neg h0],?_⟩
  have e:32-k=(32-(k+1))+1:=om
  have h1:2 ^ (32-k) ∣ r*10:=by
   obtain⟨c,hc⟩:=hd
   refine⟨c*5,?_⟩
   rw[e,Nat.pow_succ]
   generalize 2 ^ (32-(k+1))=p at *
   subst hc
   rw[Nat.mul_assoc p 2,Nat.mul_assoc p c 10]
   congr 1
   omega
  have h2:2 ^ (32-k) ∣ 4294967296:=by
   have:=Nat.pow_dvd_pow 2 (show 32-k<=32 by omega)
   exact this
  exact (Nat.dvd_mod_iff h2).2 h1
def tl:bE->bE
 | .seq _ b=>b
 | c=>c
theorem zS(n:Nat):cQ (ef n)≠[]:=by
 by_cases h:n<10
 ·rw[fM h]; simp[cQ]
 ·rw[lm h]; simp[cQ]
open Go.Abs Go.Abs.S
def ot(s:Bs):Bool:=decide (s=[108,101,116])||(decide (s=[115,101,116])||(decide (s=[105,102])||(decide (s=[101,108,115,101])||(decide (s=[119,104,105,108,101])||decide (s=[114,101,116,117,114,110])))))
theorem EX(hN:aB.is 49=false)(s:Bs){H:ab}:an Tryd.prog aB 49 [.str s] H fun v H'=>v=.bool (ot s)/\H=H':=by
 refine ak hN MP rfl ?_
 unfold ot
 by_cases h1:s=[108,101,116]
 ·subst h1; simp only[JG,sA,sB,seval]; exact⟨by simp,by trivial⟩
 by_cases h2:s=[115,101,116]
 ·subst h2; simp only[JG,sA,sB,seval,h1]; exact⟨by simp,by trivial⟩
 by_cases h3:s=[105,102]
 ·subst h3; simp only[JG,sA,sB,seval,h1,h2]; exact⟨by simp,by trivial⟩
 by_cases h4:s=[101,108,115,101]
 ·subst h4; simp only[JG,sA,sB,seval,h1,h2,h3]; exact⟨by simp,by trivial⟩
 by_cases h5:s=[119,104,105,108,101]
 ·subst h5; simp only[JG,sA,sB,seval,h1,h2,h3,h4]; exact⟨by simp,by trivial⟩
 by_cases h6:s=[114,101,116,117,114,110]
 ·subst h6; simp only[JG,sA,sB,seval,h1,h2,h3,h4,h5]; exact⟨by simp,by trivial⟩
 simp only[JG,sA,sB,seval,h1,h2,h3,h4,h5,h6]
 exact⟨by simp,by trivial⟩
def pre(s t:Bs):Bool:=decide (s.take t.length=t)
theorem Eo(h51:aB.is 65=false)(h75:aB.is 71=false)(s t:Bs){H:ab}:an Tryd.prog aB 65 [.str s,.str t] H fun v H'=>v=.bool (pre s t)/\H=H':=by
 refine ak h51 MC rfl ?_
 simp only[c65,sA,sB,seval]
 have key:an Tryd.prog aB 71 [.str s,.str t] H fun v H'=>v=.bool (pre s t)/\H=H':=by
  refine ak h75 Mw rfl ?_
  by_cases h:t.length<=s.length
  ·have h':(t.length:Int)<=(s.length:Int):=om
   simp only[NH,sA,sB,seval,h',py h]
   exact⟨by trivial,by trivial⟩
  ·have h':¬(t.length:Int)<=(s.length:Int):=om
   have e:pre s t=false:=by
    unfold pre
    rw[decide_eq_false]
    intro he
    have:=congrArg List.length he
    simp at this; omega
   simp only[NH,sA,sB,seval,h',e]
   exact⟨by trivial,by trivial⟩
 refine key.mono ?_
 rintro v _ ⟨rfl,rfl⟩
 simp only[sA,sB,seval]
 exact⟨by trivial,by trivial⟩
theorem CX(s:Bs)(n:Nat):Hk 10 s n=n+s.count 10:=by
 induction s generalizing n with
 | nil=>simp[Hk]
 | cons c r ih=>
  rw[Hk]
  by_cases h:c=10
  ·subst h
   have e:Nat.beq (UInt8.toNat 10) 10=true:=rfl
   rw[e,cond_true,ih]; simp; omega
  ·have e:Nat.beq c.toNat 10=false:=by
    cases hb:Nat.beq c.toNat 10 with
    | false=>rfl
    | true=>exact absurd (UInt8.toNat_inj.1 (N8 hb)) h
   rw[e,cond_false,ih,List.count_cons_of_ne (by exact h)]
theorem zE(hN:aB.is 41=false)(s:Bs){H:ab}:an Tryd.prog aB 41 [.str s,.str [10]] H fun v H'=>v=.int .i64 (s.count 10:Int)/\H=H':=by
 refine ak hN MX rfl ?_
 have hl1:((List.length [(10:UInt8)]:Nat):Int)=1:=rfl
 have i0:jk (.str [10]) (.int .i64 0)=some (.int .u8 10):=rfl
 have e:jJ .cbs [.str s,.int .u8 10]=some (.int .i64 (s.count 10:Int)):=by
  have:jJ .cbs [.str s,.int .u8 10]=some (.int .i64 (Hk 10 s 0:Int)):=rfl
  rw[this,CX,Nat.zero_add]
 simp only[c41,sA,sB,seval,hl1,i0,e]
 exact⟨by trivial,by trivial⟩
open Go.Abs Go.Abs.S
theorem AZ(c:UInt8)(s:Bs)(n:Nat):(0<=vC c s n)↔c∈s:=by
 induction s generalizing n with
 | nil=>simp[vC]
 | cons b r ih=>
  rw[vC]
  by_cases h:b=c
  ·subst h
   have e:Nat.beq b.toNat b.toNat=true:=Nat.beq_refl _
   rw[e,cond_true]; simp
  ·have e:Nat.beq b.toNat c.toNat=false:=by
    cases hb:Nat.beq b.toNat c.toNat with
    | false=>rfl
    | true=>exact absurd (UInt8.toNat_inj.1 (N8 hb)) h
   rw[e,cond_false,ih]
   rw[List.mem_cons]
   constructor
   ·exact .inr
   ·rintro (h' | h')
    ·exact absurd h'.symm h
    ·exact h'
theorem EZ(h52:aB.is 66=false)(h76:aB.is 72=false)(s:Bs)(c:UInt8){H:ab}:an Tryd.prog aB 66 [.str s,KN c] H fun v H'=>v=.int .i64 (vC c s 0)/\H=H':=by
 refine ak h52 MB rfl ?_
 simp only[c66,sA,sB,seval]
 have key:an Tryd.prog aB 72 [.str s,KN c] H fun v H'=>v=.int .i64 (vC c s 0)/\H=H':=by
  refine ak h76 Lr rfl ?_
  have e:jJ .ibs [.str s,KN c]=some (.int .i64 (vC c s 0)):=by
   have:jJ .ibs [.str s,KN c]=some (.int .i64 (vC c.toNat.toUInt8 s 0)):=rfl
   rw[this]
   congr 3
   exact UInt8.ofNat_toNat
  simp only[NG,sA,sB,seval,e]
  exact⟨by trivial,by trivial⟩
 refine key.mono ?_
 rintro v _ ⟨rfl,rfl⟩
 simp only[sA,sB,seval]
 exact⟨by trivial,by trivial⟩
def fS:List Bs:=[[38,38],[124,124],[61,61],[33,61],[60,61],[62,61]]
def sn:Bs:=[60,62,43,45,42,47,33,40,41,123,125,44,59,61]
def dl(s:Bs):Bs:=match fS.find? (pre s) with
 | some t=>t
 | none=>match s with
  | []=>[]
  | c::_=>if c∈sn then [c] else []
theorem Ci(h29:aB.is 50=false)(h51:aB.is 65=false)(h75:aB.is 71=false)(h52:aB.is 66=false)(h76:aB.is 72=false){s:Bs}{i:Nat}(hi:i<s.length){H:ab} :
  an Tryd.prog aB 50 [.str s,.int .i64 (i:Int)] H fun v H'=>v=.str (dl (s.drop i))/\H=H':=by
 refine ak h29 MO rfl ?_
 have e0:=Ar (s:=s) (l:=i) om
 have b0:bT [.str [],.str [],.str [],.str [],.str [],.str []] [(0,1,.str [38,38]),(1,1,.str [124,124]),(2,1,.str [61,61]),(3,1,.str [33,61]),(4,1,.str [60,61]),(5,1,.str [62,61])]=some (.agg (fS.map .str)):=rfl
 obtain⟨c,hc⟩:=bS (l:=s) (i:=i) hi
 have hdr:=dn hc
 simp only[c50,sA,sB,seval,e0,b0]
 rw[hdr]
 generalize s.drop (i+1)=r at *
 refine bD (fun q (T:bU) H'=>∃k:Nat,k<=6/\q=6-k/\T 5=.str (c::r)/\T 11=.agg (fS.map .str)/\T 12=.int .i64 (k:Int)/\(fS.take k).find? (pre (c::r))=none/\H=H') 6 ⟨0,Nat.zero_le _,rfl,by simp only[sA,sB,seval],by simp only[sA,sB,seval],by simp only[sA,sB,seval]; try rfl,rfl,rfl⟩ ?_
 rintro q T _ ⟨k,hk,rfl,g5,g11,g12,hA,rfl⟩
 by_cases hlt:k<6
 ·have hlt':(k:Int)<6:=om
  obtain⟨t,ht⟩:=bS (l:=fS) (i:=k) hlt
  have ix:z7 6 1 false (.agg (fS.map .str)) (.int .i64 (k:Int))=some (.str t):=by
   have hk6:k=0∨k=1∨k=2∨k=3∨k=4∨k=5:=om
   rcases hk6 with rfl | rfl | rfl | rfl | rfl | rfl <;> (simp only[fS,Oa,Ob,sJ]at ht; subst ht; rfl)
  simp only[sA,sB,seval,g5,g11,g12,hlt',ix]
  refine (Eo h51 h75 (c::r) t).mono ?_
  rintro v _ ⟨rfl,rfl⟩
  cases hp:pre (c::r) t with
  | true=>
   have hf:fS.find? (pre (c::r))=some t:=by
    have h1:(fS.take (k+1)).find? (pre (c::r))=some t:=by
     rw[List.take_add_one,ht,List.find?_append,hA]
     simp[hp]
    have h2:fS=fS.take (k+1)++fS.drop (k+1):=(List.take_append_drop _ _).symm
    rw[h2,List.find?_append,h1]; rfl
   simp only[sA,sB,seval,g5,g11,g12]
   exact⟨by rw[dl,hf],by trivial⟩
  | false=>
   simp only[sA,sB,seval,g5,g11,g12,lK k om]
   refine⟨_,om,k+1,om,rfl,by trivial,by trivial,rfl,?_,by trivial⟩
   rw[List.take_add_one,ht,List.find?_append,hA]
   simp[hp]
 ·obtain rfl:k=6:=om
  have hf:fS.find? (pre (c::r))=none:=hA
  have i0:jk (.str (c::r)) (.int .i64 0)=some (KN c):=cW (s:=c::r) (i:=0) rfl .i64
  have e1:ec (.str (c::r)) none (some (.int .i64 1))=some (.str [c]):=py (s:=c::r) (h:=1) (by simp)
  simp only[sA,sB,seval,g5,g11,g12,Int.cast_ofNat_Int,Int.lt_irrefl,i0]
  refine (EZ h52 h76 sn c).mono ?_
  rintro v _ ⟨rfl,rfl⟩
  by_cases hm:c∈sn
  ·have h0:=(AZ c sn 0).2 hm
   simp only[sA,sB,seval,g5,g11,g12,h0,e1]
   exact⟨by rw[dl,hf]; simp[hm],by trivial⟩
  ·have h0:¬0<=vC c sn 0:=fun h=>hm ((AZ c sn 0).1 h)
   simp only[sA,sB,seval,g5,g11,g12,h0]
   exact⟨by rw[dl,hf]; simp[hm],by trivial⟩
open Go.Abs Go.Abs.S
end Go.Proofs.Wo
namespace Go.Proofs.Wo
open Go.Abs Go.Abs.S
def pd:Nat->Nat->List Nat
 | 0,_=>[]
 | k+1,u=>pd k (u / 10)++[u % 10]
theorem Kh(k u:Nat):(pd k u).length=k:=by
 induction k generalizing u with
 | zero=>rfl
 | succ k ih=>simp[pd,ih]
theorem yF(k:Nat):∀u,10 ^ k<=u->u<10 ^ (k+1)->pd (k+1) u=ef u:=by
 induction k with
 | zero=>
  intro u h1 h2
  rw[fM (by simpa using h2)]
  have:u % 10=u:=Nat.mod_eq_of_lt (by simpa using h2)
  simp[pd,this]
 | succ k ih=>
  intro u h1 h2
  have h10:¬u<10:=by
   have:10 ^ 1<=10 ^ (k+1):=Nat.pow_le_pow_right om om
   omega
  rw[lm h10,pd,ih (u / 10) (by rw[Nat.pow_succ]at h1; omega) (by rw[Nat.pow_succ]at h2; omega)]
def iC:Bs:=(List.range 100).flatMap fun d=>[UInt8.ofNat (48+d / 10),UInt8.ofNat (48+d % 10)]
theorem DQ{d:Nat}(h:d<100):iC[d*2]?=some (UInt8.ofNat (48+d / 10)):=by
 have:∀d,d<100->iC[d*2]?=some (UInt8.ofNat (48+d / 10)):=by decide
 exact this d h
theorem DP{d:Nat}(h:d<100):iC[d*2+1]?=some (UInt8.ofNat (48+d % 10)):=by
 have:∀d,d<100->iC[d*2+1]?=some (UInt8.ofNat (48+d % 10)):=by decide
 exact this d h
open Go.Abs Go.Abs.S
theorem lV:iC=[48,48,48,49,48,50,48,51,48,52,48,53,48,54,48,55,48,56,48,57,49,48,49,49,49,50,49,51,49,52,49,53,49,54,49,55,49,56,49,57,50,48,50,49,50,50,50,51,50,52,50,53,50,54,50,55,50,56,50,57,51,48,51,49,51,50,51,51,51,52,51,53,51,54,51,55,51,56,51,57,52,48,52,49,52,50,52,51,52,52,52,53,52,54,52,55,52,56,52,57,53,48,53,49,53,50,53,51,53,52,53,53,53,54,53,55,53,56,53,57,54,48,54,49,54,50,54,51,54,52,54,53,54,54,54,55,54,56,54,57,55,48,55,49,55,50,55,51,55,52,55,53,55,54,55,55,55,56,55,57,56,48,56,49,56,50,56,51,56,52,56,53,56,54,56,55,56,56,56,57,57,48,57,49,57,50,57,51,57,52,57,53,57,54,57,55,57,56,57,57]:=by kernel_rfl
theorem fV{d:Nat}(h:d<100)(k:IntKind):jk (.str iC) (.int k ((d*2:Nat):Int))=some (.int .u8 ((48+d / 10:Nat):Int)):=by
 rw[cW (DQ h)]
 have:(UInt8.ofNat (48+d / 10)).toNat=48+d / 10:=by rw[UInt8.toNat_ofNat']; omega
 rw[this]
theorem eO{d:Nat}(h:d<100)(k:IntKind):jk (.str iC) (.int k ((d*2+1:Nat):Int))=some (.int .u8 ((48+d % 10:Nat):Int)):=by
 rw[cW (DP h)]
 have:(UInt8.ofNat (48+d % 10)).toNat=48+d % 10:=by rw[UInt8.toNat_ofNat']; omega
 rw[this]
theorem DO{d:Nat}(h:d<100):ec (.str iC) (some (.int .i64 ((d*2:Nat):Int))) (some (.int .i64 ((d*2+2:Nat):Int)))=some (.str [UInt8.ofNat (48+d / 10),UInt8.ofNat (48+d % 10)]):=by
 have hl:iC.length=200:=by kernel_rfl
 rw[uD om om]
 have:∀d,d<100->(iC.drop (d*2)).take 2=[UInt8.ofNat (48+d / 10),UInt8.ofNat (48+d % 10)]:=of_decide_eq_true (by kernel_rfl)
 rw[show d*2+2-d*2=2 by omega,this d h]
def HA:Bs:=[48,49,50,51,52,53,54,55,56,57,97,98,99,100,101,102,103,104,105,106,107,108,109,110,111,112,113,114,115,116,117,118,119,120,121,122]
theorem Hz{d:Nat}(h:d<10):ec (.str HA) (some (.int .i64 (d:Int))) (some (.int .i64 ((d+1:Nat):Int)))=some (.str [UInt8.ofNat (48+d)]):=by
 have hl:HA.length=36:=by decide
 rw[uD om om]
 have:∀d,d<10->(HA.drop d).take 1=[UInt8.ofNat (48+d)]:=by decide
 rw[show d+1-d=1 by omega,this d h]
theorem ET:HA=[48,49,50,51,52,53,54,55,56,57,97,98,99,100,101,102,103,104,105,106,107,108,109,110,111,112,113,114,115,116,117,118,119,120,121,122]:=rfl
set_option maxRecDepth 100000 in
theorem yi(h77:aB.is 78=false){d:Nat}(hd:d<100){H:ab} :
  an Tryd.prog aB 78 [.int .i64 (d:Int)] H fun v H'=>v=.str (cQ (ef d))/\H'=H:=by
 refine ak h77 Mu rfl ?_
 simp only[c78,<- lV,<- ET]
 by_cases h:d<10
 ·have h':(d:Int)<10:=om
  simp only[sA,sB,Int.reduceNegSucc,reduceCtorEq,Nat.reduceEqDiff,↓reduceIte,Nat.reduceAdd,Int.reduceEq,Int.reduceLT,Int.reduceLE,Nat.reduceLT,h',lK d om,Hz h]
  exact⟨by rw[fM h]; rfl,by trivial⟩
 ·have h':¬(d:Int)<10:=om
  have w1:IntKind.i64.wrap ((d:Int)*2)=((d*2:Nat):Int):=by rw[bw om om]; omega
  have w2:IntKind.i64.wrap (((d*2:Nat):Int)+2)=((d*2+2:Nat):Int):=by rw[bw om om]; omega
  simp only[sA,sB,Int.reduceNegSucc,reduceCtorEq,Nat.reduceEqDiff,↓reduceIte,Nat.reduceAdd,Int.reduceEq,Int.reduceLT,Int.reduceLE,Nat.reduceLT,h',w1,w2,DO hd]
  refine⟨?_,by trivial⟩
  rw[lm h,fM om]; simp[cQ]
theorem zQ(h95:aB.is 85=false)(b:Bool){H:ab} :
  an Tryd.prog aB 85 [.bool b] H fun v H'=>v=.int .i64 ((if b=true then 1 else 0:Nat):Int)/\H'=H:=by
 refine ak h95 Mp rfl ?_
 cases b with
 | true=>simp only[NE,sA,sB,Int.reduceNegSucc,reduceCtorEq,Nat.reduceEqDiff,↓reduceIte,Nat.reduceAdd,Int.reduceEq,Int.reduceLT,Int.reduceLE,Nat.reduceLT]; exact⟨by trivial,by trivial⟩
 | false=>simp only[NE,sA,sB,Int.reduceNegSucc,reduceCtorEq,Nat.reduceEqDiff,↓reduceIte,Nat.reduceAdd,Int.reduceEq,Int.reduceLT,Int.reduceLE,Nat.reduceLT]; exact⟨by trivial,by trivial⟩
theorem yS(h93:aB.is 83=false){x:Nat}(hx:x<=64){H:ab} :
  an Tryd.prog aB 83 [.int .i64 (x:Int)] H fun v H'=>v=.int .i64 ((x*78913 / 262144:Nat):Int)/\H'=H:=by
 refine ak h93 Mr rfl ?_
 have w1:IntKind.i64.wrap ((x:Int)*78913)=((x*78913:Nat):Int):=by rw[bw om om]; omega
 have e1:=Ck .i64 .u64 (x*78913) (b:=18) dD
 simp only[Int.cast_ofNat_Int]at e1
 simp only[c83,sA,sB,Int.reduceNegSucc,reduceCtorEq,Nat.reduceEqDiff,↓reduceIte,Nat.reduceAdd,Int.reduceEq,Int.reduceLT,Int.reduceLE,Nat.reduceLT,w1,e1]
 exact⟨by trivial,by trivial⟩
def Iq:Bs:=[0,1,2,2,3,3,3,3,4,4,4,4,4,4,4,4,5,5,5,5,5,5,5,5,5,5,5,5,5,5,5,5,6,6,6,6,6,6,6,6,6,6,6,6,6,6,6,6,6,6,6,6,6,6,6,6,6,6,6,6,6,6,6,6,7,7,7,7,7,7,7,7,7,7,7,7,7,7,7,7,7,7,7,7,7,7,7,7,7,7,7,7,7,7,7,7,7,7,7,7,7,7,7,7,7,7,7,7,7,7,7,7,7,7,7,7,7,7,7,7,7,7,7,7,7,7,7,7,8,8,8,8,8,8,8,8,8,8,8,8,8,8,8,8,8,8,8,8,8,8,8,8,8,8,8,8,8,8,8,8,8,8,8,8,8,8,8,8,8,8,8,8,8,8,8,8,8,8,8,8,8,8,8,8,8,8,8,8,8,8,8,8,8,8,8,8,8,8,8,8,8,8,8,8,8,8,8,8,8,8,8,8,8,8,8,8,8,8,8,8,8,8,8,8,8,8,8,8,8,8,8,8,8,8,8,8,8,8,8,8,8,8,8,8,8,8,8,8,8,8,8,8,8,8,8,8]
theorem EU:Iq=[0,1,2,2,3,3,3,3,4,4,4,4,4,4,4,4,5,5,5,5,5,5,5,5,5,5,5,5,5,5,5,5,6,6,6,6,6,6,6,6,6,6,6,6,6,6,6,6,6,6,6,6,6,6,6,6,6,6,6,6,6,6,6,6,7,7,7,7,7,7,7,7,7,7,7,7,7,7,7,7,7,7,7,7,7,7,7,7,7,7,7,7,7,7,7,7,7,7,7,7,7,7,7,7,7,7,7,7,7,7,7,7,7,7,7,7,7,7,7,7,7,7,7,7,7,7,7,7,8,8,8,8,8,8,8,8,8,8,8,8,8,8,8,8,8,8,8,8,8,8,8,8,8,8,8,8,8,8,8,8,8,8,8,8,8,8,8,8,8,8,8,8,8,8,8,8,8,8,8,8,8,8,8,8,8,8,8,8,8,8,8,8,8,8,8,8,8,8,8,8,8,8,8,8,8,8,8,8,8,8,8,8,8,8,8,8,8,8,8,8,8,8,8,8,8,8,8,8,8,8,8,8,8,8,8,8,8,8,8,8,8,8,8,8,8,8,8,8,8,8,8,8,8,8,8,8]:=rfl
theorem pB{v:Nat}(h:v<256):∃l:UInt8,Iq[v]?=some l/\v<2 ^ l.toNat/\(0<v->2 ^ l.toNat<=2*v)/\l.toNat<=8:=by
 have:∀v,v<256->(match Iq[v]? with | some l=>decide (v<2 ^ l.toNat)&&(decide (v=0)||decide (2 ^ l.toNat<=2*v))&&decide (l.toNat<=8) | none=>false)=true:=of_decide_eq_true (by kernel_rfl)
 have:=this v h
 cases hl:Iq[v]? with
 | none=>rw[hl]at this; simp at this
 | some l=>
  rw[hl]at this
  simp only[N4,Bool.or_eq_true,Od]at this
  exact⟨l,rfl,this.1.1,fun h0=>by rcases this.1.2 with h | h; omega; exact h,this.2⟩
set_option maxRecDepth 100000 in
theorem yV(h94:aB.is 84=false){u:Nat}(h0:0<u)(hu:u<4294967296){H:ab} :
  an Tryd.prog aB 84 [.int .u64 (u:Int)] H fun v H'=>(∃L:Nat,v=.int .i64 (L:Int)/\u<2 ^ L/\2 ^ L<=2*u/\L<=32)/\H'=H:=by
 refine ak h94 Mq rfl ?_
 simp only[c84,<- EU]
 have n32:¬(4294967296:Int)<=(u:Int):=om
 have e16:=Ck .u64 .u64 u (b:=16) dD
 simp only[Int.cast_ofNat_Int,Nat.reducePow]at e16
 have key:∀(x:Nat) (s l:Nat),u / 2 ^ s=x->0<x->x<2 ^ l->2 ^ l<=2*x->s<=24->u<2 ^ (s+l)/\2 ^ (s+l)<=2*u:=by
  intro x s l hx hx0 h1 h2 hs
  have hp:0<2 ^ s:=Nat.pos_of_ne_zero (by simp)
  rw[Nat.pow_add]
  generalize 2 ^ s=p at *
  generalize 2 ^ l=q at *
  subst hx
  have h3:=Nat.div_mul_le_self u p
  have h4:=Nat.lt_div_mul_add hp (a:=u)
  constructor
  ·have:(u / p+1)*p<=q*p:=Nat.mul_le_mul_right _ h1
   rw[Nat.add_mul,Nat.one_mul]at this
   rw[Nat.mul_comm p q]
   omega
  ·calc p*q<=p*(2*(u / p)):=Nat.mul_le_mul_left _ h2
    _=2*(u / p*p):=by rw[Nat.mul_comm p,Nat.mul_assoc]
    _<=2*u:=om
 by_cases c1:65536<=u
 ·have c1':(65536:Int)<=(u:Int):=om
  have e8:=Ck .u64 .u64 (u / 65536) (b:=8) dD
  simp only[Int.cast_ofNat_Int,Nat.reducePow]at e8
  have w1:IntKind.i64.wrap (0+16)=16:=by decide
  by_cases c2:256<=u / 65536
  ·have c2':(256:Int)<=((u / 65536:Nat):Int):=om
   have w2:IntKind.i64.wrap (16+8)=24:=by decide
   obtain⟨l,l1,l2,l3,l4⟩:=pB (v:=u / 65536 / 256) om
   have w3:IntKind.u8.wrap ((u / 65536 / 256:Nat):Int)=((u / 65536 / 256:Nat):Int):=gi om om
   have w4:IntKind.i64.wrap (l.toNat:Int)=(l.toNat:Int):=bw om om
   have w5:IntKind.i64.wrap (24+(l.toNat:Int))=((24+l.toNat:Nat):Int):=by rw[bw om om]; omega
   simp only[sA,sB,Int.reduceNegSucc,reduceCtorEq,Nat.reduceEqDiff,↓reduceIte,Nat.reduceAdd,Int.reduceEq,Int.reduceLT,Int.reduceLE,Nat.reduceLT,n32,e16,c1',w1,c2',e8,w2,w3,cW l1,w4,w5]
   obtain⟨k1,k2⟩:=key (u / 65536 / 256) 24 l.toNat om om l2 (l3 om) om
   exact⟨⟨24+l.toNat,by trivial,k1,k2,om⟩,by trivial⟩
  ·have c2':¬(256:Int)<=((u / 65536:Nat):Int):=om
   obtain⟨l,l1,l2,l3,l4⟩:=pB (v:=u / 65536) om
   have w3:IntKind.u8.wrap ((u / 65536:Nat):Int)=((u / 65536:Nat):Int):=gi om om
   have w4:IntKind.i64.wrap (l.toNat:Int)=(l.toNat:Int):=bw om om
   have w5:IntKind.i64.wrap (16+(l.toNat:Int))=((16+l.toNat:Nat):Int):=by rw[bw om om]; omega
   simp only[sA,sB,Int.reduceNegSucc,reduceCtorEq,Nat.reduceEqDiff,↓reduceIte,Nat.reduceAdd,Int.reduceEq,Int.reduceLT,Int.reduceLE,Nat.reduceLT,n32,e16,c1',w1,c2',w3,cW l1,w4,w5]
   obtain⟨k1,k2⟩:=key (u / 65536) 16 l.toNat om om l2 (l3 om) om
   exact⟨⟨16+l.toNat,by trivial,k1,k2,om⟩,by trivial⟩
 ·have c1':¬(65536:Int)<=(u:Int):=om
  have e8:=Ck .u64 .u64 u (b:=8) dD
  simp only[Int.cast_ofNat_Int,Nat.reducePow]at e8
  by_cases c2:256<=u
  ·have c2':(256:Int)<=(u:Int):=om
   have w2:IntKind.i64.wrap (0+8)=8:=by decide
   obtain⟨l,l1,l2,l3,l4⟩:=pB (v:=u / 256) om
   have w3:IntKind.u8.wrap ((u / 256:Nat):Int)=((u / 256:Nat):Int):=gi om om
   have w4:IntKind.i64.wrap (l.toNat:Int)=(l.toNat:Int):=bw om om
   have w5:IntKind.i64.wrap (8+(l.toNat:Int))=((8+l.toNat:Nat):Int):=by rw[bw om om]; omega
   simp only[sA,sB,Int.reduceNegSucc,reduceCtorEq,Nat.reduceEqDiff,↓reduceIte,Nat.reduceAdd,Int.reduceEq,Int.reduceLT,Int.reduceLE,Nat.reduceLT,n32,c1',c2',e8,w2,w3,cW l1,w4,w5]
   obtain⟨k1,k2⟩:=key (u / 256) 8 l.toNat om om l2 (l3 om) om
   exact⟨⟨8+l.toNat,by trivial,k1,k2,om⟩,by trivial⟩
  ·have c2':¬(256:Int)<=(u:Int):=om
   obtain⟨l,l1,l2,l3,l4⟩:=pB (v:=u) om
   have w3:IntKind.u8.wrap (u:Int)=(u:Int):=gi om om
   have w4:IntKind.i64.wrap (l.toNat:Int)=(l.toNat:Int):=bw om om
   have w5:IntKind.i64.wrap (0+(l.toNat:Int))=(l.toNat:Int):=by rw[bw om om]; omega
   simp only[sA,sB,Int.reduceNegSucc,reduceCtorEq,Nat.reduceEqDiff,↓reduceIte,Nat.reduceAdd,Int.reduceEq,Int.reduceLT,Int.reduceLE,Nat.reduceLT,n32,c1',c2',w3,cW l1,w4,w5]
   exact⟨⟨l.toNat,by trivial,l2,l3 h0,om⟩,by trivial⟩
def ml:List aa:=(List.range 20).map fun i=>.int .u64 ((10 ^ i:Nat):Int)
theorem Ep{i:Nat}(h:i<20):ml[i]?=some (.int .u64 ((10 ^ i:Nat):Int)):=by
 simp[ml,h]
theorem wY(h78:aB.is 79=false)(h93:aB.is 83=false)(h94:aB.is 84=false)(h95:aB.is 85=false){u:Nat}(h0:0<u)(hu:u<4294967296){H:ab}(G:pM H 1 ml) :
  an Tryd.prog aB 79 [.int .u64 (u:Int)] H fun v H'=>(∃k:Nat,v=.int .i64 ((k+1:Nat):Int)/\10 ^ k<=u/\u<10 ^ (k+1)/\k<10)/\H'=H:=by
 refine ak h78 Mt rfl ?_
 simp only[c79,sA,sB,Int.reduceNegSucc,reduceCtorEq,Nat.reduceEqDiff,↓reduceIte,Nat.reduceAdd,Int.reduceEq,Int.reduceLT,Int.reduceLE,Nat.reduceLT]
 refine (yV h94 h0 hu).mono ?_
 rintro v _ ⟨⟨L,rfl,l1,l2,l3⟩,rfl⟩
 simp only[sA,sB,Int.reduceNegSucc,reduceCtorEq,Nat.reduceEqDiff,↓reduceIte,Nat.reduceAdd,Int.reduceEq,Int.reduceLT,Int.reduceLE,Nat.reduceLT]
 refine (yS h93 (show L<=64 by omega)).mono ?_
 rintro v _ ⟨rfl,rfl⟩
 have hL:1<=L:=by
  rcases Nat.eq_zero_or_pos L with h | h
  ·subst h; simp at l1; omega
  ·exact h
 have all:∀L,L<=32->1<=L->2 ^ L<=10 ^ (L*78913 / 262144+1)/\(10 ^ (L*78913 / 262144-1)*2<=2 ^ L)/\L*78913 / 262144<10:=of_decide_eq_true (by kernel_rfl)
 obtain⟨a1,a2,a3⟩:=all L l3 hL
 generalize L*78913 / 262144=t at *
 have ht:t<20:=om
 simp only[sA,sB,Int.reduceNegSucc,reduceCtorEq,Nat.reduceEqDiff,↓reduceIte,Nat.reduceAdd,Int.reduceEq,Int.reduceLT,Int.reduceLE,Nat.reduceLT,Ky G (n:=20) dD ht,Iz G (n:=20) dD (Ep ht)]
 refine (zQ h95 _).mono ?_
 rintro v _ ⟨rfl,rfl⟩
 by_cases hc:10 ^ t<=u
 ·have hc':((10 ^ t:Nat):Int)<=(u:Int):=om
  have w:IntKind.i64.wrap ((t:Int)+1)=((t+1:Nat):Int):=by rw[bw om om]; omega
  simp only[sA,sB,Int.reduceNegSucc,reduceCtorEq,Nat.reduceEqDiff,↓reduceIte,Nat.reduceAdd,Int.reduceEq,Int.reduceLT,Int.reduceLE,Nat.reduceLT,hc',w]
  exact⟨⟨t,by trivial,hc,om,a3⟩,by trivial⟩
 ·have hc':¬((10 ^ t:Nat):Int)<=(u:Int):=om
  have w:IntKind.i64.wrap ((t:Int)+0)=(t:Int):=by rw[bw om om]; omega
  simp only[sA,sB,Int.reduceNegSucc,reduceCtorEq,Nat.reduceEqDiff,↓reduceIte,Nat.reduceAdd,Int.reduceEq,Int.reduceLT,Int.reduceLE,Nat.reduceLT,hc',w]
  have ht0:t≠0:=by rintro rfl; simp at hc; omega
  obtain⟨s,rfl⟩:=Nat.exists_eq_succ_of_ne_zero ht0
  exact⟨⟨s,rfl,by simp at a2; omega,by simpa using hc,om⟩,by trivial⟩
open Go.Abs Go.Abs.S
def put:Nat->List Nat->Nat->List Nat
 | 0,l,_=>l
 | i+1,l,u=>put i (l.set i (48+u % 10)) (u / 10)
def yq(l:List Nat)(i d:Nat):List Nat:=(l.set (i+1) (48+d % 10)).set i (48+d / 10)
theorem ew(l:List Nat)(i d:Nat):(yq l i d).length=l.length:=by simp[yq]
theorem jt(i:Nat)(l:List Nat)(u:Nat):put (i+2) l u=put i (yq l i (u % 100)) (u / 100):=by
 simp only[put,yq]
 rw[Nat.div_div_eq_div_mul]
 congr 3
 ·omega
 ·omega
theorem ws:∀(k:Nat) (l:List Nat) (u:Nat),k<=l.length->put k l u=(pd k u).map (48+·)++l.drop k
 | 0,l,u,_=>by simp[put,pd]
 | k+1,l,u,h=>by
  rw[put,ws k _ _ (by simp; omega),pd,List.map_append,Oe]
  congr 1
  have hlt:k<(l.set k (48+u % 10)).length:=by simp; omega
  rw[List.drop_eq_getElem_cons hlt]
  simp[List.drop_set]
theorem AF:∀(k:Nat) (l:List Nat) (u:Nat),(put k l u).length=l.length
 | 0,l,u=>rfl
 | k+1,l,u=>by rw[put,AF k]; simp
theorem gJ{H:ab}{b:Nat}{l:List Nat}(hr:bc H b (nV l))(hl:l.length=24){i d:Nat}(hi:i+1<24) :
  ∃H1 H2,bx 1 H (af b 24 (i+1)) (.int .u8 ((48+d % 10:Nat):Int))=some H1/\bx 1 H1 (af b 24 i) (.int .u8 ((48+d / 10:Nat):Int))=some H2/\bc H2 b (nV (yq l i d))/\H2.next=H.next/\∀c,c≠b->H2.get c=H.get c:=by
 obtain⟨H1,m1,r1,n1,k1⟩:=bM hr (n:=24) (by rw[jp,hl]) (i:=i+1) om (x:=.int .u8 ((48+d % 10:Nat):Int)) rfl
 rw[<- mO]at r1
 obtain⟨H2,m2,r2,n2,k2⟩:=bM r1 (n:=24) (by rw[jp]; simpa using hl) (i:=i) om (x:=.int .u8 ((48+d / 10:Nat):Int)) rfl
 rw[<- mO]at r2
 exact⟨H1,H2,m1,m2,r2,om,fun c hc=>(k2 c hc).trans (k1 c hc)⟩
def sf:bE->bE
 | .seq _ b=>b
 | c=>c
def Jq(t:bE):bE:=match KM.body with
 | .seq a (.seq b (.seq c (.seq d _)))=>.seq a (.seq b (.seq c (.seq d t)))
 | x=>x
def zG:bE:=sf (sf (sf (sf KM.body)))
set_option maxRecDepth 100000 in
theorem J6{b k:Nat}(hk:k<=24){R:List Nat}{Q:ab->Prop}(hQ:∀H',bc H' b (nV R)->Q H'->Q H'){H0:ab}{H:ab}{m:List Nat}(hm:m.length=24){i x:Nat}(hi:i<4)(hik:i<=k)(hx:x<10 ^ i)(hp:put i m x=R)
  {T:bU} (g0:T 0=gC b 24 k) (g4:T 4=.int .i64 (i:Int)) (g12:T 12=.int .u32 (x:Int)) (hr:bc H b (nV m)) (hn:H.next=H0.next) (ho:∀c,c≠b->H.get c=H0.get c) :
  wp (an Tryd.prog aB) zG (fin KM.res fun v H'=>bc H' b (nV R)/\H'.next=H0.next/\∀c,c≠b->H'.get c=H0.get c) T H:=by
 simp only[zG,sf,KM,<- lV,sA,sB,seval]
 have fin1:∀{T:bU} {H:ab} {m:List Nat} {x:Nat},x<10->m.length=24->put 1 m x=R->bc H b (nV m)->H.next=H0.next->(∀c,c≠b->H.get c=H0.get c)->1<=k ->
   IntKind.u32.wrap (48+(x:Int))=((48+x:Nat):Int)/\IntKind.u8.wrap ((48+x:Nat):Int)=((48+x:Nat):Int)/\eB 1 (gC b 24 k) (.int .i64 0)=some (af b 24 0) /\
   ∃H',bx 1 H (af b 24 0) (.int .u8 ((48+x:Nat):Int))=some H'/\bc H' b (nV R)/\H'.next=H0.next/\∀c,c≠b->H'.get c=H0.get c:=by
  intro T H m x hx hm hp hr hn ho hk1
  refine⟨by rw[fI om om]; omega,gi om om,jF .i64 (i:=0) hk1,?_⟩
  obtain⟨H1,m1,r1,n1,k1⟩:=bM hr (n:=24) (by rw[jp,hm]) (i:=0) om (x:=.int .u8 ((48+x:Nat):Int)) rfl
  rw[<- mO]at r1
  refine⟨H1,m1,?_,om,fun c hc=>(k1 c hc).trans (ho c hc)⟩
  have:x % 10=x:=om
  rw[<- hp]
  simpa only [put,this] using r1
 by_cases c2:2<=i
 ·obtain⟨j,rfl⟩:∃j,i=j+2:=⟨i-2,om⟩
  have c2':(2:Int)<=((j+2:Nat):Int):=om
  have e1:=oh (a:=x) 100 om
  have hx4:x<10 ^ 4:=Of hx (Nat.pow_le_pow_right om om)
  have e2:=oi (a:=x) 100 om om
  simp only[Int.cast_ofNat_Int]at e1 e2
  have w1:IntKind.u32.wrap (((x % 100:Nat):Int)*2)=((x % 100*2:Nat):Int):=by rw[fI om om]; omega
  have w2:IntKind.u32.wrap (((x % 100*2:Nat):Int)+1)=((x % 100*2+1:Nat):Int):=by rw[fI om om]; omega
  have s1:IntKind.i64.wrap (((j+2:Nat):Int)-1)=((j+1:Nat):Int):=by rw[bw om om]; omega
  have s2:IntKind.i64.wrap (((j+2:Nat):Int)-2)=((j:Nat):Int):=by rw[bw om om]; omega
  obtain⟨H1,H2,m1,m2,r2,n2,k2⟩:=gJ hr hm (i:=j) (d:=x % 100) om
  have hd:x % 100<100:=om
  rw[jt]at hp
  by_cases c0:0<j
  ·have hj:j=1:=om
   have c0':(0:Int)<(j:Int):=om
   have hx2:x / 100<10:=by
    rw[hj]at hx
    have:x<10 ^ 3:=hx
    omega
   rw[hj]at hp r2
   obtain⟨f1,f2,f3,H3,f4,f5⟩:=fin1 (T:=T) hx2 (by rw[ew,hm]) hp r2 om (fun c hc=>(k2 c hc).trans (ho c hc)) om
   simp only[sA,sB,seval,g0,g4,g12,c2',e1,e2,w1,w2,s1,s2,fV hd,eO hd,jF .i64 (show j+1<k by omega),jF .i64 (show j<k by omega),m1,m2,c0',f1,f2,f3,f4,u9]
   exact f5
  ·have hj:j=0:=om
   have c0':¬(0:Int)<(j:Int):=om
   rw[hj]at hp r2
   simp only[sA,sB,seval,g0,g4,g12,c2',e1,e2,w1,w2,s1,s2,fV hd,eO hd,jF .i64 (show j+1<k by omega),jF .i64 (show j<k by omega),m1,m2,c0',u9]
   refine⟨by rw[<- hp]; exact r2,om,fun c hc=>(k2 c hc).trans (ho c hc)⟩
 ·have c2':¬(2:Int)<=(i:Int):=om
  by_cases c0:0<i
  ·have hj:i=1:=om
   have c0':(0:Int)<(i:Int):=om
   rw[hj]at hp hx
   obtain⟨f1,f2,f3,H3,f4,f5⟩:=fin1 (T:=T) (by simpa using hx) hm hp hr hn ho om
   simp only[sA,sB,seval,g0,g4,g12,c2',c0',f1,f2,f3,f4,u9]
   exact f5
  ·have hj:i=0:=om
   have c0':¬(0:Int)<(i:Int):=om
   rw[hj]at hp
   simp only[sA,sB,seval,g0,g4,g12,c2',c0',u9]
   exact⟨by rw[<- hp]; exact hr,hn,ho⟩
set_option maxRecDepth 100000 in
theorem Fw(h79:aB.is 80=false){b k u:Nat}{l:List Nat}{H:ab}(hr:bc H b (nV l))(hl:l.length=24)(hk:k<=24)(hu:u<10 ^ k)(hu64:u<18446744073709551616) :
  an Tryd.prog aB 80 [gC b 24 k,.int .u64 (u:Int)] H fun v H'=>bc H' b (nV (put k l u))/\H'.next=H.next/\∀c,c≠b->H'.get c=H.get c:=by
 refine ak h79 Ms rfl ?_
 have t:=fun (T:bU) (H1:ab) (m:List Nat) (i x:Nat) hm hi hik hx hp g0 g4 g12 hr hn ho=>J6 (b:=b) (k:=k) hk (R:=put k l u) (Q:=fun _=>True) (fun _ _ h=>h) (H0:=H) (H:=H1) (m:=m) hm (i:=i) (x:=x) hi hik hx hp (T:=T) g0 g4 g12 hr hn ho
 show wp _ (Jq zG) (fin KM.res _) _ _
 simp only[Jq,KM,<- lV,sA,sB,seval,IG]
 refine bD (fun q (T:bU) H'=>∃(i x:Nat) (m:List Nat),i<=k/\i=q/\m.length=24/\x<10 ^ i/\x<18446744073709551616/\T 0=gC b 24 k/\T 1=.int .u64 (x:Int)/\T 4=.int .i64 (i:Int)/\put i m x=put k l u/\bc H' b (nV m)/\H'.next=H.next/\∀c,c≠b->H'.get c=H.get c) k
  ⟨k,u,l,Nat.le_refl _,rfl,hl,hu,hu64,by simp only[sA,sB,seval],by simp only[sA,sB,seval],by simp only[sA,sB,seval],rfl,hr,rfl,fun c _=>rfl⟩ ?_
 rintro q T H1 ⟨i,x,m,hi,rfl,hm,hx,hx64,g0,g1,g4,hp,hr1,hn,ho⟩
 clear hr
 by_cases c8:8<=i
 ·obtain⟨j,rfl⟩:∃j,i=j+8:=⟨i-8,om⟩
  have c8':(8:Int)<=((j+8:Nat):Int):=om
  have e1:=Kd (a:=x) 100000000 om
  have e2:=Kf (a:=x) 100000000 om hx64
  have w0:IntKind.u32.wrap ((x % 100000000:Nat):Int)=((x % 100000000:Nat):Int):=fI om om
  have p1:x % 100000000 % 10000 % 100=x % 100:=om
  have p2:x % 100000000 % 10000 / 100=x / 100 % 100:=om
  have p3:x % 100000000 / 10000 % 100=x / 100 / 100 % 100:=om
  have p4:x % 100000000 / 10000 / 100=x / 100 / 100 / 100 % 100:=om
  have p5:x / 100 / 100 / 100 / 100=x / 100000000:=om
  rw[jt (j+6),jt (j+4),jt (j+2),jt j,p5,<- p1,<- p2,<- p3,<- p4]at hp
  have hA:x % 100000000<100000000:=om
  have hx':x / 100000000<10 ^ j:=by
   rw[Nat.pow_add]at hx
   exact Nat.div_lt_of_lt_mul (by rw[Nat.mul_comm]; exact hx)
  have hxx:x / 100000000<18446744073709551616:=om
  generalize x / 100000000=x' at *
  generalize x % 100000000=A at *
  have e3:=oi (a:=A) 10000 om om
  have e4:=oh (a:=A) 10000 om
  have hB:A / 10000<10000:=om
  have hC:A % 10000<10000:=om
  generalize A / 10000=B at *
  generalize A % 10000=C at *
  have e5:=oi (a:=C) 100 om om
  have e6:=oh (a:=C) 100 om
  have e7:=oi (a:=B) 100 om om
  have e8:=oh (a:=B) 100 om
  have d1:C % 100<100:=om
  have d2:C / 100<100:=om
  have d3:B % 100<100:=om
  have d4:B / 100<100:=om
  generalize C % 100=y1 at *
  generalize C / 100=y2 at *
  generalize B % 100=y3 at *
  generalize B / 100=y4 at *
  simp only[Int.cast_ofNat_Int]at e1 e2 e3 e4 e5 e6 e7 e8
  have ww:∀y:Nat,y<100->IntKind.u32.wrap ((y:Int)*2)=((y*2:Nat):Int):=fun y hy=>by rw[fI om om]; omega
  have wa:∀y:Nat,y<100->IntKind.u32.wrap (((y*2:Nat):Int)+1)=((y*2+1:Nat):Int):=fun y hy=>by rw[fI om om]; omega
  have s1:IntKind.i64.wrap (((j+8:Nat):Int)-1)=((j+6+1:Nat):Int):=by rw[bw om om]; omega
  have s2:IntKind.i64.wrap (((j+8:Nat):Int)-2)=((j+6:Nat):Int):=by rw[bw om om]; omega
  have s3:IntKind.i64.wrap (((j+8:Nat):Int)-3)=((j+4+1:Nat):Int):=by rw[bw om om]; omega
  have s4:IntKind.i64.wrap (((j+8:Nat):Int)-4)=((j+4:Nat):Int):=by rw[bw om om]; omega
  have s5:IntKind.i64.wrap (((j+8:Nat):Int)-5)=((j+2+1:Nat):Int):=by rw[bw om om]; omega
  have s6:IntKind.i64.wrap (((j+8:Nat):Int)-6)=((j+2:Nat):Int):=by rw[bw om om]; omega
  have s7:IntKind.i64.wrap (((j+8:Nat):Int)-7)=((j+1:Nat):Int):=by rw[bw om om]; omega
  have s8:IntKind.i64.wrap (((j+8:Nat):Int)-8)=((j:Nat):Int):=by rw[bw om om]; omega
  obtain⟨H2,H3,m2,m3,r3,n3,k3⟩:=gJ hr1 hm (i:=j+6) (d:=y1) om
  obtain⟨H4,H5,m4,m5,r5,n5,k5⟩:=gJ r3 (by rw[ew,hm]) (i:=j+4) (d:=y2) om
  obtain⟨H6,H7,m6,m7,r7,n7,k7⟩:=gJ r5 (by rw[ew,ew,hm]) (i:=j+2) (d:=y3) om
  obtain⟨H8,H9,m8,m9,r9,n9,k9⟩:=gJ r7 (by rw[ew,ew,ew,hm]) (i:=j) (d:=y4) om
  have ix:∀i,i<k->eB 1 (gC b 24 k) (.int .i64 (i:Int))=some (af b 24 i):=fun i h=>jF .i64 h
  simp only[sA,sB,seval,g0,g1,g4,c8',e1,e2,e3,e4,e5,e6,e7,e8,w0,ww y1 d1,ww y2 d2,ww y3 d3,ww y4 d4,wa y1 d1,wa y2 d2,wa y3 d3,wa y4 d4,s1,s2,s3,s4,s5,s6,s7,s8,fV d1,eO d1,fV d2,eO d2,fV d3,eO d3,fV d4,eO d4,
   ix (j+6+1) om,ix (j+6) om,ix (j+4+1) om,ix (j+4) om,ix (j+2+1) om,ix (j+2) om,ix (j+1) om,ix j om,m2,m3,m4,m5,m6,m7,m8,m9]
  refine⟨_,Nat.lt_add_of_pos_right om,j,x',_,om,rfl,?_,hx',hxx,by trivial,by trivial,by trivial,hp,r9,om,fun c hc=>(k9 c hc).trans ((k7 c hc).trans ((k5 c hc).trans ((k3 c hc).trans (ho c hc))))⟩
  simp only[ew,hm]
 ·have c8':¬(8:Int)<=(i:Int):=om
  have hx7:x<10 ^ 7:=Of hx (Nat.pow_le_pow_right om om)
  have w0:IntKind.u32.wrap (x:Int)=(x:Int):=fI om om
  by_cases c4:4<=i
  ·obtain⟨j,rfl⟩:∃j,i=j+4:=⟨i-4,om⟩
   have c4':(4:Int)<=((j+4:Nat):Int):=om
   have e1:=oh (a:=x) 10000 om
   have e2:=oi (a:=x) 10000 om om
   have p1:x % 10000 % 100=x % 100:=om
   have p2:x % 10000 / 100=x / 100 % 100:=om
   have p5:x / 100 / 100=x / 10000:=om
   rw[jt (j+2),jt j,p5,<- p1,<- p2]at hp
   have hx':x / 10000<10 ^ j:=by
    rw[Nat.pow_add]at hx
    exact Nat.div_lt_of_lt_mul (by rw[Nat.mul_comm]; exact hx)
   have hC:x % 10000<10000:=om
   generalize x / 10000=x' at *
   generalize x % 10000=C at *
   have e5:=oi (a:=C) 100 om om
   have e6:=oh (a:=C) 100 om
   have d1:C % 100<100:=om
   have d2:C / 100<100:=om
   generalize C % 100=y1 at *
   generalize C / 100=y2 at *
   simp only[Int.cast_ofNat_Int]at e1 e2 e5 e6
   have ww:∀y:Nat,y<100->IntKind.u32.wrap ((y:Int)*2)=((y*2:Nat):Int):=fun y hy=>by rw[fI om om]; omega
   have wa:∀y:Nat,y<100->IntKind.u32.wrap (((y*2:Nat):Int)+1)=((y*2+1:Nat):Int):=fun y hy=>by rw[fI om om]; omega
   have s1:IntKind.i64.wrap (((j+4:Nat):Int)-1)=((j+2+1:Nat):Int):=by rw[bw om om]; omega
   have s2:IntKind.i64.wrap (((j+4:Nat):Int)-2)=((j+2:Nat):Int):=by rw[bw om om]; omega
   have s3:IntKind.i64.wrap (((j+4:Nat):Int)-3)=((j+1:Nat):Int):=by rw[bw om om]; omega
   have s4:IntKind.i64.wrap (((j+4:Nat):Int)-4)=((j:Nat):Int):=by rw[bw om om]; omega
   obtain⟨H2,H3,m2,m3,r3,n3,k3⟩:=gJ hr1 hm (i:=j+2) (d:=y1) om
   obtain⟨H4,H5,m4,m5,r5,n5,k5⟩:=gJ r3 (by rw[ew,hm]) (i:=j) (d:=y2) om
   have ix:∀i,i<k->eB 1 (gC b 24 k) (.int .i64 (i:Int))=some (af b 24 i):=fun i h=>jF .i64 h
   simp only[sA,sB,seval,g0,g1,g4,c8',w0,c4',e1,e2,e5,e6,ww y1 d1,ww y2 d2,wa y1 d1,wa y2 d2,s1,s2,s3,s4,fV d1,eO d1,fV d2,eO d2,ix (j+2+1) om,ix (j+2) om,ix (j+1) om,ix j om,m2,m3,m4,m5]
   refine t _ _ (yq (yq m (j+2) y1) j y2) j x' ?_ om om hx' hp ?_ ?_ ?_ r5 om fun c hc=>(k5 c hc).trans ((k3 c hc).trans (ho c hc))
   ·simp only[ew,hm]
   all_goals simp only[sA,sB,seval,g0]
  ·have c4':¬(4:Int)<=(i:Int):=om
   simp only[sA,sB,seval,g0,g1,g4,c8',w0,c4']
   refine t _ _ m i x hm om hi hx hp ?_ ?_ ?_ hr1 hn ho
   all_goals simp only[sA,sB,seval,g0,g4]
open Go.Abs Go.Abs.S
theorem EO{l:List Nat}(h:∀d∈l,d<=9):nV (l.map (48+·))=cX (cQ l):=by
 simp only[nV,cX,cQ,List.map_map]
 apply List.map_congr_left
 intro d hd
 have:=h d hd
 have e:(UInt8.ofNat (48+d)).toNat=48+d:=by rw[UInt8.toNat_ofNat']; omega
 simp[e]; omega
theorem Et:∀(k u:Nat),∀d∈pd k u,d<=9
 | 0,_,d,h=>by simp[pd]at h
 | k+1,u,d,h=>by
  rcases List.mem_append.1 h with h | h
  ·exact Et k _ d h
  ·simp at h; omega
structure GU(N:fq):Prop where
 (h56:N.is 73=false) (h77:N.is 78=false) (h78:N.is 79=false) (h79:N.is 80=false) (h93:N.is 83=false) (h94:N.is 84=false) (h95:N.is 85=false) (h33:N.is 68=false)
theorem Gv(hN:GU aB){b cap u:Nat}{s:Bs}{H:ab}(hb:vB H b cap s)(hbn:b<H.next)(hn1:1<H.next)(G:pM H 1 ml)(hu:u<4294967296)(hf:s.length+10<=cap)(hc:cap<=1000000) :
  an Tryd.prog aB 73 [gC b cap s.length,.int .u64 (u:Int),.int .i64 10] H fun v H'=>v=gC b cap (s++cQ (ef u)).length/\vB H' b cap (s++cQ (ef u))/\H.next<=H'.next/\∀c,c<H.next->c≠b->H'.get c=H.get c:=by
 refine ak hN.h56 Mv rfl ?_
 by_cases c1:u<100
 ·have c1':(u:Int)<100:=om
  have w1:IntKind.i64.wrap (u:Int)=(u:Int):=bw om om
  simp only[NF,sA,sB,seval,c1',w1]
  refine (yi hN.h77 c1).mono ?_
  rintro v _ ⟨rfl,rfl⟩
  have hl:=qX 9 u om
  obtain⟨H2,m2,b2,n2,k2⟩:=rJ hb (HE _ (cQ (ef u))) (zS u) (by rw[lB]; omega) hc
  simp only[sA,sB,seval,m2]
  exact⟨by trivial,b2,om,fun c _ hne=>k2 c hne⟩
 ·have c1':¬(u:Int)<100:=om
  obtain⟨H1,m1,r1,n1,k1⟩:=aG H (nV (List.replicate 24 0)) (n:=24) rfl
  have hz:nV (List.replicate 24 0)=[.int .u8 0,.int .u8 0,.int .u8 0,.int .u8 0,.int .u8 0,.int .u8 0,.int .u8 0,.int .u8 0,.int .u8 0,.int .u8 0,.int .u8 0,.int .u8 0,.int .u8 0,.int .u8 0,.int .u8 0,.int .u8 0,.int .u8 0,.int .u8 0,.int .u8 0,.int .u8 0,.int .u8 0,.int .u8 0,.int .u8 0,.int .u8 0]:=rfl
  rw[hz]at m1
  simp only[NF,sA,sB,seval,c1',m1]
  have G1:pM H1 1 ml:=by unfold pM; rw[k1 1 om]; exact G
  refine (wY hN.h78 hN.h93 hN.h94 hN.h95 (u:=u) om hu G1).mono ?_
  rintro v _ ⟨⟨k,rfl,q1,q2,q3⟩,rfl⟩
  simp only[sA,sB,seval,Ax (show k+1<=24 by omega) om]
  refine (Fw hN.h79 r1 (by simp) (show k+1<=24 by omega) q2 om).mono ?_
  rintro v H2 ⟨r2,n2,k2⟩
  have hB:vB H2 H.next 24 (cQ (ef u)):=by
   refine⟨_,r2,by rw[jp,AF]; simp,?_⟩
   rw[ws _ _ _ (by simp; omega),yF k u q1 q2]
   have e:nV ((ef u).map (48+·))=cX (cQ (ef u)):=by
    rw[<- yF k u q1 q2]; exact EO (Et _ _)
   simp only[nV,List.map_append]at e ⊢
   rw[e]
   have:(cQ (ef u)).length=(cX (cQ (ef u))).length:=by rw[nI]
   rw[this,List.take_left]
  have hlen:(cQ (ef u)).length=k+1:=by rw[lB,<- yF k u q1 q2,Kh]
  have hb2:vB H2 b cap s:=by
   refine hb.same ?_
   rw[k2 b om,k1 b om]
  have hs:=IF hB om
  obtain⟨H3,m3,b3,n3,k3⟩:=rJ hb2 hs (zS u) om hc
  rw[hlen]at m3
  simp only[sA,sB,seval,Ax (show k+1<=24 by omega) om,m3]
  exact⟨by trivial,b3,om,fun c hc hne=>by rw[k3 c hne,k2 c om,k1 c om]⟩
theorem xN(hN:GU aB){b cap u:Nat}{s:Bs}{H:ab}(hb:vB H b cap s)(hbn:b<H.next)(hn1:1<H.next)(G:pM H 1 ml)(hu:u<4294967296)(hf:s.length+10<=cap)(hc:cap<=1000000) :
  an Tryd.prog aB 68 [gC b cap s.length,.int .u64 (u:Int),.int .i64 10] H fun v H'=>v=gC b cap (s++cQ (ef u)).length/\vB H' b cap (s++cQ (ef u))/\H.next<=H'.next/\∀c,c<H.next->c≠b->H'.get c=H.get c:=by
 refine ak hN.h33 Mz rfl ?_
 simp only[c68,sA,sB,seval]
 refine (Gv hN hb hbn hn1 G hu hf hc).mono ?_
 rintro v H' ⟨rfl,h⟩
 simp only[sA,sB,seval]
 exact⟨by trivial,h⟩
def HQ(t:bE):bE:=match IE.body with
 | .seq a (.seq b (.seq c (.seq d _)))=>.seq a (.seq b (.seq c (.seq d t)))
 | x=>x
def Bo:bE:=sf (sf (sf (sf IE.body)))
theorem Jg(hN:GU aB){H0:ab}(hn0:1<H0.next)(G:pM H0 1 ml){sg:Bs}(hsg:sg.length<=1){n:Nat}(hn:n<=9223372036854775808){T:bU}{H:ab}{b:Nat}(hb:vB H b 48 sg)(hb0:H0.next<=b)(hbn:b<H.next)(hE:b7 H0.next H0 H)
  (g3:T 3=.int .u64 (n:Int)) (g4:T 4=gC b 48 sg.length) :
  wp (an Tryd.prog aB) Bo (fin IE.res fun v H'=>v=.str (sg++(cQ (ef (n / 4294967296))++hZ (n % 4294967296)))/\b7 H0.next H0 H') T H:=by
 have e1:=Ck .u64 .u64 n (b:=32) dD
 simp only[Int.cast_ofNat_Int,Nat.reducePow]at e1
 have e2:=rD (a:=n) (b:=4294967295) om dD
 have e2':n &&& 4294967295=n % 4294967296:=Nat.and_two_pow_sub_one_eq_mod n 32
 rw[e2']at e2
 simp only[Int.cast_ofNat_Int]at e2
 have hl10:(cQ (ef (n / 4294967296))).length<=10:=by rw[lB]; exact qX 9 _ om
 simp only[Bo,sf,IE,sA,sB,seval,g3,g4,e1]
 refine (xN hN hb hbn (by have:=hE.next; omega) (G.ext hn0 hE) (show n / 4294967296<4294967296 by omega) om om).mono ?_
 rintro v H1 ⟨rfl,hb1,hn1,ho1⟩
 have hE1:b7 H0.next H0 H1:=⟨by have:=hE.next; omega,fun c hc=>by rw[ho1 c (by have:=hE.next; omega) om,hE.old c hc]⟩
 have hr:n % 4294967296<4294967296:=om
 generalize n % 4294967296=r at *
 generalize cQ (ef (n / 4294967296))=w at *
 have hbn1:b<H1.next:=om
 clear hb hbn hE ho1 hn1
 by_cases hr0:r=0
 ·subst hr0
  have hbs:=FX hb1 (by simp; omega)
  simp only[sA,sB,seval,g3,e2,hbs]
  exact⟨by simp[hZ],hE1⟩
 ·have hz:¬((r:Nat):Int)=0:=om
  have ht:hZ r=[46]++cQ (dJ 32 r):=by rw[hZ,if_neg hr0]; rfl
  rw[ht]
  have hb2:vB (H1.push (.cells [.int .u8 46] 0 false)) b 48 (sg++w):=hb1.same (aE hbn1)
  obtain⟨H2,m2,b2,n2,k2⟩:=rJ hb2 (x:=[46]) (HG H1 (.int .u8 46)) (by simp) (by simp; omega) om
  have hE2:b7 H0.next H0 H2:=⟨by rw[n2,a8]; have:=hE1.next; omega,fun c hc=>by rw[k2 c om,aE (by have:=hE1.next; omega),hE1.old c hc]⟩
  have hbn2:b<H2.next:=by rw[n2,a8]; omega
  simp only[sA,sB,seval,g3,e2,hz,iK _ _ (x:=.int .u8 46) rfl,m2]
  refine bD (fun q (T:bU) H'=>∃(x:Nat) (acc:Bs),q<=32/\x<4294967296/\2 ^ (32-q) ∣ x/\acc.length+q<=44/\T 5=.int .u64 (x:Int)/\T 4=gC b 48 acc.length/\vB H' b 48 acc/\b<H'.next/\acc++cQ (dJ q x)=sg++(w++([46]++cQ (dJ 32 r)))/\b7 H0.next H0 H') 32
   ⟨r,sg++w++[46],Nat.le_refl _,hr,by simp,by simp; omega,by simp only[sA,sB,seval],by simp only[sA,sB,seval],b2,hbn2,by simp,hE2⟩ ?_
  clear g3 g4 hb1 hb2 b2 m2 n2 k2 hE1 hE2 hbn1 hbn2 T H H1 H2 e1 e2 hz
  rintro q T H1 ⟨x,acc,hq,hx,hdv,hal,g5,g4,hb1,hbn1,hA,hE1⟩
  by_cases hx0:x=0
  ·subst hx0
   have hf:dJ q 0=[]:=by cases q <;> simp[dJ]
   rw[hf]at hA
   simp only[cQ,List.map_nil,List.append_nil]at hA
   have hbs:=FX hb1 om
   simp only[sA,sB,seval,g4,g5,hbs,Int.cast_ofNat_Int]
   exact⟨by rw[hA]; rfl,hE1⟩
  ·obtain⟨k',rfl,hf,hdv'⟩:=tK hq hx hdv hx0
   have hz:¬((x:Nat):Int)=0:=om
   have w1:IntKind.u64.wrap ((x:Int)*10)=((x*10:Nat):Int):=by rw[Hq om om]; omega
   have e1:=Ck .u64 .u64 (x*10) (b:=32) dD
   simp only[Int.cast_ofNat_Int,Nat.reducePow]at e1
   have e2:=rD (a:=x*10) (b:=4294967295) om dD
   have e2':x*10 &&& 4294967295=x*10 % 4294967296:=Nat.and_two_pow_sub_one_eq_mod (x*10) 32
   rw[e2']at e2
   simp only[Int.cast_ofNat_Int]at e2
   have w4:IntKind.u8.wrap ((x*10 / 4294967296:Nat):Int)=((x*10 / 4294967296:Nat):Int):=gi om om
   have w5:IntKind.u8.wrap (48+((x*10 / 4294967296:Nat):Int))=((48+x*10 / 4294967296:Nat):Int):=by rw[gi om om]; omega
   have hd:x*10 / 4294967296<10:=om
   have hu:(UInt8.ofNat (48+x*10 / 4294967296)).toNat=48+x*10 / 4294967296:=by rw[UInt8.toNat_ofNat']; omega
   have hb2:vB (H1.push (.cells [.int .u8 ((48+x*10 / 4294967296:Nat):Int)] 0 false)) b 48 acc:=hb1.same (aE hbn1)
   have hsrc:=HG H1 (.int .u8 ((48+x*10 / 4294967296:Nat):Int))
   have hby:[aa.int .u8 ((48+x*10 / 4294967296:Nat):Int)]=cX [UInt8.ofNat (48+x*10 / 4294967296)]:=by simp only[cX,List.map_cons,List.map_nil,hu]
   obtain⟨H2,m2,b2,n2,k2⟩:=rJ hb2 (x:=[UInt8.ofNat (48+x*10 / 4294967296)]) (by rw[<- hby]; exact hsrc) (by simp) (by simp; omega) om
   have hE2:b7 H0.next H0 H2:=⟨by rw[n2,a8]; have:=hE1.next; omega,fun c hc=>by rw[k2 c om,aE (by have:=hE1.next; omega),hE1.old c hc]⟩
   simp only[sA,sB,seval,g4,g5,hz,w1,e1,e2,w4,w5,iK _ _ (x:=.int .u8 ((48+x*10 / 4294967296:Nat):Int)) rfl,m2]
   refine⟨k',om,x*10 % 4294967296,_,om,om,hdv',?_,by trivial,rfl,b2,by rw[n2,a8]; omega,?_,hE2⟩
   ·simp; omega
   ·refine Eq.trans ?_ hA
    rw[hf]; simp[cQ]
theorem Cl(hN:GU aB)(h9:aB.is 54=false){n:Int}(h1:-9223372036854775808<=n)(h2:n<=9223372036854775807){H:ab}(hn:1<H.next)(G:pM H 1 ml) :
  an Tryd.prog aB 54 [.int .i64 n] H fun v H'=>v=.str (bb n)/\b7 H.next H H':=by
 refine ak h9 MK rfl ?_
 have hsz:n.natAbs<=9223372036854775808:=om
 obtain⟨H1,m1,b1,n1,k1⟩:=FW (H:=H) (.int .u8 0) 48 om
 simp only[Int.cast_ofNat_Int]at m1
 have hE1:b7 H.next H H1:=b7.of_new n1 k1 rL
 by_cases hneg:n<0
 ·have w1:IntKind.u64.wrap n=n+18446744073709551616:=by rw[IntKind.wrap_u64]; omega
  have w2:IntKind.u64.wrap (0-(n+18446744073709551616))=(n.natAbs:Int):=by rw[IntKind.wrap_u64]; omega
  have hd:bb n=[45]++(cQ (ef (n.natAbs / 4294967296))++hZ (n.natAbs % 4294967296)):=by rw[bb,if_pos hneg]
  rw[hd]
  have hb2:vB (H1.push (.cells [.int .u8 45] 0 false)) H.next 48 []:=b1.same (aE om)
  obtain⟨H2,m2,b2,n2,k2⟩:=rJ hb2 (x:=[45]) (HG H1 (.int .u8 45)) (by simp) (by simp) om
  simp only[N6]at m2
  have hE2:b7 H.next H H2:=⟨by rw[n2,a8]; omega,fun c hc=>by rw[k2 c om,aE om,hE1.old c hc]⟩
  have t:=fun (T:bU) g3 g4=>Jg hN (H0:=H) hn G (sg:=[45]) (by simp) (n:=n.natAbs) hsz (T:=T) (H:=H2) (b:=H.next) b2 rL (by rw[n2,a8]; omega) hE2 g3 g4
  show wp _ (HQ Bo) (fin IE.res _) _ _
  simp only[HQ,IE,sA,sB,seval,hneg,w1,J2,w2,m1,iK _ _ (x:=.int .u8 45) rfl,m2]
  refine t _ ?_ ?_ <;> simp only[sA,sB,seval] <;> rfl
 ·have w1:IntKind.u64.wrap n=(n.natAbs:Int):=by rw[IntKind.wrap_u64]; omega
  have hd:bb n=[]++(cQ (ef (n.natAbs / 4294967296))++hZ (n.natAbs % 4294967296)):=by rw[bb,if_neg hneg]
  rw[hd]
  have t:=fun (T:bU) g3 g4=>Jg hN (H0:=H) hn G (sg:=[]) (by simp) (n:=n.natAbs) hsz (T:=T) (H:=H1) (b:=H.next) b1 rL om hE1 g3 g4
  show wp _ (HQ Bo) (fin IE.res _) _ _
  simp only[HQ,IE,sA,sB,seval,hneg,w1,m1]
  refine t _ ?_ ?_ <;> simp only[sA,sB,seval] <;> rfl
open Go.Abs Go.Abs.S
structure L9(N:fq):Prop where
 no:∀f,f≠64->N.is f=false
 yes:N.is 64=true
 clone:∀(s:Bs) (H:ab),s.length<=281474976710656->N.run 64 [.str s] H=some (.str s,H)
theorem L9.str(h:L9 aB):GU aB:=⟨h.no _ dD,h.no _ dD,h.no _ dD,h.no _ dD,h.no _ dD,h.no _ dD,h.no _ dD,h.no _ dD⟩
theorem rj(hN:L9 aB){s:Bs}(hs:s.length<=281474976710656){H:ab}:an Tryd.prog aB 48 [.str s] H fun v H'=>v=.str s/\H=H':=by
 refine ak (hN.no _ dD) MQ rfl ?_
 simp only[c48,sA,sB,seval]
 refine zW hN.yes (hN.clone s H hs) ?_
 simp only[sA,sB,seval]
 exact⟨by trivial,by trivial⟩
def sub(s:Bs)(i e:Nat):Bs:=(s.drop i).take (e-i)
def kM(k:Nat)(S:Bs)(n line at_ en:Nat):List aa:=[.int .u8 (k:Int),.str S,.int .i64 (n:Int),.int .i64 (line:Int),.int .i64 (at_:Int),.int .i64 (en:Int)]
def gq(e line:Nat):List aa:=[.int .i64 (e:Int),.int .i64 (line:Int)]
structure Tok where
 k:Nat
 S:Bs
 n:Nat
 e:Nat
def jQ(s:Bs)(i:Nat):Option Tok:=match s[i]? with
 | none=>none
 | some c=>
  if dig c=true then (match ek (sub s i (ep s i)) with | some n=>some ⟨1,[],n,ep s i⟩ | none=>none)
  else if beg c=true then some ⟨if ot (sub s i (bg iM s i))=true then 3 else 2,sub s i (bg iM s i),0,bg iM s i⟩
  else if dl (s.drop i)=[] then none else some ⟨4,dl (s.drop i),0,i+(dl (s.drop i)).length⟩
theorem EB{s:Bs}{i:Nat}{c:UInt8}(h:s[i]?=some c):i<ep s i↔dig c=true:=by
 cases hc:dig c with
 | false=>
  have h1:=AA h hc
  have:ep s i=i:=by rw[ep,h1,if_pos (.inl rfl)]
  rw[this]; simp
 | true=>
  have h1:=kQ h hc
  have h2:=gu dig s (i+1)
  have h3:i<ep s i:=by
   unfold ep
   split
   ·omega
   ·split <;> omega
  simp[h3]
def eo:List Bs:=[[38,38],[124,124],[61,61],[33,61],[60,61],[62,61],[60],[62],[43],[45],[42],[47],[33],[40],[41],[123],[125],[44],[59],[61]]
theorem vZ:eo=fS++sn.map (fun c=>[c]):=by decide
theorem qk{c:UInt8}{r:Bs}:dl (c::r)=((eo.find? (pre (c::r))).getD []):=by
 rw[vZ,List.find?_append,dl]
 cases fS.find? (pre (c::r)) with
 | some t=>rfl
 | none=>
  simp only[Option.none_or]
  have key:∀l:Bs,(if c∈l then [c] else [])=((l.map fun c=>[c]).find? (pre (c::r))).getD []:=by
   intro l
   induction l with
   | nil=>simp
   | cons d l ih=>
    have hp:pre (c::r) [d]=decide (c=d):=by simp[pre]
    rw[List.map_cons]
    by_cases h:c=d
    ·subst h
     rw[List.find?_cons_of_pos (by rw[hp]; simp)]
     simp
    ·rw[List.find?_cons_of_neg (by rw[hp]; simpa using h),<- ih]
     simp[h]
  exact key sn
theorem HP{s t:Bs}{i:Nat}(hi:i<=s.length):pre (s.drop i) t=(decide (i+t.length<=s.length)&&decide ((s.drop i).take t.length=t)):=by
 unfold pre
 by_cases h:i+t.length<=s.length
 ·simp[h]
 ·have:¬(s.drop i).take t.length=t:=by
   intro e
   have:=congrArg List.length e
   simp at this; omega
  simp[this]
theorem v6{s:Bs}{i:Nat}(hi:i<=s.length):i+(dl (s.drop i)).length<=s.length:=by
 rcases Nat.lt_or_ge i s.length with h | h
 ·obtain⟨c,hc⟩:=bS h
  rw[dn hc,qk,<- dn hc]
  cases hf:eo.find? (pre (s.drop i)) with
  | none=>simpa using hi
  | some t=>
   have:=List.find?_some hf
   rw[HP hi]at this
   simp only[N4,Od]at this
   exact this.1
 ·rw[List.drop_eq_nil_of_le h]
  have:dl []=[]:=by decide
  rw[this]; simpa using hi
theorem jn(k:Nat)(S:Bs)(n line at_ en:Nat):(kM k S n line at_ en).all aa.one=true:=rfl
theorem jo(k:Nat)(S:Bs)(n line at_ en:Nat):(kM k S n line at_ en).length=6:=rfl
def ZW:List aa:=[.int .u8 0,.str [],.int .i64 0,.int .i64 0,.int .i64 0,.int .i64 0]
theorem nJ:bT ZW []=some (.agg (kM 0 [] 0 0 0 0)):=rfl
theorem LZ(i line:Nat):bT ZW [(4,1,.int .i64 (i:Int)),(5,1,.int .i64 (i:Int)),(3,1,.int .i64 (line:Int))]=some (.agg (kM 0 [] 0 line i i)):=rfl
open Go.Abs Go.Abs.S
def eP(w f:List aa):aa:=.tuple [.agg w,.agg f]
def jL(s:Bs)(p:Int):aa:=
 if 16384<s.length then eP (kM 0 [] 0 0 0 0) (gq 3 0)
 else if p<0∨(s.length:Int)<p then eP (kM 0 [] 0 0 0 0) (gq 2 0)
 else if a6 s p.toNat=s.length then eP (kM 5 [] 0 (bC s (a6 s p.toNat)) (a6 s p.toNat) (a6 s p.toNat)) (gq 0 0)
 else match jQ s (a6 s p.toNat) with
  | some t=>eP (kM t.k t.S t.n (bC s (a6 s p.toNat)) (a6 s p.toNat) t.e) (gq 0 0)
  | none=>eP (kM 0 [] 0 0 0 0) (gq 100 (bC s (a6 s p.toNat)))
theorem iP{H:ab}{b:Nat}{l m:List aa}(h6:bc H b l)(hl:l.length=6)(h2:bc H (b+1) m)(hm:m.length=2){xs ys:List aa}(hx:xs.length=6)(ox:xs.all aa.one=true)(hy:ys.length=2)(oy:ys.all aa.one=true) :
  ∃H1 H2,bx 6 H (af b 6 0) (.agg xs)=some H1/\bx 2 H1 (af (b+1) 2 0) (.agg ys)=some H2/\bc H2 b xs/\bc H2 (b+1) ys/\H2.next=H.next/\(∀c,c<b->H2.get c=H.get c)/\∀c,c≠b->H1.get c=H.get c:=by
 obtain⟨H1,m1,r1,n1,k1⟩:=aq h6 hl hx ox
 obtain⟨H2,m2,r2,n2,k2⟩:=aq (h2.same (k1 _ om)) hm hy oy
 exact⟨H1,H2,m1,m2,r1.same (k2 _ om),r2,om,fun c hc=>by rw[k2 c om,k1 c om],k1⟩
theorem jy(e l:Nat):(gq e l).all aa.one=true:=rfl
theorem jz(e l:Nat):(gq e l).length=2:=rfl
abbrev Z2:List aa:=[.int .i64 0,.int .i64 0]
theorem Ie(H:ab):∃H1 H2,fm H ZW=(af H.next 6 0,H1)/\fm H1 [.int .i64 0,.int .i64 0]=(af (H.next+1) 2 0,H2)/\bc H2 H.next ZW/\bc H2 (H.next+1) Z2/\H2.next=H.next+2/\∀c,c<H.next->H2.get c=H.get c:=by
 obtain⟨H1,m1,r1,n1,k1⟩:=aG H ZW (n:=6) rfl
 obtain⟨H2,m2,r2,n2,k2⟩:=aG H1 Z2 (n:=2) rfl
 rw[n1]at m2 r2
 exact⟨H1,H2,m1,m2,r1.same (k2 _ om),r2,om,fun c hc=>by rw[k2 c om,k1 c om]⟩
open Go.Abs Go.Abs.S
theorem BT(a b:Int):aeq (.agg [.int .i64 a,.int .i64 b]) (.agg [.int .i64 a,.int .i64 b])=true:=by
 simp[aeq,aeqs,ku]
theorem tw(hN:L9 aB){s:Bs}{p:Int}(h1:-9223372036854775808<=p)(h2:p<=9223372036854775807){H:ab} :
  an Tryd.prog aB 25 [.str s,.int .i64 p] H fun v H'=>v=jL s p/\b7 H.next H H':=by
 refine ak (hN.no _ dD) Nc rfl ?_
 obtain⟨H1,H2,m1,m2,r6,r2,n2,k2⟩:=Ie H
 have hz:([.int .u8 0,.str [],.int .i64 0,.int .i64 0,.int .i64 0,.int .i64 0]:List aa)=ZW:=rfl
 have g3:bT [.int .i64 0,.int .i64 0] [(0,1,.int .i64 3)]=some (.agg (gq 3 0)):=rfl
 have g2:bT [.int .i64 0,.int .i64 0] [(0,1,.int .i64 2)]=some (.agg (gq 2 0)):=rfl
 have g0:bT [.int .i64 0,.int .i64 0] []=some (.agg (gq 0 0)):=rfl
 have fini:∀(T:bU) (K:ab) (xs ys:List aa),T 4=af H.next 6 0->T 5=af (H.next+1) 2 0->bc K H.next xs->bc K (H.next+1) ys->xs.length=6->ys.length=2->eP xs ys=jL s p->b7 H.next H K ->
   fin [.cell true 6 4,.cell true 2 5] (fun v H'=>v=jL s p/\b7 H.next H H') .ret T K:=by
  intro T K xs ys t4 t5 q6 q2 lx ly he hE
  refine KD _ _ _ _ _ _ _ (v:=.agg xs) (v':=.agg ys) (by rw[t4]; exact aD q6 lx) (by rw[t5]; exact aD q2 ly) ⟨he,hE⟩
 simp only[c25,sA,sB,seval,hz,m1,m2]
 by_cases a1:16384<s.length
 ·have a1':(16384:Int)<(s.length:Int):=om
  obtain⟨H3,H4,m3,m4,q6,q2,n4,k4,_⟩:=iP r6 rfl r2 rfl (jo 0 [] 0 0 0 0) (jn 0 [] 0 0 0 0) (jz 3 0) (jy 3 0)
  simp only[sA,sB,seval,a1',hz,nJ,g3,m3,m4]
  refine fini _ _ _ _ (by simp only[sA,sB,seval]) (by simp only[sA,sB,seval]) q6 q2 rfl rfl (by rw[jL,if_pos a1]) ⟨om,fun c hc=>by rw[k4 c hc,k2 c hc]⟩
 have a1':¬(16384:Int)<(s.length:Int):=om
 by_cases a2:p<0
 ·obtain⟨H3,H4,m3,m4,q6,q2,n4,k4,_⟩:=iP r6 rfl r2 rfl (jo 0 [] 0 0 0 0) (jn 0 [] 0 0 0 0) (jz 2 0) (jy 2 0)
  simp only[sA,sB,seval,a1',a2,hz,nJ,g2,m3,m4]
  refine fini _ _ _ _ (by simp only[sA,sB,seval]) (by simp only[sA,sB,seval]) q6 q2 rfl rfl (by rw[jL,if_neg a1,if_pos (.inl a2)]) ⟨om,fun c hc=>by rw[k4 c hc,k2 c hc]⟩
 by_cases a3:(s.length:Int)<p
 ·obtain⟨H3,H4,m3,m4,q6,q2,n4,k4,_⟩:=iP r6 rfl r2 rfl (jo 0 [] 0 0 0 0) (jn 0 [] 0 0 0 0) (jz 2 0) (jy 2 0)
  simp only[sA,sB,seval,a1',a2,a3,hz,nJ,g2,m3,m4]
  refine fini _ _ _ _ (by simp only[sA,sB,seval]) (by simp only[sA,sB,seval]) q6 q2 rfl rfl (by rw[jL,if_neg a1,if_pos (.inr a3)]) ⟨om,fun c hc=>by rw[k4 c hc,k2 c hc]⟩
 obtain⟨i,rfl⟩:∃i:Nat,p=(i:Int):=⟨p.toNat,om⟩
 have hd:jL s (i:Int)=if a6 s i=s.length then eP (kM 5 [] 0 (bC s (a6 s i)) (a6 s i) (a6 s i)) (gq 0 0) else match jQ s (a6 s i) with
  | some t=>eP (kM t.k t.S t.n (bC s (a6 s i)) (a6 s i) t.e) (gq 0 0)
  | none=>eP (kM 0 [] 0 0 0 0) (gq 100 (bC s (a6 s i))):=by
  rw[jL,if_neg a1,if_neg (by rintro (h | h); exact a2 h; exact a3 h),Int.toNat_natCast] <;> rfl
 simp only[sA,sB,seval,a1',a2,a3]
 refine (Ch (hN.no _ dD) (hN.no _ dD) (hN.no _ dD) (hN.no _ dD) (i:=i) om om).mono ?_
 rintro v _ ⟨rfl,rfl⟩
 have hj1:=qj s i
 rw[hd]at fini
 rw[hd]
 generalize a6 s i=j at *
 simp only[sA,sB,seval,py hj1]
 refine (zE (hN.no _ dD) (s.take j)).mono ?_
 rintro v _ ⟨rfl,rfl⟩
 have hcl:(s.take j).count 10<=j:=by
  have:=List.count_le_length (a:=(10:UInt8)) (l:=s.take j)
  simp at this; omega
 have wl:IntKind.i64.wrap (1+((s.take j).count 10:Int))=(bC s j:Int):=by rw[bw om om]; unfold bC; omega
 obtain⟨H3,m3,q3,n3,k3⟩:=aG H2 ZW (n:=6) rfl
 obtain⟨H4,m4,q4,n4,k4⟩:=aq q3 (n:=6) rfl (jo 0 [] 0 (bC s j) j j) (jn 0 [] 0 (bC s j) j j)
 have l3:=al q4 (n:=6) rfl (i:=3) (x:=.int .i64 (bC s j:Int)) rfl
 obtain⟨H5,m5,q5,n5,k5⟩:=aG H4 Z2 (n:=2) rfl
 have gl:bT [.int .i64 0,.int .i64 0] [(0,1,.int .i64 100),(1,1,.int .i64 (bC s j:Int))]=some (.agg (gq 100 (bC s j))):=rfl
 obtain⟨H6,m6,q6,n6,k6⟩:=aq q5 (n:=2) rfl (jz 100 (bC s j)) (jy 100 (bC s j))
 simp only[sW,sL,iO,ic,nW,sB,seval,wl,hz,LZ,m3,m4,fld0,l3,gl,m5,m6]
 rw[fj]
 have b6:bc H6 H2.next (kM 0 [] 0 (bC s j) j j):=q4.same (by rw[k6 _ om,k5 _ om])
 have p6:bc H6 H.next ZW:=r6.same (by rw[k6 _ om,k5 _ om,k4 _ om,k3 _ om])
 have p2:bc H6 (H.next+1) Z2:=r2.same (by rw[k6 _ om,k5 _ om,k4 _ om,k3 _ om])
 have E6:b7 H.next H H6:=⟨om,fun c hc=>by rw[k6 c om,k5 c om,k4 c om,k3 c om,k2 c hc]⟩
 have hn4:H4.next=H2.next+1:=om
 have hn6:H6.next=H2.next+2:=om
 rw[hn4]at q6
 rw[hn4]
 generalize H2.next=b at *
 clear m1 m2 m3 m4 m5 m6 k3 k4 k5 k6 q3 q4 q5 r6 r2 k2 n3 n4 n5 n6 l3
 refine oC (fun (T:bU) H'=>T 4=af H.next 6 0/\T 5=af (H.next+1) 2 0/\T 6=af b 6 0/\b7 H.next H H'/\bc H' H.next ZW/\bc H' (H.next+1) Z2/\b<H'.next /\
   ∃(k:Nat) (S:Bs) (n e:Nat),bc H' b (kM k S n (bC s j) j e)/\eP (kM k S n (bC s j) j e) (gq 0 0)=if j=s.length then eP (kM 5 [] 0 (bC s j) j j) (gq 0 0) else match jQ s j with
    | some t=>eP (kM t.k t.S t.n (bC s j) j t.e) (gq 0 0)
    | none=>eP (kM 0 [] 0 0 0 0) (gq 100 (bC s j))) (d7 _ _) ?_ ?_
 rotate_left
 ·rintro T H7 ⟨t4,t5,t6,hE7,s6,s2,_,k,S,n,e,hr,he⟩
  obtain⟨H8,H9,m8,m9,u6,u2,n9,k9,_⟩:=iP s6 rfl s2 rfl (jo k S n (bC s j) j e) (jn k S n (bC s j) j e) (jz 0 0) (jy 0 0)
  simp only[sA,sB,seval,t4,t5,t6,aD hr (n:=6) rfl,g0,m8,m9]
  refine fini _ _ _ _ (by simp only[sA,sB,seval,t4]) (by simp only[sA,sB,seval,t5]) u6 u2 rfl rfl he ⟨by have:=hE7.next; omega,fun c hc=>by rw[k9 c hc,hE7.old c hc]⟩
 have hne:H.next+1<b:=om
 by_cases hj:j=s.length
 ·have hj':(j:Int)=(s.length:Int):=om
  obtain⟨H7,m7,q7,n7,k7⟩:=bM b6 (n:=6) rfl (i:=0) om (x:=.int .u8 5) rfl
  simp only[sA,sB,seval,hj',fld0,m7]
  refine⟨by trivial,by trivial,by trivial,⟨by have:=E6.next; omega,fun c hc=>by rw[k7 c om,E6.old c hc]⟩,p6.same (k7 _ om),p2.same (k7 _ om),om,5,[],0,j,q7,by rw[if_pos hj]⟩
 have hj':¬(j:Int)=(s.length:Int):=om
 obtain⟨c,hc⟩:=bS (l:=s) (i:=j) om
 have hone:jQ s j=if dig c=true then (match ek (sub s j (ep s j)) with | some n=>some ⟨1,[],n,ep s j⟩ | none=>none)
  else if beg c=true then some ⟨if ot (sub s j (bg iM s j))=true then 3 else 2,sub s j (bg iM s j),0,bg iM s j⟩
  else if dl (s.drop j)=[] then none else some ⟨4,dl (s.drop j),0,j+(dl (s.drop j)).length⟩:=by
  rw[jQ,hc] <;> rfl
 rw[if_neg hj]at fini
 rw[if_neg hj]
 simp only[sA,sB,seval,hj',cW hc]
 refine (gQ (hN.no _ dD) c _).mono ?_
 rintro v _ ⟨rfl,rfl⟩
 cases hdc:dig c with
 | true=>
  rw[if_pos hdc]at hone
  simp only[sA,sB,seval]
  refine (nu (hN.no _ dD) (hN.no _ dD) (hN.no _ dD) (i:=j) om om).mono ?_
  rintro v _ ⟨rfl,rfl⟩
  have hge:=HZ s j
  have hle:=uN (s:=s) (i:=j) om
  have s1:ec (.str s) (some (.int .i64 (j:Int))) (some (.int .i64 (ep s j:Int)))=some (.str (sub s j (ep s j))):=uD om om
  have hsub:(sub s j (ep s j)).length<=4611686018427387904:=by simp[sub]; omega
  generalize ep s j=e at *
  obtain⟨H7,m7,q7,n7,k7⟩:=bM b6 (n:=6) rfl (i:=5) om (x:=.int .i64 (e:Int)) rfl
  have e7:(kM 0 [] 0 (bC s j) j j).set 5 (.int .i64 (e:Int))=kM 0 [] 0 (bC s j) j e:=rfl
  rw[e7]at q7
  have l5:=al q7 (n:=6) rfl (i:=5) (x:=.int .i64 (e:Int)) rfl
  simp only[sA,sB,seval,fld0,m7,l5,s1]
  refine (wG (hN.no _ dD) (hN.no _ dD) (hN.no _ dD) (hN.no _ dD) (hN.no _ dD) (hN.no _ dD) (hN.no _ dD) (hN.no _ dD) (hN.no _ dD) hsub).mono ?_
  rintro v H8 ⟨rfl,hE8⟩
  have hb8:=hE8.next
  have b8:=q7.same (hE8.old b om)
  have p68:bc H8 H.next ZW:=p6.same (by rw[hE8.old _ om,k7 _ om])
  have p28:bc H8 (H.next+1) Z2:=p2.same (by rw[hE8.old _ om,k7 _ om])
  have f8:bc H8 (b+1) (gq 100 (bC s j)):=q6.same (by rw[hE8.old _ om,k7 _ om])
  have E8:b7 H.next H H8:=⟨by have:=E6.next; omega,fun c hc=>by rw[hE8.old c (by have:=E6.next; omega),k7 c om,E6.old c hc]⟩
  clear l5 m7 q7
  cases hs:ek (sub s j e) with
  | none=>
   rw[hs]at hone
   rw[hone]at fini ⊢
   simp only[Hw,sA,sB,seval,bZ,bY]
   obtain⟨H9,H10,m9,m10,u6,u2,n10,k10,k9⟩:=iP p68 rfl p28 rfl (jo 0 [] 0 0 0 0) (jn 0 [] 0 0 0 0) (jz 100 (bC s j)) (jy 100 (bC s j))
   refine jh rfl ?_
   have lf:=aD f8 (n:=2) rfl
   have f9:bc H9 (b+1) (gq 100 (bC s j)):=f8.same (k9 _ om)
   have lf9:=aD f9 (n:=2) rfl
   simp only[sA,sB,seval,sR,hz,nJ,lf,m9,m10]
   simp only[fN,fO,ez,fP,iJ,and_true,true_and,List.map_cons,List.map_nil,sA,sB,seval]
   refine⟨⟨_,rfl,fun _=>⟨_,lf9,BT _ _⟩⟩,?_⟩
   refine fini _ _ _ _ (by simp only[sA,sB,seval]) (by simp only[sA,sB,seval]) u6 u2 rfl rfl rfl ⟨by have:=E8.next; omega,fun c hc=>by rw[k10 c hc,E8.old c hc]⟩
  | some n=>
   rw[hs]at hone
   rw[hone]
   obtain⟨H9,m9,q9,n9,k9⟩:=bM b8 (n:=6) rfl (i:=0) om (x:=.int .u8 1) rfl
   obtain⟨H10,m10,q10,n10,k10⟩:=bM q9 (n:=6) rfl (i:=2) om (x:=.int .i64 (n:Int)) rfl
   simp only[Hw,sA,sB,seval,bZ,bY,fld0,m9,m10]
   refine⟨by trivial,by trivial,by trivial,⟨by have:=E8.next; omega,fun c hc=>by rw[k10 c om,k9 c om,E8.old c hc]⟩,p68.same (by rw[k10 _ om,k9 _ om]),p28.same (by rw[k10 _ om,k9 _ om]),om,1,[],n,e,q10,rfl⟩
 | false=>
  rw[if_neg (by rw[hdc]; simp)]at hone
  simp only[sA,sB,seval,cW hc]
  refine (o9 (hN.no _ dD) c _).mono ?_
  rintro v _ ⟨rfl,rfl⟩
  cases hbc:beg c with
  | true=>
   rw[if_pos hbc]at hone
   rw[hone]
   simp only[sA,sB,seval]
   refine (jW (hN.no _ dD) (Cw (hN.no _ dD) (hN.no _ dD) (hN.no _ dD)) (i:=j) om om).mono ?_
   rintro v _ ⟨rfl,rfl⟩
   have hje:=ie (p:=iM) (s:=s) (i:=j) om
   have hjg:=gu iM s j
   have s1:ec (.str s) (some (.int .i64 (j:Int))) (some (.int .i64 (bg iM s j:Int)))=some (.str (sub s j (bg iM s j))):=uD hjg hje
   have hsub:(sub s j (bg iM s j)).length<=281474976710656:=by simp[sub]; omega
   generalize sub s j (bg iM s j)=S at *
   generalize bg iM s j=e at *
   obtain⟨H7,m7,q7,n7,k7⟩:=bM b6 (n:=6) rfl (i:=5) om (x:=.int .i64 (e:Int)) rfl
   have e7:(kM 0 [] 0 (bC s j) j j).set 5 (.int .i64 (e:Int))=kM 0 [] 0 (bC s j) j e:=rfl
   rw[e7]at q7
   have l5:=al q7 (n:=6) rfl (i:=5) (x:=.int .i64 (e:Int)) rfl
   simp only[sA,sB,seval,fld0,m7,l5,s1]
   refine (rj hN hsub).mono ?_
   rintro v _ ⟨rfl,rfl⟩
   obtain⟨H8,m8,q8,n8,k8⟩:=bM q7 (n:=6) rfl (i:=0) om (x:=.int .u8 2) rfl
   obtain⟨H9,m9,q9,n9,k9⟩:=bM q8 (n:=6) rfl (i:=1) om (x:=.str S) rfl
   have e9:((kM 0 [] 0 (bC s j) j e).set 0 (.int .u8 2)).set 1 (.str S)=kM 2 S 0 (bC s j) j e:=rfl
   rw[e9]at q9
   have l1:=al q9 (n:=6) rfl (i:=1) (x:=.str S) rfl
   simp only[sA,sB,seval,fld0,m8,m9,l1]
   refine (EX (hN.no _ dD) S).mono ?_
   rintro v _ ⟨rfl,rfl⟩
   have k79:∀c,c≠b->H9.get c=H6.get c:=fun c hc=>by rw[k9 c hc,k8 c hc,k7 c hc]
   cases hk:ot S with
   | true=>
    obtain⟨H10,m10,q10,n10,k10⟩:=bM q9 (n:=6) rfl (i:=0) om (x:=.int .u8 3) rfl
    simp only[sA,sB,seval,fld0,m10]
    refine⟨by trivial,by trivial,by trivial,⟨by have:=E6.next; omega,fun c hc=>by rw[k10 c om,k79 c om,E6.old c hc]⟩,p6.same (by rw[k10 _ om,k79 _ om]),p2.same (by rw[k10 _ om,k79 _ om]),om,3,S,0,e,q10,by simp⟩
   | false=>
    simp only[sA,sB,seval]
    refine⟨by trivial,by trivial,by trivial,⟨by have:=E6.next; omega,fun c hc=>by rw[k79 c om,E6.old c hc]⟩,p6.same (k79 _ om),p2.same (k79 _ om),om,2,S,0,e,q9,by simp⟩
  | false=>
   rw[if_neg (by rw[hbc]; simp)]at hone
   simp only[sA,sB,seval]
   refine (Ci (hN.no _ dD) (hN.no _ dD) (hN.no _ dD) (hN.no _ dD) (hN.no _ dD) (i:=j) om).mono ?_
   rintro v _ ⟨rfl,rfl⟩
   have hsl:=v6 (s:=s) (i:=j) om
   generalize dl (s.drop j)=S at *
   by_cases hS:S=[]
   ·rw[if_pos hS]at hone
    rw[hone]at fini ⊢
    simp only[sA,sB,seval,hS]
    obtain⟨H9,H10,m9,m10,u6,u2,n10,k10,k9⟩:=iP p6 rfl p2 rfl (jo 0 [] 0 0 0 0) (jn 0 [] 0 0 0 0) (jz 100 (bC s j)) (jy 100 (bC s j))
    refine jh rfl ?_
    have lf:=aD q6 (n:=2) rfl
    have f9:bc H9 (b+1) (gq 100 (bC s j)):=q6.same (k9 _ om)
    have lf9:=aD f9 (n:=2) rfl
    simp only[sA,sB,seval,sR,hz,nJ,lf,m9,m10]
    simp only[fN,fO,ez,fP,iJ,and_true,true_and,List.map_cons,List.map_nil,sA,sB,seval]
    refine⟨⟨_,rfl,fun _=>⟨_,lf9,BT _ _⟩⟩,?_⟩
    refine fini _ _ _ _ (by simp only[sA,sB,seval]) (by simp only[sA,sB,seval]) u6 u2 rfl rfl rfl ⟨by have:=E6.next; omega,fun c hc=>by rw[k10 c hc,E6.old c hc]⟩
   ·rw[if_neg hS]at hone
    rw[hone]
    simp only[sA,sB,seval,hS]
    refine (rj hN (s:=S) om).mono ?_
    rintro v _ ⟨rfl,rfl⟩
    obtain⟨H7,m7,q7,n7,k7⟩:=bM b6 (n:=6) rfl (i:=0) om (x:=.int .u8 4) rfl
    obtain⟨H8,m8,q8,n8,k8⟩:=bM q7 (n:=6) rfl (i:=1) om (x:=.str S) rfl
    obtain⟨H9,m9,q9,n9,k9⟩:=bM q8 (n:=6) rfl (i:=5) om (x:=.int .i64 ((j+S.length:Nat):Int)) rfl
    have k79:∀c,c≠b->H9.get c=H6.get c:=fun c hc=>by rw[k9 c hc,k8 c hc,k7 c hc]
    simp only[sA,sB,seval,fld0,Lu j S.length om,m7,m8,m9]
    refine⟨by trivial,by trivial,by trivial,⟨by have:=E6.next; omega,fun c hc=>by rw[k79 c om,E6.old c hc]⟩,p6.same (k79 _ om),p2.same (k79 _ om),om,4,S,0,_,q9,rfl⟩
open Go.Abs Go.Abs.S
inductive Ex where
 | mk (k:Nat) (s:Bs) (n:Int) (kids:List Ex)
inductive St where
 | mk (k:Nat) (s:Bs) (e:Ex) (body els:List St) (line:Int)
abbrev Aa:=Nat×Nat
structure Wd where
 k:Nat
 S:Bs
 n:Nat
 line:Nat
 at_:Nat
 en:Nat
def cM(s:Bs)(p:Nat):Except Aa Wd:=
 if 16384<s.length then .error (3,0)
 else if s.length<p then .error (2,0)
 else if a6 s p=s.length then .ok ⟨5,[],0,bC s (a6 s p),a6 s p,a6 s p⟩
 else match jQ s (a6 s p) with
  | some t=>.ok ⟨t.k,t.S,t.n,bC s (a6 s p),a6 s p,t.e⟩
  | none=>.error (100,bC s (a6 s p))
abbrev eD(α:Type):=Except Aa (α×Wd)
def dN(w:Wd)(l:List Bs):Bool:=Nat.beq w.k 4&&l.contains w.S
def il(w:Wd)(s:Bs):Bool:=Nat.beq w.k 3&&decide (w.S=s)
def aZ(s:Bs)(w:Wd):Except Aa Wd:=cM s w.en
def cJ(s:Bs)(c:Bs)(w:Wd):Except Aa Wd:=if dN w [c] then aZ s w else .error (101,w.line)
def fK{α:Type}(o:Except Aa Wd)(f:Wd->Option (eD α)):Option (eD α):=match o with
 | .error e=>some (.error e)
 | .ok w=>f w
def jw{α β:Type}(o:Option (eD α))(f:α->Wd->Option (eD β)):Option (eD β):=match o with
 | none=>none
 | some (.error e)=>some (.error e)
 | some (.ok (a,w))=>f a w
def bp{α:Type}(a:α)(w:Wd):Option (eD α):=some (.ok (a,w))
def mG{α:Type}(e:Nat)(w:Wd):Option (eD α):=some (.error (e,w.line))
def mt:Nat->List Bs
 | 1=>[[42],[47]]
 | 2=>[[43],[45]]
 | 3=>[[61,61],[33,61],[60,61],[62,61],[60],[62]]
 | 4=>[[38,38]]
 | _=>[[124,124]]
inductive NT where
 | rule (k:Nat)
 | loop (k:Nat) (e:Ex)
 | prim
 | args (S:Bs) (out:List Ex)
def bJ(s:Bs)(rec:NT->Nat->Wd->Option (eD Ex)):NT->Nat->Wd->Option (eD Ex)
 | .rule 0,g,w=>
  if 200<=g then mG 102 w
  else if dN w [[45],[33]] then fK (aZ s w) fun w1=>jw (rec (.rule 0) (g+1) w1) fun e w2=>bp (.mk 3 w.S 0 [e]) w2
  else rec .prim (g+1) w
 | .rule (k+1),g,w=>jw (rec (.rule k) g w) fun e w1=>rec (.loop (k+1) e) g w1
 | .loop k e,g,w=>
  if dN w (mt k) then fK (aZ s w) fun w1=>jw (rec (.rule (k-1)) g w1) fun r w2=>
   if Nat.beq k 3 then bp (.mk 3 w.S 0 [e,r]) w2 else rec (.loop k (.mk 3 w.S 0 [e,r])) g w2
  else bp e w
 | .prim,g,w=>
  if w.k=1 then fK (aZ s w) fun w1=>bp (.mk 1 [] w.n []) w1
  else if w.k=2 then fK (aZ s w) fun w1=>
   if dN w1 [[40]] then fK (aZ s w1) fun w2=>
    if dN w2 [[41]] then fK (aZ s w2) fun w3=>bp (.mk 4 w.S 0 []) w3
    else rec (.args w.S []) g w2
   else bp (.mk 2 w.S 0 []) w1
  else if dN w [[40]] then fK (aZ s w) fun w1=>jw (rec (.rule 5) g w1) fun e w2=>fK (cJ s [41] w2) fun w3=>bp e w3
  else mG 101 w
 | .args S out,g,w=>jw (rec (.rule 5) g w) fun e w1=>
  if dN w1 [[44]] then fK (aZ s w1) fun w2=>rec (.args S (out++[e])) g w2
  else fK (cJ s [41] w1) fun w2=>bp (.mk 4 S 0 (out++[e])) w2
def pE(s:Bs):Nat->NT->Nat->Wd->Option (eD Ex)
 | 0=>fun _ _ _=>none
 | f+1=>bJ s (pE s f)
inductive NS where
 | stmt
 | body
 | more (out:List St)
def ff(s:Bs)(pe:NT->Nat->Wd->Option (eD Ex))(k line g:Nat)(w:Wd):Option (eD (List St)):=
 if w.k=2 then fK (aZ s w) fun w1=>fK (cJ s [61] w1) fun w2=>jw (pe (.rule 5) g w2) fun e w3=>fK (cJ s [59] w3) fun w4=>bp [.mk k w.S e [] [] line] w4
 else mG 101 w
def eM(s:Bs)(pe:NT->Nat->Wd->Option (eD Ex))(rec:NS->Nat->Wd->Option (eD (List St)))(g:Nat)(w:Wd)(f:Ex->List St->Wd->Option (eD (List St))):Option (eD (List St)):=
 fK (cJ s [40] w) fun w1=>jw (pe (.rule 5) g w1) fun e w2=>fK (cJ s [41] w2) fun w3=>jw (rec .body g w3) fun l w4=>f e l w4
def dk(s:Bs)(pe:NT->Nat->Wd->Option (eD Ex))(rec:NS->Nat->Wd->Option (eD (List St))):NS->Nat->Wd->Option (eD (List St))
 | .stmt,g,w=>
  if 200<=g then mG 102 w
  else if il w [108,101,116] then fK (aZ s w) fun w1=>ff s pe 1 w.line (g+1) w1
  else if il w [115,101,116] then fK (aZ s w) fun w1=>ff s pe 2 w.line (g+1) w1
  else if il w [105,102] then fK (aZ s w) fun w1=>eM s pe rec (g+1) w1 fun e l w2=>
   if il w2 [101,108,115,101] then fK (aZ s w2) fun w3=>jw (rec .body (g+1) w3) fun m w4=>bp [.mk 3 [] e l m w.line] w4
   else bp [.mk 3 [] e l [] w.line] w2
  else if il w [119,104,105,108,101] then fK (aZ s w) fun w1=>eM s pe rec (g+1) w1 fun e l w2=>bp [.mk 4 [] e l [] w.line] w2
  else if il w [114,101,116,117,114,110] then fK (aZ s w) fun w1=>jw (pe (.rule 5) (g+1) w1) fun e w2=>fK (cJ s [59] w2) fun w3=>bp [.mk 5 [] e [] [] w.line] w3
  else mG 101 w
 | .body,g,w=>fK (cJ s [123] w) fun w1=>rec (.more []) g w1
 | .more out,g,w=>
  if dN w [[125]] then fK (aZ s w) fun w1=>bp out w1
  else jw (rec .stmt g w) fun x w1=>rec (.more (out++x)) g w1
def pS(s:Bs):Nat->NS->Nat->Wd->Option (eD (List St))
 | 0=>fun _ _ _=>none
 | f+1=>dk s (pE s f) (pS s f)
def gA(s:Bs):Nat->List St->Wd->Option (Except Aa (List St))
 | 0,_,_=>none
 | f+1,out,w=>if w.k=5 then some (.ok out) else match pS s f .stmt 0 w with
  | none=>none
  | some (.error e)=>some (.error e)
  | some (.ok (x,w1))=>gA s f (out++x) w1
theorem fd(s:Bs)(f:Nat):pE s (f+1)=bJ s (pE s f):=rfl
theorem gB(s:Bs)(f:Nat):pS s (f+1)=dk s (pE s f) (pS s f):=rfl
mutual
def Ex.size:Ex->Nat
 | .mk _ _ _ kids=>br kids+1
def br:List Ex->Nat
 | []=>0
 | e::l=>e.size+br l
end
mutual
def Ex.deep:Ex->Nat
 | .mk _ _ _ kids=>de kids+1
def de:List Ex->Nat
 | []=>0
 | e::l=>max e.deep (de l)
end
mutual
def St.size:St->Nat
 | .mk _ _ e body els _=>e.size+aI body+aI els+1
def aI:List St->Nat
 | []=>0
 | x::l=>x.size+aI l
end
mutual
def St.deep:St->Nat
 | .mk _ _ e body els _=>max e.deep (max (bj body) (bj els))+1
def bj:List St->Nat
 | []=>0
 | x::l=>max x.deep (bj l)
end
def dI(s:Bs):Bool:=match cM s 0 with
 | .ok w=>Nat.beq w.k 2&&decide (w.S=s)
 | .error _=>false
def oT(s:Bs)(n:Nat):Bool:=match n with
 | 1=>[[45],[33]].contains s
 | 2=>[[124,124],[38,38],[61,61],[33,61],[60,61],[62,61],[60],[62],[43],[45],[42],[47]].contains s
 | _=>false
def dX(k:Nat)(s:Bs)(n:Int)(kids:Nat):Bool:=
 if k=1 then decide (0<=n)&&(s.isEmpty&&Nat.beq kids 0)
 else if k=2 then decide (n=0)&&(dI s&&Nat.beq kids 0)
 else if k=3 then decide (n=0)&&oT s kids
 else if k=4 then decide (n=0)&&dI s
 else false
mutual
def iX:Ex->Bool
 | .mk k s n kids=>dX k s n kids.length&&fl kids
def fl:List Ex->Bool
 | []=>true
 | e::l=>iX e&&fl l
end
def bV(k:Nat)(s:Bs)(body els:Nat):Bool:=
 if k=1∨k=2 then dI s&&(Nat.beq body 0&&Nat.beq els 0)
 else if k=3 then s.isEmpty
 else if k=4 then s.isEmpty&&Nat.beq els 0
 else if k=5 then s.isEmpty&&(Nat.beq body 0&&Nat.beq els 0)
 else false
mutual
def pn:St->Bool
 | .mk k s e body els _=>bV k s body.length els.length&&(iX e&&(cH body&&cH els))
def cH:List St->Bool
 | []=>true
 | x::l=>pn x&&cH l
end
def jO(l:List St):Bool:=decide (aI l<=1000)&&decide (bj l<=40)
def cE(l:List St):Bool:=cH l&&jO l
def oY(s:Bs):Nat:=20*s.length+100
def dC(s:Bs):Except Aa (List St):=match cM s 0 with
 | .error e=>.error e
 | .ok w=>match gA s (oY s) [] w with
  | none=>.error (0,0)
  | some (.error e)=>.error e
  | some (.ok l)=>if jO l then .ok l else .error (102,0)
open Go.Abs Go.Abs.S
theorem HH{s:Bs}{j:Nat}(h:dl (s.drop j)≠[]):0<(dl (s.drop j)).length:=List.length_pos_iff.2 h
structure nQ(s:Bs)(w:Wd):Prop where
 long:s.length<=16384
 en:w.en<=s.length
 key:w.k=3->ot w.S=true
 sig:w.k=4->w.S∈eo
theorem HW{s:Bs}{j:Nat}{t:Tok}(hj:j<=s.length)(h:jQ s j=some t):j<t.e/\t.e<=s.length/\t.k≠5/\(t.k=3->ot t.S=true)/\(t.k=4->t.S∈eo):=by
 unfold jQ at h
 cases hc:s[j]? with
 | none=>rw[hc]at h; simp at h
 | some c=>
  rw[hc]at h
  simp only at h
  have hlt:=(N2.1 hc).1
  by_cases hd:dig c=true
  ·rw[if_pos hd]at h
   cases hs:ek (sub s j (ep s j)) with
   | none=>rw[hs]at h; simp at h
   | some n=>
    rw[hs]at h
    simp only[sJ]at h
    subst h
    exact⟨(EB hc).2 hd,uN hj,by simp,by simp,by simp⟩
  ·rw[if_neg hd]at h
   by_cases hb:beg c=true
   ·rw[if_pos hb]at h
    simp only[sJ]at h
    subst h
    have hg:iM c=true:=by simp[iM,hb]
    have:=kQ hc hg
    have h2:=gu iM s (j+1)
    refine⟨by simp only; omega,ie hj,?_,?_,?_⟩
    ·simp only; split <;> omega
    ·simp only; intro q; split at q
     ·assumption
     ·omega
    ·simp only; intro q; split at q <;> omega
   ·rw[if_neg hb]at h
    by_cases hs:dl (s.drop j)=[]
    ·rw[if_pos hs]at h; simp at h
    ·rw[if_neg hs]at h
     simp only[sJ]at h
     subst h
     have:=HH hs
     refine⟨by simp only; omega,v6 hj,by simp,by simp,fun _=>?_⟩
     simp only
     have hd':s.drop j=c::s.drop (j+1):=by
      rw[<- (N2.1 hc).2,<- List.drop_eq_getElem_cons hlt]
     rw[hd']at hs ⊢
     rw[qk]at hs ⊢
     cases hf:eo.find? (pre (c::s.drop (j+1))) with
     | none=>rw[hf]at hs; simp at hs
     | some x=>simpa using List.mem_of_find?_eq_some hf
theorem iZ{s:Bs}{p:Nat}{w:Wd}(h:cM s p=.ok w):nQ s w/\p<=w.en/\(w.k≠5->p<w.en):=by
 unfold cM at h
 by_cases a1:16384<s.length
 ·rw[if_pos a1]at h; simp at h
 rw[if_neg a1]at h
 by_cases a2:s.length<p
 ·rw[if_pos a2]at h; simp at h
 rw[if_neg a2]at h
 have hp:=DW (s:=s) (i:=p) om
 by_cases a3:a6 s p=s.length
 ·rw[if_pos a3]at h
  simp only[Except.ok.injEq]at h
  subst h
  exact⟨⟨om,by simp only; omega,by simp,by simp⟩,by simp only; omega,by simp⟩
 rw[if_neg a3]at h
 cases ho:jQ s (a6 s p) with
 | none=>rw[ho]at h; simp at h
 | some t=>
  rw[ho]at h
  simp only[Except.ok.injEq]at h
  subst h
  obtain⟨h1,h2,h3,h4,h5⟩:=HW (qj s p) ho
  exact⟨⟨om,h2,h4,h5⟩,by simp only; omega,fun _=>by simp only; omega⟩
def mW(s:Bs)(w:Wd):Nat:=if w.k=5 then 0 else s.length+1-w.en
theorem aQ{s:Bs}{w w':Wd}(h:aZ s w=.ok w')(hw:nQ s w)(hk:w.k≠5):nQ s w'/\mW s w'<mW s w:=by
 obtain⟨h1,h2,h3⟩:=iZ h
 refine⟨h1,?_⟩
 have e1:=h1.en
 have e2:=hw.en
 unfold mW
 rw[if_neg hk]
 by_cases hk':w'.k=5
 ·rw[if_pos hk']; omega
 ·rw[if_neg hk']
  have:=h3 hk'
  omega
theorem gG{w:Wd}{l:List Bs}(h:dN w l=true):w.k=4:=by
 simp only[dN,N4]at h
 exact N8 h.1
theorem jN{w:Wd}{s:Bs}(h:il w s=true):w.k=3:=by
 simp only[il,N4]at h
 exact N8 h.1
theorem cy{s c:Bs}{w w':Wd}(h:cJ s c w=.ok w')(hw:nQ s w):dN w [c]=true/\aZ s w=.ok w'/\nQ s w'/\mW s w'<mW s w:=by
 unfold cJ at h
 by_cases hs:dN w [c]=true
 ·rw[if_pos hs]at h
  have:=aQ h hw (by rw[gG hs]; omega)
  exact⟨hs,h,this⟩
 ·rw[if_neg hs]at h; simp at h
def lI{α:Type}(s:Bs)(o:Option (eD α))(m:Nat):Prop:=∃r,o=some r/\∀a w',r=.ok (a,w')->nQ s w'/\mW s w'<m
theorem lI.le{α:Type}{s:Bs}{o:Option (eD α)}{m m':Nat}(h:lI s o m)(hm:m<=m'):lI s o m':=by
 obtain⟨r,h1,h2⟩:=h
 exact⟨r,h1,fun a w' h=>⟨(h2 a w' h).1,by have:=(h2 a w' h).2; omega⟩⟩
theorem cu{α:Type}{s:Bs}{a:α}{w:Wd}{m:Nat}(hw:nQ s w)(hm:mW s w<m):lI s (bp a w) m:=
 ⟨_,rfl,fun a' w' h=>by simp only[Except.ok.injEq,pJ]at h; rw[<- h.2]; exact⟨hw,hm⟩⟩
theorem kr{α:Type}{s:Bs}{e:Nat}{w:Wd}{m:Nat}:lI (α:=α) s (mG e w) m:=⟨_,rfl,fun a' w' h=>by simp at h⟩
theorem bk{α:Type}{s:Bs}{o:Except Aa Wd}{f:Wd->Option (eD α)}{m:Nat}(h:∀w',o=.ok w'->lI s (f w') m):lI s (fK o f) m:=by
 cases o with
 | error e=>exact⟨_,rfl,fun a' w' h=>by simp at h⟩
 | ok w'=>exact h w' rfl
theorem dZ{α β:Type}{s:Bs}{o:Option (eD α)}{f:α->Wd->Option (eD β)}{m k:Nat}(ho:lI s o k)(h:∀a w',nQ s w'->mW s w'<k->lI s (f a w') m):lI s (jw o f) m:=by
 obtain⟨r,rfl,h2⟩:=ho
 cases r with
 | error e=>exact⟨_,rfl,fun a' w' h=>by simp at h⟩
 | ok p=>
  obtain⟨a,w'⟩:=p
  exact h a w' (h2 a w' rfl).1 (h2 a w' rfl).2
def xZ:NT->Nat
 | .rule k=>k+2
 | .loop _ _=>0
 | .prim=>1
 | .args _ _=>8
def HY:NT->Prop
 | .rule k=>k<=5
 | .loop k _=>1<=k/\k<=5
 | _=>True
theorem Jx(s:Bs):∀(f:Nat) (nt:NT) (g:Nat) (w:Wd),nQ s w->HY nt->9*mW s w+xZ nt<f->lI s (pE s f nt g w) (mW s w+(match nt with | .loop _ _=>1 | _=>0))
 | 0,_,_,_,_,_,h=>absurd h (Nat.not_lt_zero _)
 | f+1,nt,g,w,hw,hk,h=>by
  have ih:=Jx s f
  rw[fd]
  cases nt with
  | rule k=>
   simp only[xZ,HY,Nat.add_zero]at h hk ⊢
   cases k with
   | zero=>
    simp only[bJ]
    by_cases g2:200<=g
    ·rw[if_pos g2]; exact kr
    rw[if_neg g2]
    by_cases hs:dN w [[45],[33]]=true
    ·rw[if_pos hs]
     refine bk fun w1 h1=>?_
     obtain⟨k1,k2⟩:=aQ h1 hw (by rw[gG hs]; omega)
     refine dZ (ih (.rule 0) (g+1) w1 k1 (by simp only[HY]; omega) (by simp only[xZ]; omega)) fun e w2 l1 l2=>?_
     simp only[Nat.add_zero]at l2
     exact cu l1 om
    ·rw[if_neg hs]
     exact ih .prim (g+1) w hw trivial (by simp only[xZ]; omega)
   | succ k=>
    simp only[bJ]
    refine dZ (ih (.rule k) g w hw (by simp only[HY]; omega) (by simp only[xZ]; omega)) fun e w1 l1 l2=>?_
    simp only[Nat.add_zero]at l2
    exact (ih (.loop (k+1) e) g w1 l1 ⟨om,hk⟩ (by simp only[xZ]; omega)).le (by simp only; omega)
  | loop k e=>
   simp only[xZ,HY,Nat.add_zero]at h hk ⊢
   simp only[bJ]
   by_cases hs:dN w (mt k)=true
   ·rw[if_pos hs]
    refine bk fun w1 h1=>?_
    obtain⟨k1,k2⟩:=aQ h1 hw (by rw[gG hs]; omega)
    refine dZ (ih (.rule (k-1)) g w1 k1 (by simp only[HY]; omega) (by simp only[xZ]; omega)) fun r w2 l1 l2=>?_
    simp only[Nat.add_zero]at l2
    cases hb:Nat.beq k 3 with
    | true=>exact cu l1 om
    | false=>exact (ih (.loop k _) g w2 l1 hk (by simp only[xZ]; omega)).le (by simp only; omega)
   ·rw[if_neg hs]
    exact cu hw om
  | prim=>
   simp only[xZ,Nat.add_zero]at h ⊢
   simp only[bJ]
   by_cases c1:w.k=1
   ·rw[if_pos c1]
    refine bk fun w1 h1=>?_
    obtain⟨k1,k2⟩:=aQ h1 hw om
    exact cu k1 om
   rw[if_neg c1]
   by_cases c2:w.k=2
   ·rw[if_pos c2]
    refine bk fun w1 h1=>?_
    obtain⟨k1,k2⟩:=aQ h1 hw om
    by_cases hs:dN w1 [[40]]=true
    ·rw[if_pos hs]
     refine bk fun w2 h2=>?_
     obtain⟨k3,k4⟩:=aQ h2 k1 (by rw[gG hs]; omega)
     by_cases hs2:dN w2 [[41]]=true
     ·rw[if_pos hs2]
      refine bk fun w3 h3=>?_
      obtain⟨k5,k6⟩:=aQ h3 k3 (by rw[gG hs2]; omega)
      exact cu k5 om
     ·rw[if_neg hs2]
      exact (ih (.args _ _) g w2 k3 trivial (by simp only[xZ]; omega)).le (by simp only; omega)
    ·rw[if_neg hs]
     exact cu k1 om
   rw[if_neg c2]
   by_cases hs:dN w [[40]]=true
   ·rw[if_pos hs]
    refine bk fun w1 h1=>?_
    obtain⟨k1,k2⟩:=aQ h1 hw (by rw[gG hs]; omega)
    refine dZ (ih (.rule 5) g w1 k1 (by simp only[HY]; omega) (by simp only[xZ]; omega)) fun e w2 l1 l2=>?_
    simp only[Nat.add_zero]at l2
    refine bk fun w3 h3=>?_
    obtain⟨_,_,k5,k6⟩:=cy h3 l1
    exact cu k5 om
   ·rw[if_neg hs]; exact kr
  | args S out=>
   simp only[xZ,Nat.add_zero]at h ⊢
   simp only[bJ]
   refine dZ (ih (.rule 5) g w hw (by simp only[HY]; omega) (by simp only[xZ]; omega)) fun e w1 l1 l2=>?_
   simp only[Nat.add_zero]at l2
   by_cases hs:dN w1 [[44]]=true
   ·rw[if_pos hs]
    refine bk fun w2 h2=>?_
    obtain⟨k3,k4⟩:=aQ h2 l1 (by rw[gG hs]; omega)
    exact (ih (.args _ _) g w2 k3 trivial (by simp only[xZ]; omega)).le (by simp only; omega)
   ·rw[if_neg hs]
    refine bk fun w2 h2=>?_
    obtain⟨_,_,k5,k6⟩:=cy h2 l1
    exact cu k5 om
def GZ:NS->Nat
 | .stmt=>0
 | .body=>0
 | .more _=>1
theorem Jw(s:Bs):∀(f:Nat) (nt:NS) (g:Nat) (w:Wd),nQ s w->9*mW s w+GZ nt+2<f->lI s (pS s f nt g w) (mW s w)
 | 0,_,_,_,_,h=>absurd h (Nat.not_lt_zero _)
 | f+1,nt,g,w,hw,h=>by
  have ih:=Jw s f
  have ihE:=Jx s f
  rw[gB]
  have pe:∀g w1,nQ s w1->mW s w1<mW s w->lI s (pE s f (.rule 5) g w1) (mW s w):=fun g w1 h1 h2=>(ihE (.rule 5) g w1 h1 (by simp only[HY]; omega) (by simp only[xZ]; omega)).le (by simp only; omega)
  have named:∀k line g w1,nQ s w1->mW s w1<mW s w->lI s (ff s (pE s f) k line g w1) (mW s w):=by
   intro k line g w1 k1 k2
   unfold ff
   by_cases c:w1.k=2
   ·rw[if_pos c]
    refine bk fun w2 h2=>?_
    obtain⟨k3,k4⟩:=aQ h2 k1 om
    refine bk fun w3 h3=>?_
    obtain⟨_,_,k5,k6⟩:=cy h3 k3
    refine dZ (pe g w3 k5 om) fun e w4 l1 l2=>?_
    refine bk fun w5 h5=>?_
    obtain⟨_,_,k7,k8⟩:=cy h5 l1
    exact cu k7 om
   ·rw[if_neg c]; exact kr
  have asked:∀g w1 F,nQ s w1->mW s w1<mW s w->(∀e l w4,nQ s w4->mW s w4<mW s w->lI s (F e l w4) (mW s w))->lI s (eM s (pE s f) (pS s f) g w1 F) (mW s w):=by
   intro g w1 F k1 k2 hF
   unfold eM
   refine bk fun w2 h2=>?_
   obtain⟨_,_,k3,k4⟩:=cy h2 k1
   refine dZ (pe g w2 k3 om) fun e w3 l1 l2=>?_
   refine bk fun w4 h4=>?_
   obtain⟨_,_,k5,k6⟩:=cy h4 l1
   refine dZ (ih .body g w4 k5 (by simp only[GZ]; omega)) fun l w5 m1 m2=>?_
   exact hF e l w5 m1 om
  cases nt with
  | stmt=>
   simp only[GZ]at h
   simp only[dk]
   by_cases g2:200<=g
   ·rw[if_pos g2]; exact kr
   rw[if_neg g2]
   by_cases c1:il w [108,101,116]=true
   ·rw[if_pos c1]
    refine bk fun w1 h1=>?_
    obtain⟨k1,k2⟩:=aQ h1 hw (by rw[jN c1]; omega)
    exact named _ _ _ w1 k1 k2
   rw[if_neg c1]
   by_cases c2:il w [115,101,116]=true
   ·rw[if_pos c2]
    refine bk fun w1 h1=>?_
    obtain⟨k1,k2⟩:=aQ h1 hw (by rw[jN c2]; omega)
    exact named _ _ _ w1 k1 k2
   rw[if_neg c2]
   by_cases c3:il w [105,102]=true
   ·rw[if_pos c3]
    refine bk fun w1 h1=>?_
    obtain⟨k1,k2⟩:=aQ h1 hw (by rw[jN c3]; omega)
    refine asked _ w1 _ k1 k2 fun e l w2 l1 l2=>?_
    by_cases c:il w2 [101,108,115,101]=true
    ·rw[if_pos c]
     refine bk fun w3 h3=>?_
     obtain⟨k3,k4⟩:=aQ h3 l1 (by rw[jN c]; omega)
     refine dZ (ih .body _ w3 k3 (by simp only[GZ]; omega)) fun m w4 m1 m2=>?_
     exact cu m1 om
    ·rw[if_neg c]
     exact cu l1 om
   rw[if_neg c3]
   by_cases c4:il w [119,104,105,108,101]=true
   ·rw[if_pos c4]
    refine bk fun w1 h1=>?_
    obtain⟨k1,k2⟩:=aQ h1 hw (by rw[jN c4]; omega)
    exact asked _ w1 _ k1 k2 fun e l w2 l1 l2=>cu l1 om
   rw[if_neg c4]
   by_cases c5:il w [114,101,116,117,114,110]=true
   ·rw[if_pos c5]
    refine bk fun w1 h1=>?_
    obtain⟨k1,k2⟩:=aQ h1 hw (by rw[jN c5]; omega)
    refine dZ (pe _ w1 k1 k2) fun e w2 l1 l2=>?_
    refine bk fun w3 h3=>?_
    obtain⟨_,_,k5,k6⟩:=cy h3 l1
    exact cu k5 om
   rw[if_neg c5]; exact kr
  | body=>
   simp only[GZ]at h
   simp only[dk]
   refine bk fun w1 h1=>?_
   obtain⟨_,_,k1,k2⟩:=cy h1 hw
   exact (ih (.more []) g w1 k1 (by simp only[GZ]; omega)).le om
  | more out=>
   simp only[GZ]at h
   simp only[dk]
   by_cases c:dN w [[125]]=true
   ·rw[if_pos c]
    refine bk fun w1 h1=>?_
    obtain⟨k1,k2⟩:=aQ h1 hw (by rw[gG c]; omega)
    exact cu k1 om
   ·rw[if_neg c]
    refine dZ (ih .stmt g w hw (by simp only[GZ]; omega)) fun x w1 l1 l2=>?_
    exact (ih (.more _) g w1 l1 (by simp only[GZ]; omega)).le om
theorem Ba(s:Bs):∀(f:Nat) (out:List St) (w:Wd),nQ s w->10*mW s w+4<f->∃r,gA s f out w=some r
 | 0,_,_,_,h=>absurd h (Nat.not_lt_zero _)
 | f+1,out,w,hw,h=>by
  unfold gA
  by_cases c:w.k=5
  ·rw[if_pos c]; exact⟨_,rfl⟩
  rw[if_neg c]
  obtain⟨r,h1,h2⟩:=Jw s f .stmt 0 w hw (by simp only[GZ]; omega)
  rw[h1]
  cases r with
  | error e=>exact⟨_,rfl⟩
  | ok p=>
   obtain⟨x,w1⟩:=p
   obtain⟨l1,l2⟩:=h2 x w1 rfl
   exact Ba s f (out++x) w1 l1 om
theorem wQ{s:Bs}{w:Wd}(h:cM s 0=.ok w):∃r,gA s (oY s) [] w=some r:=by
 obtain⟨h1,_,_⟩:=iZ h
 refine Ba s _ [] w h1 ?_
 have:mW s w<=s.length+1:=by unfold mW; split <;> omega
 unfold oY
 omega
end Go.Proofs.Wo
