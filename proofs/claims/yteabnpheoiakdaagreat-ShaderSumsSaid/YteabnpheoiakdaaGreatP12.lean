/- Part of a proof (QPN QQ3 QPZ QR9 QT6 QT3 QD1 QT5 QE1 QE2 QE3); no condition. -/
import Derived.Test.YteabnpheoiakdaaGreatProg
import Derived.KernelRfl
import Derived.Test.YteabnpheoiakdaaGreatP8
import Derived.Test.YteabnpheoiakdaaGreatP9
import Derived.Test.YteabnpheoiakdaaGreatP10
import Derived.Test.YteabnpheoiakdaaGreatP11
set_option linter.unusedSimpArgs false
set_option linter.unusedVariables false
set_option linter.unnecessarySimpa false
namespace Go.Proofs.Wo
open Go.Abs Go.Abs.S
structure Nm(S:Bs):Prop where
 beg:∃c r,S=c::r/\beg c=true
 all:∀c∈S,nW c=true
 key:uT S=false
 len:S.length<=16384
theorem LH{c:UInt8}(h:beg c=true):gb c=false/\blk c=false/\c.toNat≠35:=by
 simp only[beg,Bool.or_eq_true,SE,SP]at h
 refine⟨?_,?_,?_⟩
 ·simp only[gb,Bool.and_eq_false_iff,decide_eq_false_iff_not]; omega
 ·simp only[blk,Bool.or_eq_false_iff,decide_eq_false_iff_not]; omega
 ·omega
theorem GN{p:UInt8->Bool}{l:Bs}(h:∀c∈l,p c=true):l.takeWhile p=l:=by
 induction l with
 | nil=>rfl
 | cons a l ih=>rw[List.takeWhile_cons_of_pos (h a (by simp)),ih fun c hc=>h c (by simp[hc])]
theorem Nm.name{S:Bs}(h:Nm S):eH S=true:=by
 obtain⟨c,r,rfl,hc⟩:=h.beg
 obtain⟨h1,h2,h3⟩:=LH hc
 have hs:bM (c::r) 0=0:=vx (s:=c::r) (i:=0) (c:=c) rfl h2 h3
 have hr:bX nW (c::r) 0=(c::r).length:=by unfold bX; rw[List.drop_zero,GN h.all]; omega
 have hsub:sub (c::r) 0 (c::r).length=c::r:=by
  unfold sub; rw[List.drop_zero,Nat.sub_zero,List.take_length]
 have ho:pQ (c::r) 0=some ⟨2,c::r,0,(c::r).length⟩:=by
  unfold pQ
  simp only[SL,h1,SO,if_false,hc,if_true,hr,hsub,h.key]
 have hn:fL (c::r) 0=.ok ⟨2,c::r,0,cq (c::r) 0,0,(c::r).length⟩:=by
  unfold fL
  have:=h.len
  rw[if_neg om,if_neg om,hs,if_neg (by simp),ho]
 unfold eH
 rw[hn]
 simp
theorem CP{s:Bs}{p:Nat}{w:Wd}(h:fL s p=.ok w)(hk:w.k=2):Nm w.S:=by
 have hlen:=(oI h).1.long
 unfold fL at h
 rw[if_neg om]at h
 by_cases a2:s.length<p
 ·rw[if_pos a2]at h; simp at h
 rw[if_neg a2]at h
 by_cases a3:bM s p=s.length
 ·rw[if_pos a3]at h
  simp only[Except.ok.injEq]at h
  subst h
  simp at hk
 rw[if_neg a3]at h
 have hj:=sO s p
 generalize bM s p=j at *
 cases ho:pQ s j with
 | none=>rw[ho]at h; simp at h
 | some t=>
  rw[ho]at h
  simp only[Except.ok.injEq]at h
  subst h
  simp only at hk ⊢
  unfold pQ at ho
  cases hc:s[j]? with
  | none=>rw[hc]at ho; simp at ho
  | some c=>
   rw[hc]at ho
   simp only at ho
   by_cases hd:gb c=true
   ·rw[if_pos hd]at ho
    split at ho
    ·simp only[sJ]at ho; subst ho; simp at hk
    ·simp at ho
   rw[if_neg hd]at ho
   by_cases hb:beg c=true
   ·rw[if_pos hb]at ho
    simp only[sJ]at ho
    subst ho
    simp only at hk ⊢
    have hkey:uT (sub s j (bX nW s j))=false:=by
     cases hh:uT (sub s j (bX nW s j)) with
     | false=>rfl
     | true=>rw[hh]at hk; simp at hk
    have hsub:sub s j (bX nW s j)=(s.drop j).takeWhile nW:=by
     unfold sub bX
     rw[Nat.add_sub_cancel_left]
     exact (List.prefix_iff_eq_take.1 (List.takeWhile_prefix nW)).symm
    have hg:nW c=true:=by simp[nW,hb]
    rw[hsub]at hkey ⊢
    refine⟨?_,fun d hd=>List.all_eq_true.1 List.all_takeWhile d hd,hkey,?_⟩
    ·rw[eY hc,List.takeWhile_cons_of_pos hg]
     exact⟨c,_,rfl,hb⟩
    ·have:=(List.takeWhile_prefix nW (l:=s.drop j)).length_le
     rw[SY]at this
     omega
   ·rw[if_neg hb]at ho
    split at ho
    ·simp at ho
    ·simp only[sJ]at ho; subst ho; simp at hk
def JG(w:Wd):Prop:=w.k=2->eH w.S=true
theorem et{s:Bs}{w w':Wd}(h:dN s w=.ok w'):JG w':=fun hk=>(CP h hk).name
theorem i6{s c:Bs}{w w':Wd}(h:eF s c w=.ok w'):JG w':=by
 unfold eF at h
 split at h
 ·exact et h
 ·simp at h
def Gk{α:Type}(o:Option (gK α))(P:α->Prop):Prop:=∀a w',o=some (.ok (a,w'))->P a/\JG w'
theorem cm{α:Type}{o:Except Gy Wd}{f:Wd->Option (gK α)}{P:α->Prop}(h:∀w',o=.ok w'->Gk (f w') P):Gk (kZ o f) P:=by
 cases o with
 | error e=>intro a w' q; simp[kZ]at q
 | ok w=>exact h w rfl
theorem fW{α β:Type}{o:Option (gK α)}{f:α->Wd->Option (gK β)}{P:α->Prop}{Q:β->Prop}(ho:Gk o P)(h:∀a w',P a->JG w'->Gk (f a w') Q):Gk (uF o f) Q:=by
 cases o with
 | none=>intro a w' q; simp[uF]at q
 | some o=>
  cases o with
  | error e=>intro a w' q; simp[uF]at q
  | ok p=>obtain⟨a,w⟩:=p; exact h a w (ho a w rfl).1 (ho a w rfl).2
theorem dA{α:Type}{a:α}{w:Wd}{P:α->Prop}(h:P a)(hw:JG w):Gk (cW a w) P:=by
 intro a' w' q
 simp only[cW,sJ,Except.ok.injEq,pJ]at q
 rw[<- q.1,<- q.2]; exact⟨h,hw⟩
theorem oh{α:Type}{e:Nat}{w:Wd}{P:α->Prop}:Gk (qf (α:=α) e w) P:=by intro a w' q; simp[qf]at q
theorem Cz{w:Wd}{l:List Bs}(h:kM w l=true):w.S∈l:=by
 simp only[kM,SE]at h
 simpa using h.2
theorem op2{k:Nat}{S:Bs}(hk:1<=k)(hk5:k<=5)(h:S∈Ic k):uE S 2=true:=by
 have key:∀k,1<=k->k<=5->∀S∈Ic k,uE S 2=true:=by
  intro k h1 h5
  match k,h1,h5 with
  | 1,_,_ | 2,_,_ | 3,_,_ | 4,_,_ | 5,_,_=>decide
 exact key k hk hk5 S h
theorem op1{S:Bs}(h:S∈([[45],[33]]:List Bs)):uE S 1=true:=by
 have key:∀S∈([[45],[33]]:List Bs),uE S 1=true:=by decide
 exact key S h
theorem HQ{S:Bs}{kids:List Ex}(h:uE S kids.length=true)(hk:gU kids=true):qX (.mk 3 S 0 kids)=true:=by
 simp[qX,fj,h,hk]
theorem zw{S:Bs}{kids:List Ex}(h:eH S=true)(hk:gU kids=true):qX (.mk 4 S 0 kids)=true:=by
 simp[qX,fj,h,hk]
theorem vJ{l:List Ex}{e:Ex}(h:gU l=true)(he:qX e=true):gU (l++[e])=true:=by
 induction l with
 | nil=>simp[gU,he]
 | cons x l ih=>simp only[gU,SE]at h; simp only[SX,gU,h.1,ih h.2,Bool.and_self]
theorem vI{l m:List St}(h:eq l=true)(he:eq m=true):eq (l++m)=true:=by
 induction l with
 | nil=>exact he
 | cons x l ih=>simp only[eq,SE]at h; simp only[SX,eq,h.1,ih h.2,Bool.and_self]
def zj:NT->Prop
 | .rule k=>k<=5
 | .loop k e=>1<=k/\k<=5/\qX e=true
 | .prim=>True
 | .args S out=>eH S=true/\gU out=true
theorem Ml(s:Bs):∀(f:Nat) (nt:NT) (g:Nat) (w:Wd),JG w->zj nt->Gk (pE s f nt g w) fun e=>qX e=true
 | 0,_,_,_,_,_=>by intro a w' q; simp[pE]at q
 | f+1,nt,g,w,hw,hk=>by
  have ih:=Ml s f
  rw[j2]
  cases nt with
  | rule k=>
   cases k with
   | zero=>
    simp only[gO]
    split
    ·exact oh
    split
    ·rename_i hs
     refine cm fun w1 h1=>fW (ih (.rule 0) (g+1) w1 (et h1) (by simp only[zj]; omega)) fun e w2 he hw2=>?_
     exact dA (HQ (op1 (Cz hs)) (by simp[gU,he])) hw2
    ·exact ih .prim (g+1) w hw trivial
   | succ k=>
    simp only[gO]
    simp only[zj]at hk
    refine fW (ih (.rule k) g w hw (by simp only[zj]; omega)) fun e w1 he hw1=>?_
    exact ih (.loop (k+1) e) g w1 hw1 ⟨om,hk,he⟩
  | loop k e=>
   simp only[gO]
   obtain⟨k1,k5,he⟩:=hk
   split
   ·rename_i hs
    refine cm fun w1 h1=>fW (ih (.rule (k-1)) g w1 (et h1) (by simp only[zj]; omega)) fun r w2 hr hw2=>?_
    have hok:qX (.mk 3 w.S 0 [e,r])=true:=HQ (op2 k1 k5 (Cz hs)) (by simp[gU,he,hr])
    split
    ·exact dA hok hw2
    ·exact ih (.loop k _) g w2 hw2 ⟨k1,k5,hok⟩
   ·exact dA he hw
  | prim=>
   simp only[gO]
   split
   ·refine cm fun w1 h1=>dA ?_ (et h1)
    simp[qX,fj,gU]
   split
   ·rename_i h2
    refine cm fun w1 h1=>?_
    split
    ·refine cm fun w2 h2'=>?_
     split
     ·exact cm fun w3 h3=>dA (zw (hw h2) rfl) (et h3)
     ·exact ih (.args w.S []) g w2 (et h2') ⟨hw h2,rfl⟩
    ·refine dA ?_ (et h1)
     simp[qX,fj,gU,hw h2]
   split
   ·refine cm fun w1 h1=>fW (ih (.rule 5) g w1 (et h1) (by simp only[zj]; omega)) fun e w2 he hw2=>?_
    exact cm fun w3 h3=>dA he (i6 h3)
   ·exact oh
  | args S out=>
   simp only[gO]
   obtain⟨hS,ho⟩:=hk
   refine fW (ih (.rule 5) g w hw (by simp only[zj]; omega)) fun e w1 he hw1=>?_
   split
   ·exact cm fun w2 h2=>ih (.args S (out++[e])) g w2 (et h2) ⟨hS,vJ ho he⟩
   ·exact cm fun w2 h2=>dA (zw hS (vJ ho he)) (i6 h2)
def Sb:NS->Prop
 | .more out=>eq out=true
 | _=>True
theorem Mk(s:Bs):∀(f:Nat) (nt:NS) (g:Nat) (w:Wd),JG w->Sb nt->Gk (pS s f nt g w) fun l=>eq l=true
 | 0,_,_,_,_,_=>by intro a w' q; simp[pS]at q
 | f+1,nt,g,w,hw,hk=>by
  have ih:=Mk s f
  have pe:∀g w1,JG w1->Gk (pE s f (.rule 5) g w1) fun e=>qX e=true:=fun g w1 h=>Ml s f (.rule 5) g w1 h (by simp only[zj]; omega)
  rw[oB]
  have named:∀k line g w1,(k=1∨k=2)->JG w1->Gk (lj s (pE s f) k line g w1) fun l=>eq l=true:=by
   intro k line g w1 hk h1
   unfold lj
   split
   ·rename_i c
    refine cm fun w2 h2=>cm fun w3 h3=>fW (pe g w3 (i6 h3)) fun e w4 he hw4=>cm fun w5 h5=>dA ?_ (i6 h5)
    have:cX k w1.S ([]:List St).length ([]:List St).length=true:=by
     unfold cX; rw[if_pos hk,h1 c]; rfl
    simp only[eq,Gu,this,he,Bool.and_self]
   ·exact oh
  have asked:∀g w1 F,(∀e l w4,qX e=true->eq l=true->JG w4->Gk (F e l w4) fun l=>eq l=true)->Gk (lO s (pE s f) (pS s f) g w1 F) fun l=>eq l=true:=by
   intro g w1 F hF
   unfold lO
   refine cm fun w2 h2=>fW (pe g w2 (i6 h2)) fun e w3 he hw3=>cm fun w4 h4=>fW (ih .body g w4 (i6 h4) trivial) fun l w5 hl hw5=>hF e l w5 he hl hw5
  cases nt with
  | stmt=>
   simp only[kP]
   split
   ·exact oh
   split
   ·exact cm fun w1 h1=>named _ _ _ w1 (.inl rfl) (et h1)
   split
   ·exact cm fun w1 h1=>named _ _ _ w1 (.inr rfl) (et h1)
   split
   ·refine cm fun w1 h1=>asked _ w1 _ fun e l w2 he hl hw2=>?_
    split
    ·refine cm fun w3 h3=>fW (ih .body _ w3 (et h3) trivial) fun m w4 hm hw4=>dA ?_ hw4
     simp[eq,Gu,he,hl,hm,cX]
    ·refine dA ?_ hw2
     simp[eq,Gu,he,hl,cX]
   split
   ·refine cm fun w1 h1=>asked _ w1 _ fun e l w2 he hl hw2=>dA ?_ hw2
    simp[eq,Gu,he,hl,cX]
   split
   ·refine cm fun w1 h1=>fW (pe _ w1 (et h1)) fun e w2 he hw2=>cm fun w3 h3=>dA ?_ (i6 h3)
    simp[eq,Gu,he,cX]
   ·exact oh
  | body=>
   simp only[kP]
   exact cm fun w1 h1=>ih (.more []) g w1 (i6 h1) rfl
  | more out=>
   simp only[kP]
   split
   ·exact cm fun w1 h1=>dA hk (et h1)
   ·exact fW (ih .stmt g w hw trivial) fun x w1 hx hw1=>ih (.more (out++x)) g w1 hw1 (vI hk hx)
theorem Cn(s:Bs):∀(f:Nat) (out:List St) (w:Wd) (l:List St),JG w->eq out=true->qW s f out w=some (.ok l)->eq l=true
 | 0,_,_,_,_,_,h=>by simp[qW]at h
 | f+1,out,w,l,hw,ho,h=>by
  unfold qW at h
  by_cases c:w.k=5
  ·rw[if_pos c]at h
   simp only[sJ,Except.ok.injEq]at h
   subst h; exact ho
  rw[if_neg c]at h
  cases hp:pS s f .stmt 0 w with
  | none=>rw[hp]at h; simp at h
  | some r=>
   rw[hp]at h
   cases r with
   | error e=>simp at h
   | ok p=>
    obtain⟨x,w1⟩:=p
    obtain⟨h1,h2⟩:=Mk s f .stmt 0 w hw trivial x w1 hp
    exact Cn s f (out++x) w1 l h2 (vI ho h1) h
theorem EE{s:Bs}{w:Wd}{f:Nat}{l:List St}(hn:fL s 0=.ok w)(hp:qW s f [] w=some (.ok l)):iD l=tJ l:=by
 have:=Cn s _ [] w l (fun hk=>(CP hn hk).name) rfl hp
 unfold iD
 rw[this]; rfl
open Go.Abs Go.Abs.S
theorem xN{T:cD}{H:ae}(g:Bool)(n i j:Nat)(K:aa->ae->Prop):eD [.t i,.cell g n j] K .ret T H=dh (au g n H (T j)) fun v=>K (.tuple [T i,v]) H:=by
 rw[oP]
 simp only[kF]
 cases au g n H (T j) with
 | none=>simp[dh]
 | some v=>simp only[aD]; rfl
theorem jH{n pb k b m:Nat}{H:ae}{vb:aa}(hv:AJ n pb H k vb)(hn:n<=H.next)(hpb:pb<n)(hb:a6 H b ((Ic (k+1)).map aa.str))(hm:((Ic (k+1)).map aa.str).length=m)(hbn:b<H.next)(hbp:b≠pb) :
  az Tryz.prog aH 13 [af pb 11 0,vb,.bool (!Nat.beq (k+1) 3),Gt b m (.known m)] H fun u H'=>AJ H'.next pb H' (k+1) u/\cZ H.next H H':=by
 refine aj rfl RP rfl ?_
 obtain⟨H1,m1,r1,n1,k1⟩:=aw H [af pb 11 0] (n:=1) rfl
 have hvo:vb.cells=[vb]:=by
  cases k with
  | zero=>rw[show vb=_ from hv]; rfl
  | succ k=>obtain⟨c0,c1,c2,c3,b,m,vb',rfl,_⟩:=hv; rfl
 obtain⟨H2,m2,r2,n2,k2⟩:=aw H1 [vb] (n:=1) rfl
 obtain⟨H3,m3,r3,n3,k3⟩:=aw H2 [.bool (!Nat.beq (k+1) 3)] (n:=1) rfl
 obtain⟨H4,m4,r4,n4,k4⟩:=aw H3 [Gt b m (.known m)] (n:=1) rfl
 have k04:∀c,c<H.next->H4.get c=H.get c:=fun c hc=>by rw[k4 c om,k3 c om,k2 c om,k1 c om]
 have c3:∀x:Bool,(aa.bool x).cells=[.bool x]:=fun _=>rfl
 have c4:(Gt b m (.known m)).cells=[Gt b m (.known m)]:=rfl
 simp only[c13,sA,sB,seval,fN,m1,hvo,m2,c3,m3,c4,m4]
 refine⟨⟨H1.next,H.next,H3.next,H2.next,b,m,vb,tt,r2.same (by rw[k4 _ om,k3 _ om]),r1.same (by rw[k4 _ om,k3 _ om,k2 _ om]),r4,r3.same (k4 _ om),hb.same (k04 b hbn),hm,?_,(hv.keep fun c hc _=>k04 c om).more om⟩,om,k04⟩
 rintro c (rfl | rfl | rfl | rfl | rfl) <;> omega
theorem pv.bound{n m:Nat}{H:ae}{v:aa}{l:List St}(h:pv n H v l)(hn:m<=n):pv m H v l:=by
 obtain⟨C,h1,h2,h3⟩:=h
 exact⟨C,h1,h2.mono fun c hc=>⟨by have:=hc.1; omega,hc.2⟩,h3.mono fun c hc=>⟨⟨⟨by have:=hc.1.1; omega,hc.1.2⟩,hc.2⟩,rfl⟩⟩
theorem yU(s:Bs){H:ae}:az Tryz.prog aH 7 [.str s] H fun u H'=>(match gv s with
   | .ok l=>∃v C,u=.tuple [v,.agg (jS 0 0)]/\jt (In H.next H'.next) H' 9 v l.length C/\dL (In H.next H'.next) H' l C
   | .error e=>u=.tuple [bJ,.agg (jS e.1 e.2)])/\cZ H.next H H':=by
 refine aj rfl za7 rfl ?_
 obtain⟨H1,m1,r1,n1,k1⟩:=aw H [.int .i64 0,.int .i64 0] (n:=2) rfl
 have bo:aL [.str [],.int .u8 0,.str [],.int .i64 0,.int .i64 0,.int .i64 0,.int .i64 0,.int .i64 0,.int .i64 0,.int .i64 0,.nilFunc] [(0,1,.str s)]=some (.agg (cO s ⟨0,[],0,0,0,0⟩ 0 0 0 .nilFunc)):=rfl
 obtain⟨H2,m2,r2,n2,k2⟩:=aw H1 (cO s ⟨0,[],0,0,0,0⟩ 0 0 0 .nilFunc) (n:=11) rfl
 obtain⟨pb,hpb⟩:∃pb,pb=H1.next:=⟨_,rfl⟩
 rw[<- hpb]at m2 r2 k2
 have sg:∀{K:ae} (L:List aa),cZ H2.next H2 K->(a6 (K.push (.cells L 0 false)) K.next L/\cZ H2.next H2 (K.push (.cells L 0 false))/\(K.push (.cells L 0 false)).next=K.next+1/\∀k v,AJ K.next pb K k v->AJ K.next pb (K.push (.cells L 0 false)) k v):=fun {K} L E=>
  ⟨jG _ _,E.push E.next _,rfl,fun k v h=>h.keep fun c hc _=>aI hc⟩
 have s6:∀K:ae,cA 6 [.str []] K [(0,1,.str [61,61]),(1,1,.str [33,61]),(2,1,.str [60,61]),(3,1,.str [62,61]),(4,1,.str [60]),(5,1,.str [62])]=some (Gt K.next 6 (.known 6),K.push (.cells [.str [61,61],.str [33,61],.str [60,61],.str [62,61],.str [60],.str [62]] 0 false)):=fun _=>rfl
 have s1:∀(K:ae) (c:Bs),cA 1 [.str []] K [(0,1,.str c)]=some (Gt K.next 1 (.known 1),K.push (.cells [.str c] 0 false)):=fun _ _=>rfl
 have ag:∀l:List aa,(aa.agg l).cells=l:=cB
 simp only[c7,sW,sL,jA,jc,pu,sB,seval,m1,bo,ag,m2,Nt]
 obtain⟨p1,E1,e1,u1⟩:=sg [.str [42],.str [47]] (cZ.refl H2.next H2)
 refine (jH (k:=0) (b:=H2.next) (m:=2) (u1 0 (.func (.func 14) [af pb 11 0] []) rfl) om om p1 rfl om om).mono ?_
 rintro u1 H3 ⟨R3,X3⟩
 have E3:=E1.trans (X3.less (by have:=E1.next; omega))
 generalize H2.push (.cells [.str [42],.str [47]] 0 false)=K1 at *
 simp only[sW,sL,jA,jc,pu,sB,seval,Nt]
 obtain⟨p2,E4,e4,u4⟩:=sg [.str [43],.str [45]] E3
 have x3:=E3.next
 refine (jH (k:=1) (b:=H3.next) (m:=2) (u4 1 _ R3) om om p2 rfl om om).mono ?_
 rintro u2 H5 ⟨R5,X5⟩
 have E5:=E4.trans (X5.less (by have:=E4.next; omega))
 simp only[sW,sL,jA,jc,pu,sB,seval,s6]
 obtain⟨p3,E6,e6,u6⟩:=sg [.str [61,61],.str [33,61],.str [60,61],.str [62,61],.str [60],.str [62]] E5
 have x5:=E5.next
 refine (jH (k:=2) (b:=H5.next) (m:=6) (u6 2 _ R5) om om p3 rfl om om).mono ?_
 rintro u3 H7 ⟨R7,X7⟩
 have E7:=E6.trans (X7.less (by have:=E6.next; omega))
 simp only[sW,sL,jA,jc,pu,sB,seval,s1]
 obtain⟨p4,E8,e8,u8⟩:=sg [.str [38,38]] E7
 have x7:=E7.next
 refine (jH (k:=3) (b:=H7.next) (m:=1) (u8 3 _ R7) om om p4 rfl om om).mono ?_
 rintro u4' H9 ⟨R9,X9⟩
 have E9:=E8.trans (X9.less (by have:=E8.next; omega))
 simp only[sW,sL,jA,jc,pu,sB,seval,s1]
 obtain⟨p5,Ea,ea,ua⟩:=sg [.str [124,124]] E9
 have x9:=E9.next
 refine (jH (k:=4) (b:=H9.next) (m:=1) (ua 4 _ R9) om om p5 rfl om om).mono ?_
 rintro orv Hb ⟨Rb,Xb⟩
 have Eb:=Ea.trans (Xb.less (by have:=Ea.next; omega))
 have xb:=Eb.next
 have oo:orv.one=true:=by obtain⟨c0,c1,c2,c3,b,m,vb',rfl,_⟩:=Rb; rfl
 have q2:a6 Hb pb (cO s ⟨0,[],0,0,0,0⟩ 0 0 0 .nilFunc):=r2.same (Eb.old pb om)
 obtain⟨Hc,mc,rc,nc,kc⟩:=cu q2 (n:=11) rfl (i:=10) om (x:=orv) oo (l':=cO s ⟨0,[],0,0,0,0⟩ 0 0 0 orv) rfl
 have Rc:AJ Hb.next pb Hc 5 orv:=Rb.keep fun c _ hc=>kc c hc
 have rt:a6 Hc H.next [.int .i64 0,.int .i64 0]:=r1.same (by rw[kc _ om,Eb.old _ om,k2 _ om])
 have hold:∀c,c<H.next->Hc.get c=H.get c:=fun c hc=>by rw[kc c om,Eb.old c om,k2 c om,k1 c om]
 simp only[sW,sL,jA,jc,pu,sB,seval,aF,aZ,mc]
 refine (bR rc om (by simp)).mono ?_
 rintro u Hd ⟨ho,Fd⟩
 have xd:=Fd.next
 have b0:aL [.int .i64 0,.int .i64 0] []=some (.agg (jS 0 0)):=rfl
 have bn:aL [.int .i64 0,.int .i64 0] [(0,1,.int .i64 102)]=some (.agg (jS 102 0)):=rfl
 have hst:dN s ⟨0,[],0,0,0,0⟩=fL s 0:=rfl
 rw[hst]at ho
 cases hn:fL s 0 with
 | error e=>
  rw[hn]at ho
  obtain⟨rfl,rd⟩:=ho
  have hp:gv s=.error e:=by unfold gv; rw[hn]
  have lf:au true 2 Hd (af pb 11 8)=some (.agg (jS e.1 e.2)):=cK rd (n:=11) rfl (i:=8) (k:=2) om
  obtain⟨He,me,re,ne,ke⟩:=ak (rt.same (Fd.old _ om om)) (n:=2) rfl (xs:=jS e.1 e.2) rfl rfl
  have le:=aA re (n:=2) rfl
  rw[hp]
  simp only[sA,sB,seval,aF,aZ,lf,me,xN,le,aD]
  exact⟨tt,om,fun c hc=>by rw[ke c om,Fd.old c om om,hold c hc]⟩
 | ok w=>
 rw[hn]at ho
 obtain⟨rfl,rd⟩:=ho
 obtain⟨hw,-,-⟩:=oI hn
 obtain⟨r,hr⟩:=IA hn
 have A:PA Hb.next pb s Hd w 0 0 0 orv:=⟨rd,om,om,Rc.keep fun c hc hp=>Fd.old c om hp,hw,om⟩
 have hfu:tH s<=1000000:=by have:=hw.long; unfold tH; omega
 have hp:gv s=match r with
   | .error e=>.error e
   | .ok l=>if tJ l then .ok l else .error (102,0):=by
  unfold gv; rw[hn]; simp only[hr]; cases r <;> rfl
 have holdd:∀c,c<H.next->Hd.get c=H.get c:=fun c hc=>by rw[Fd.old c om om,hold c hc]
 have rtd:=rt.same (Fd.old _ om om)
 rw[hp]
 simp only[sW,sL,jA,jc,pu,sB,seval]
 rw[gd]
 refine qg (fun (T:cD) H'=>T 3=af H.next 2 0/\a6 H' H.next [.int .i64 0,.int .i64 0]/\H.next<H'.next/\(∀c,c<H.next->H'.get c=H.get c)/\∃l,r=.ok l/\T 9=T 9/\pv (H.next+1) H' (T 9) l) (dJ _ _) ?_ ?_
 rotate_left
 ·rintro T He ⟨t3,re,ne,oe,l,rfl,-,G⟩
  have hrf:=EE hn hr
  obtain⟨C,z1,z2⟩:=G.sl
  simp only[sA,sB,seval]
  refine (qJ (z1.mono fun c hc=>⟨hc.2,rfl⟩) (z2.xss.mono fun c hc=>⟨hc.2,rfl⟩)).mono ?_
  rintro _ Hf ⟨rfl,Ef⟩
  have xf:=Ef.next
  rw[hrf]
  cases hfit:tJ l with
  | true=>
   obtain⟨Hg,mg,rg,ng,kg⟩:=ak (re.same (Ef.old _ ne)) (n:=2) rfl (xs:=jS 0 0) rfl rfl
   have lg:=aA rg (n:=2) rfl
   have km:∀c,In (H.next+1) He.next c->In H.next Hg.next c/\Hg.get c=He.get c:=fun c hc=>by
    have h1:=hc.1
    have h2:=hc.2
    exact⟨⟨om,om⟩,by rw[kg c om,Ef.old c h2]⟩
   simp only[sA,sB,seval,t3,b0,mg,xN,lg,aD]
   exact⟨⟨_,C,rfl,z1.mono km,z2.mono km⟩,om,fun c hc=>by rw[kg c om,Ef.old c om,oe c hc]⟩
  | false=>
   obtain⟨Hg,mg,rg,ng,kg⟩:=ak (re.same (Ef.old _ ne)) (n:=2) rfl (xs:=jS 102 0) rfl rfl
   have lg:=aA rg (n:=2) rfl
   simp only[sA,sB,seval,t3,bn,mg,xN,lg,aD]
   exact⟨tt,om,fun c hc=>by rw[kg c om,Ef.old c om,oe c hc]⟩
 refine cg (fun m (T:cD) H'=>∃out w' v,T 3=af H.next 2 0/\T 4=af pb 11 0/\T 9=v/\pv Hd.next H' v out/\out.length+m<=tH s/\PA Hb.next pb s H' w' 0 0 0 orv/\Fp pb Hd H'/\qW s m out w'=some r) (tH s)
  ⟨[],w,bJ,by simp only[sA,sB,seval],by simp only[sA,sB,seval],by simp only[sA,sB,seval]; rfl,pv.nil _ _,by simp,A,Fp.refl _ _,hr⟩ ?_
 rintro m T He ⟨out,w',v,t3,t4,t9,G,hm,Ae,Fe,hpt⟩
 have xe:=Fe.next
 have rte:=rtd.same (Fe.old _ om om)
 cases m with
 | zero=>simp[qW]at hpt
 | succ m=>
 unfold qW at hpt
 have lk:au false 1 He (af pb 11 1)=some (.int .u8 (w'.k:Int)):=am Ae.row rfl rfl
 by_cases hk:w'.k=5
 ·rw[if_pos hk]at hpt
  simp only[sJ]at hpt
  subst hpt
  have hk':(w'.k:Int)=5:=om
  simp only[sA,sB,seval,t3,t4,t9,aF,aZ,fld0,lk,hk']
  exact⟨tt,rte,om,fun c hc=>by rw[Fe.old c om om,holdd c hc],out,rfl,tt,G.bound om⟩
 rw[if_neg hk]at hpt
 have hk':¬(w'.k:Int)=5:=om
 obtain⟨r0,hr0⟩:∃r0,pS s m .stmt 0 w'=some r0:=by
  cases hq:pS s m .stmt 0 w' with
  | none=>rw[hq]at hpt; simp at hpt
  | some r=>exact⟨r,rfl⟩
 rw[hr0]at hpt
 simp only[sA,sB,seval,t3,t4,t9,aF,aZ,fld0,lk,hk']
 refine ((DW Hb.next pb s m om m rL).stmt He w' 0 0 0 orv r0 Ae hr0).mono ?_
 rintro u Hf ⟨ho,Ff⟩
 have xf:=Ff.next
 cases r0 with
 | error e=>
  simp only[sJ]at hpt
  subst hpt
  obtain⟨rfl,w2,rf⟩:=ho
  obtain⟨Hg,mg,rg,ng,kg⟩:=aw Hf [.int .u8 0,.str [],.int .u8 0,.str [],.int .i64 0,.slice none 0 (.known 0),.slice none 0 (.known 0),.slice none 0 (.known 0),.int .i64 0] (n:=9) rfl
  obtain⟨Hh,mh,rh,nh,kh⟩:=ak rg (n:=9) rfl (xs:=Z9) rfl rfl
  have lf:au true 2 Hh (af pb 11 8)=some (.agg (jS e.1 e.2)):=cK (rf.same (by rw[kh _ om,kg _ om])) (n:=11) rfl (i:=8) (k:=2) om
  obtain⟨Hi,mi,ri,ni,ki⟩:=ak (H:=Hh) (rte.same (by rw[kh _ om,kg _ om,Ff.old _ om om])) (n:=2) rfl (xs:=jS e.1 e.2) rfl rfl
  have li:=aA ri (n:=2) rfl
  simp only[sA,sB,seval,bA,bx,t3,t4,mg,mh,aF,aZ,lf,mi,xN,li,aD]
  exact⟨tt,om,fun c hc=>by rw[ki c om,kh c om,kg c om,Ff.old c om om,Fe.old c om om,holdd c hc]⟩
 | ok p=>
  obtain⟨st',w2⟩:=p
  obtain⟨st,xs,rfl,rfl,hx,rf,of⟩:=ho
  obtain⟨Hg,mg,rg,ng,kg⟩:=aw Hf [.int .u8 0,.str [],.int .u8 0,.str [],.int .i64 0,.slice none 0 (.known 0),.slice none 0 (.known 0),.slice none 0 (.known 0),.int .i64 0] (n:=9) rfl
  obtain⟨Hh,mh,rh,nh,kh⟩:=ak rg (n:=9) rfl hx.len hx.one
  have lh:=aA rh hx.len
  have khf:∀c,c<Hf.next->Hh.get c=Hf.get c:=fun c hc=>by rw[kh c om,kg c om]
  have bm:=yb (z:=[.int .u8 0,.str [],.int .u8 0,.str [],.int .i64 0,.slice none 0 (.known 0),.slice none 0 (.known 0),.slice none 0 (.known 0),.int .i64 0]) (xs:=xs) (m:=9) Hh rfl hx.len
  have hbs:da v (In Hd.next He.next):=by
   obtain⟨C,_,q,_⟩:=G
   exact q
  have Gh:pv Hd.next Hh v out:=G.keep om fun c hc=>by
   have h1:=hc.1
   have h2:=hc.2
   rw[khf c om,Ff.old c h2 om]
  have hxh:ut (In He.next Hh.next) Hh st xs:=hx.mono fun c hc=>⟨⟨hc.1,by have:=hc.2; omega⟩,khf c hc.2⟩
  obtain⟨v',Hi,ai,Gi,ni,ki⟩:=Gh.push hxh om om (hbs.mono fun c hc=>hc.2) om (bytes:=136) om om
  have bpb:da v (pb≠·):=hbs.mono fun c hc=>by have:=hc.1; omega
  have Fi:Fp pb Hd Hi:=⟨om,fun c hc hp=>by
   rw[ki c om (hbs.mono fun d hd=>by have:=hd.1; omega),khf c om,Ff.old c om hp,Fe.old c hc hp]⟩
  simp only[sA,sB,seval,bA,bx,t3,t4,t9,mg,mh,lh,bm,ai]
  refine⟨m,om,out++[st],w2,v',by simp only[sA,sB,seval,t3],by simp only[sA,sB,seval,t4],by simp only[sA,sB,seval],Gi,by simp; omega,?_,Fi,hpt⟩
  refine⟨rf.same (by rw[ki pb om bpb,khf pb om]),om,om,A.or.keep fun c hc hp=>Fi.old c om hp,of,om⟩
open Go.Abs Go.Abs.S
end Go.Proofs.Wo
namespace Go.Proofs.Wo
open Go.Abs Go.Abs.S
theorem KB(a b:Nat):gJ (.mm true) [.int .i64 (a:Int),.int .i64 (b:Int)]=some (.int .i64 ((max a b:Nat):Int)):=by
 have:gJ (.mm true) [.int .i64 (a:Int),.int .i64 (b:Int)]=some (.int .i64 (if (a:Int)<(b:Int) then (b:Int) else a)):=by
  simp only[gJ,JB,Ot,JC,tq,cond_true]
  by_cases h:(a:Int)<b <;> simp[h]
 rw[this]
 congr 2
 split <;> omega
theorem Oo(a b:Nat)(h:a+b<=1000000000):IntKind.i64.wrap ((a:Int)+(b:Int))=((a+b:Nat):Int):=kJ
theorem EN(e:Ex):1<=e.size:=by cases e; simp only[Ex.size]; omega
open Go.Abs Go.Abs.S
def dP(b n k:Nat):aa:=.agg [.ptr (some ⟨b,n,0⟩),.int .i64 (k:Int)]
abbrev NK:gp×gp:=(.p,.i)
theorem rE(b n k:Nat):tC NK (dP b n k)=true:=rfl
def JP(P:Nat->Prop)(H:ae)(f:List Ex->aa->Prop)(e:ip):Prop:=
 ∃b C low kids,e.1=dP b C.length kids.length/\P b/\H.get b=some (.cells C low false)/\dF P H kids C/\f kids e.2.1
theorem PH{P Q:Nat->Prop}{H:ae}{b b' low low':Nat}{C C':List aa}{kids kids':List Ex}(h:H.get b=some (.cells C low false))(hx:dF P H kids C)(h':H.get b'=some (.cells C' low' false))(hx':dF Q H kids' C') :
  EZ H.get NK (dP b C.length kids.length) (dP b' C'.length kids'.length)=some (Nat.beq b b')/\(b=b'->kids=kids'):=by
 by_cases hb:b=b'
 ·subst hb
  rw[h]at h'
  simp only[sJ,cJ.cells.injEq]at h'
  obtain⟨rfl,_⟩:=h'
  have hl:kids.length=kids'.length:=by have:=hx.len; have:=hx'.len; omega
  refine⟨?_,fun _=>dF.same hl hx hx'⟩
  simp only[EZ,dP,yX,HN,Nat.beq_refl,cond_true,hl,if_true,fD,beq_self_eq_true]
 ·have e:Nat.beq b b'=false:=by rw[cE]; exact decide_eq_false hb
  refine⟨?_,fun e'=>absurd e' hb⟩
  simp only[EZ,dP,yX,HN,e,cond_false,h,h']
theorem nw{P Q:Nat->Prop}{H:ae}{f:List Ex->aa->Prop}{b low:Nat}{C:List aa}{kids:List Ex}(h:H.get b=some (.cells C low false))(hx:dF Q H kids C):∀(es:List ip) (i:Nat),(∀e∈es,JP P H f e) ->
  jg H.get NK (dP b C.length kids.length) es i=some none∨∃j e,es[j]?=some e/\f kids e.2.1/\jg H.get NK (dP b C.length kids.length) es i=some (some (i+j,e))
 | [],i,_=>.inl rfl
 | e::r,i,he=>by
  obtain⟨b',C',low',kids',h1,h2,h3,h4,h5⟩:=he e (by simp)
  obtain⟨q1,q2⟩:=PH h hx h3 h4
  by_cases hb:b=b'
  ·refine .inr ⟨0,e,rfl,by rw[q2 hb]; exact h5,?_⟩
   rw[show Nat.beq b b'=true by rw[hb]; exact Nat.beq_refl _]at q1
   simp only[jg,h1,q1,Nat.add_zero]
  ·rw[show Nat.beq b b'=false by rw[cE]; exact decide_eq_false hb]at q1
   have ih:=nw h hx r (i+1) fun x hx=>he x (by simp[hx])
   rcases ih with ih | ⟨j,x,g1,g2,g3⟩
   ·exact .inl (by simp only[jg,h1,q1]; exact ih)
   ·refine .inr ⟨j+1,x,by rw[SN]; exact g1,g2,?_⟩
    simp only[jg,h1,q1]
    rw[g3,show i+1+j=i+(j+1) by omega]
def gn(P:Nat->Prop)(f:ae->List Ex->aa->Prop)(mt:Nat)(H:ae):Prop:=mt<H.next/\∃es c,H.get mt=some (.map es c)/\∀e∈es,JP P H (f H) e
theorem gn.new{P:Nat->Prop}{f:ae->List Ex->aa->Prop}{mt:Nat}{H:ae}(h:H.get mt=some (.map [] 0))(hn:mt<H.next):gn P f mt H:=⟨hn,[],0,h,fun e he=>by simp at he⟩
theorem JP.mono{P Q:Nat->Prop}{H H':ae}{f f':List Ex->aa->Prop}{e:ip}(h:JP P H f e)(q:∀b,P b->Q b/\H'.get b=H.get b)(hf:∀k y,f k y->f' k y):JP Q H' f' e:=by
 obtain⟨b,C,low,kids,h1,h2,h3,h4,h5⟩:=h
 exact⟨b,C,low,kids,h1,(q b h2).1,(q b h2).2.trans h3,h4.mono q,hf _ _ h5⟩
theorem gn.keep{P Q:Nat->Prop}{f f':ae->List Ex->aa->Prop}{mt:Nat}{H H':ae}(h:gn P f mt H)(hn:H.next<=H'.next)(hm:H'.get mt=H.get mt)(q:∀b,P b->Q b/\H'.get b=H.get b)(hf:∀k y,f H k y->f' H' k y):gn Q f' mt H':=by
 obtain⟨h0,es,c,h1,h2⟩:=h
 exact⟨om,es,c,hm.trans h1,fun e he=>(h2 e he).mono q hf⟩
theorem gn.look{P Q:Nat->Prop}{f:ae->List Ex->aa->Prop}{mt:Nat}{H:ae}(h:gn P f mt H){b low:Nat}{C:List aa}{kids:List Ex}(hb:H.get b=some (.cells C low false))(hx:dF Q H kids C)(z:aa) :
  nT NK true z H [.map (some mt),dP b C.length kids.length]=some (.tuple [z,.bool false],H)∨∃y,f H kids y/\nT NK true z H [.map (some mt),dP b C.length kids.length]=some (.tuple [y,.bool true],H):=by
 obtain⟨h0,es,c,h1,h2⟩:=h
 rcases nw hb hx es 0 h2 with q | ⟨j,e,_,g2,g3⟩
 ·exact .inl (by simp only[nT,h1,rR,rE,cond_true,q]; rfl)
 ·exact .inr ⟨e.2.1,g2,by simp only[nT,h1,rR,rE,cond_true,g3]; rfl⟩
theorem gn.upd{P:Nat->Prop}{f:ae->List Ex->aa->Prop}{mt:Nat}{H:ae}(h:gn P f mt H){b low:Nat}{C:List aa}{kids:List Ex}(hb:H.get b=some (.cells C low false))(hx:dF P H kids C)(hp:P b)(hm:∀c,P c->c≠mt){y:aa}
  (hf:∀H':ae,(∀c,c≠mt->H'.get c=H.get c)->H'.next=H.next->∀k x,(f H k x∨k=kids/\x=y)->f H' k x) :
  ∃H',wO NK H [.map (some mt),dP b C.length kids.length,y]=some (.tuple [],H')/\gn P f mt H'/\H'.next=H.next/\∀c,c≠mt->H'.get c=H.get c:=by
 obtain⟨h0,es,c,h1,h2⟩:=h
 have key:∀es' c',(∀e∈es',e∈es∨e.1=dP b C.length kids.length/\e.2.1=y)->gn P f mt (H.set mt (.map es' c')):=by
  intro es' c' he
  have g:∀c,c≠mt->(H.set mt (.map es' c')).get c=H.get c:=fun c hc=>by rw[ae.get_set,if_neg hc]
  refine⟨h0,es',c',by rw[ae.get_set,if_pos rfl],fun e q=>?_⟩
  rcases he e q with q | ⟨q1,q2⟩
  ·exact (h2 e q).mono (fun b hb=>⟨hb,g b (hm b hb)⟩) fun k x hk=>hf _ g (by rw[gQ]) k x (.inl hk)
  ·exact⟨b,C,low,kids,q1,hp,(g b (hm b hp)).trans hb,hx.mono fun b hb=>⟨hb,g b (hm b hb)⟩,by rw[q2]; exact hf _ g (by rw[gQ]) kids y (.inr ⟨rfl,rfl⟩)⟩
 rcases nw hb hx es 0 h2 with q | ⟨j,e,g1,g2,g3⟩
 ·refine⟨H.set mt (.map (es++[(dP b C.length kids.length,y,c)]) (c+1)),by simp only[wO,h1,yg,rE,cond_true,q],key _ _ ?_,gQ ..,fun c hc=>by rw[ae.get_set,if_neg hc]⟩
  intro e he
  rcases List.mem_append.1 he with he | he
  ·exact .inl he
  ·rw[List.mem_singleton.1 he]; exact .inr ⟨rfl,rfl⟩
 ·refine⟨H.set mt (.map (nB es (0+j) (dP b C.length kids.length,y,e.2.2)) c),by simp only[wO,h1,yg,rE,cond_true,g3],key _ _ ?_,gQ ..,fun c hc=>by rw[ae.get_set,if_neg hc]⟩
  intro x hx
  have ms:∀(es:List ip) (i:Nat) (z x:ip),x∈nB es i z->x∈es∨x=z:=by
   intro es
   induction es with
   | nil=>intro i z x h; cases i <;> simp[nB]at h
   | cons a r ih=>
    intro i z x h
    cases i with
    | zero=>
     simp only[nB,List.mem_cons]at h
     rcases h with h | h
     ·exact .inr h
     ·exact .inl (by simp[h])
    | succ i=>
     simp only[nB,List.mem_cons]at h
     rcases h with h | h
     ·exact .inl (by simp[h])
     ·rcases ih i z x h with h | h
      ·exact .inl (by simp[h])
      ·exact .inr h
  rcases ms _ _ _ _ hx with h | h
  ·exact .inl h
  ·rw[h]; exact .inr ⟨rfl,rfl⟩
open Go.Abs Go.Abs.S
open Go.Abs Go.Abs.S
noncomputable section
def c18:bY:=⟨25,zq [zo 2 (.new [zI 0,zI 0])] (zr [zm 5 0,zx 6 17 [.t 5],zo 7 (.un .not (.t 6))] 7 (zq [zo 8 (.build [zI 0,zI 0] [(0,1,zi 103)]),zp (.store 2 (.t 2) (.t 8))] .ret) .skip (zq [zo 9 (.buildSl 4 [.str []] [(0,1,.c (.str [117])),(1,1,.c (.str [118])),(2,1,.c (.str [112])),(3,1,.c (.str [110]))]),zo 10 (.buildSl 4 [zU 0] [(0,1,zu 1),(1,1,zu 1),(2,1,zu 2),(3,1,zu 2)]),zo 11 (.build [zN,zN] [(0,1,.t 9),(1,1,.t 10)]),zo 12 (.box (.t 11)),zm 3 12] (.seq (zq [zm 13 3,zm 14 0,zx 15 42 [.t 13,.t 14],zo 4 (.new [zI 0,zI 0]),zp (.store 2 (.t 4) (.t 15))] (zq [zf 16 0 4,zl 17 16,zk 18 .neq 17 0] (.cond (.t 18) (zq [zt 19 2 4,zp (.store 2 (.t 2) (.t 19))] .ret) .skip))) (zr [zm 20 0,zx 21 43 [.t 20],zo 22 (.un .not (.t 21))] 22 (zq [zo 23 (.build [zI 0,zI 0] [(0,1,zi 113)]),zp (.store 2 (.t 2) (.t 23))] .ret) .skip (zq [zo 24 (.build [zI 0,zI 0] []),zp (.store 2 (.t 2) (.t 24))] .ret))))),[.cell true 2 2]⟩
theorem RI:cN Tryz.prog 18=some c18:=by kernel_rfl
def c42:bY:=⟨76,.seq (.block 1000000 (zq [zo 2 (.box (.t 0)),zo 4 (.new [zI 0,zI 0])] (zq [zl 11 2,zc 12 11,zf 13 0 12,zl 14 13,zh 15 14,zo 5 (.new [zI 0]),zs 5 15] (zq [zo 16 (.mkFunc (.func 73) [] [.t 2,.t 5]),zo 77 (.pf .dset [.t 77,.t 16])] (.seq (zq [zm 17 1,zh 18 17,zo 19 (.mv (zi 0))] (.block 0 (.loop (zq [zb 20 .lss 19 18] (.seq (.cond (.t 20) .skip (.exit 0)) (.seq (.block 1 (zq [zm 21 19,zm 6 21] (zq [zm 22 1,zm 23 6,zo 24 (.idxA 9 (.t 22) (.t 23)),zm 7 24] (zr [zm 25 6,zk 26 .gtr 25 0,zm 27 26,zg 28 (.mv (.t 1)) 27 true,zg 29 (.mv (.t 6)) 27 true,zg 30 (.bin .sub (.t 29) (zi 1)) 27 true,zg 31 (.idxA 9 (.t 28) (.t 30)) 27 true,zg 32 (.fieldA 0 (.t 31)) 27 true,zg 33 (.load false 1 (.t 32)) 27 true,zg 34 (.bin .eql (.t 33) (zu 5)) 27 true,zo 35 (.pick (.t 27) (.t 34) (.c (.bool false)))] 35 (.seq (.draw [zm 36 7,zc 37 36,zf 38 8 37,zl 39 38,zp (.store 2 (.t 4) (.c (.agg [zI 0,zI 0]))),zf 40 0 4,zp (.store 1 (.t 40) (zi 113)),zf 41 1 4,zs 41 39] [[],[],[],[6,8],[],[],[],[],[]]) (.exit 1000000)) .skip (.seq (zq [zl 42 2,zm 43 7,zx 44 74 [.t 42,.t 43],zm 8 44] (zq [zm 45 8,zk 46 .neq 45 0] (.cond (.t 46) (.seq (.draw [zm 47 8,zm 48 7,zc 49 48,zf 50 8 49,zl 51 50,zp (.store 2 (.t 4) (.c (.agg [zI 0,zI 0]))),zf 52 0 4,zs 52 47,zf 53 1 4,zs 53 51] [[],[],[],[],[7,9],[],[],[],[],[]]) (.exit 1000000)) .skip))) (.seq (.seq (.draw [zl 54 2,zm 55 7,zc 56 55,zf 57 6 56,zl 58 57,zx 59 42 [.t 54,.t 58],zo 9 (.new [zI 0,zI 0]),zp (.store 2 (.t 9) (.t 59))] [[],[],[],[],[],[],[5],[]]) (zq [zf 60 0 9,zl 61 60,zk 62 .neq 61 0] (.cond (.t 62) (zq [zt 63 2 9,zp (.store 2 (.t 4) (.t 63))] (.exit 1000000)) .skip))) (.seq (.draw [zl 64 2,zm 65 7,zc 66 65,zf 67 7 66,zl 68 67,zx 69 42 [.t 64,.t 68],zo 10 (.new [zI 0,zI 0]),zp (.store 2 (.t 10) (.t 69))] [[],[],[],[],[],[],[5],[]]) (zq [zf 70 0 10,zl 71 70,zk 72 .neq 71 0] (.cond (.t 72) (zq [zt 73 2 10,zp (.store 2 (.t 4) (.t 73))] (.exit 1000000)) .skip))))))))) (.reg [zk 74 .add 19 1,zm 19 74]))))))) (zq [zo 75 (.build [zI 0,zI 0] []),zp (.store 2 (.t 4) (.t 75))] (.exit 1000000))))))) (zq [zo 78 (.pf .isU [.t 77])] (.cond (.t 78) (zq [zo 78 (.pf .isU [.t 76])] (.cond (.t 78) (zq [zt 80 2 4,zo 79 (.pf .tup [.t 80])] .ret) (.reg [zp .bad]))) (zq [zo 78 (.pf .isU [.t 76])] (.cond (.t 78) (zq [zo 78 (.pf (.isF 73 2) [.t 77]),zo 80 (.pf (.capt 0) [.t 77]),zo 81 (.pf (.capt 1) [.t 77]),zp (.call 3145 [.t 80,.t 81])] (zq [zt 80 2 4,zo 79 (.pf .tup [.t 80])] .ret)) (.reg [zp .bad]))))),[.t 79]⟩
theorem Rp:MP Tryz.prog (some ⟨[],(some (73,2,false))⟩) 42=some c42:=by kernel_rfl
def c74:bY:=⟨96,zq [zo 4 (.mv (zi 0))] (zq [zm 9 1,zc 10 9,zf 11 2 10,zt 12 4 11,zm 13 0,zc 14 13,zf 15 0 14,zl 16 15,zm 17 0,zc 18 17,zf 19 1 18,zl 20 19,zx 21 79 [.t 12,.t 16,.t 20],zm 8 21,ze 22 0 8,ze 23 1 8,zm 5 22,zm 6 23] (zr [zm 24 6,zk 25 .neq 24 0] 25 (zq [zm 26 6,zm 4 26] .ret) .skip (.seq (zq [zm 27 1,zc 28 27,zf 29 0 28,zl 30 29] (.block 0 (zq [zo 32 (.bin .eql (.t 30) (zu 1)),zm 31 32] (.cond (.t 31) (zr [zm 33 0,zc 34 33,zf 35 0 34,zl 36 35,zm 37 1,zc 38 37,zf 39 1 38,zl 40 39,zx 41 59 [.t 36,.t 40]] 41 (zq [zo 4 (.mv (zi 110))] .ret) .skip (.seq (.draw [zm 42 0,zm 43 0,zm 44 0,zc 45 44,zf 46 0 45,zl 47 46,zm 48 1,zc 49 48,zf 50 1 49,zl 51 50,zo 52 (.hf (.fill 0 (.lit 1 [.str []] [(0,1)])) [.t 51]),zo 53 (.append 1 16 (.t 47) (.t 52)),zm 54 0,zc 55 54,zf 56 1 55,zl 57 56,zm 58 5,zo 59 (.hf (.fill 0 (.lit 1 [zU 0] [(0,1)])) [.t 58]),zy 60 57 59,zc 61 42,zf 62 0 61,zs 62 53,zc 63 43,zf 64 1 63,zs 64 60] [[],[],[],[],[],[11],[],[],[],[],[],[],[],[],[],[10,11,18],[],[],[],[],[],[],[],[],[]]) (.reg [zp (.pf .apart [.t 59,.t 52]),zp (.pf .apart [.t 59,.t 46]),zp (.pf .apart [.t 59,.t 50]),zp (.pf .apart [.t 59,.t 56]),zp (.pf .apart [.t 59,.t 47]),zp (.pf .apart [.t 59,.t 52]),zp (.pf .apart [.t 59,.t 53]),zp (.pf .apart [.t 59,.t 46]),zp (.pf .apart [.t 59,.t 50]),zp (.pf .apart [.t 59,.t 56])]))) (zq [zo 66 (.bin .eql (.t 30) (zu 2)),zm 65 66] (.cond (.t 65) (zq [zm 67 0,zc 68 67,zf 69 0 68,zl 70 69,zm 71 1,zc 72 71,zf 73 1 72,zl 74 73,zx 75 81 [.t 70,.t 74],zm 7 75] (zr [zm 76 7,zk 77 .lss 76 4] 77 (zq [zo 4 (.mv (zi 110))] .ret) .skip (zq [zm 78 0,zc 79 78,zf 80 1 79,zl 81 80,zm 82 7,zd 83 81 82,zl 84 83,zm 85 5,zb 86 .neq 84 85] (.cond (.t 86) (zq [zo 4 (.mv (zi 111))] .ret) .skip)))) (zr [zo 88 (.bin .eql (.t 30) (zu 3)),zm 87 88] 87 .skip (.reg [zo 89 (.bin .eql (.t 30) (zu 4)),zm 87 89]) (.cond (.t 87) (zq [zm 90 5,zo 91 (.bin .eql (.t 90) (zu 2))] (.cond (.t 91) (zq [zo 4 (.mv (zi 111))] .ret) .skip)) (zq [zo 93 (.bin .eql (.t 30) (zu 5)),zm 92 93] (.cond (.t 92) (zq [zm 94 5,zo 95 (.bin .eql (.t 94) (zu 1))] (.cond (.t 95) (zq [zo 4 (.mv (zi 111))] .ret) .skip)) .skip)))))))))) (zq [zo 4 (.mv (zi 0))] .ret)))),[.t 4]⟩
theorem Q1:cN Tryz.prog 74=some c74:=by kernel_rfl
def c79:bY:=⟨21,zq [zo 3 (.box (.t 0)),zo 6 (.mv (zu 0)),zo 7 (.mv (zi 0))] (zq [zm 9 1,zm 10 2,zx 11 126 [.t 9,.t 10],zm 8 11] (zr [zm 12 8,zf 13 3 3,zl 14 13,zx 15 127 [.t 12,.t 14,zi 1],zk 16 .lss 15 0] 16 (zq [zo 6 (.mv (zu 0)),zo 7 (.mv (zi 102))] .ret) .skip (zq [zm 17 8,zx 18 128 [.t 17,.t 3],ze 19 0 18,ze 20 1 18,zm 6 19,zm 7 20] .ret))),[.t 6,.t 7]⟩
theorem QW:cN Tryz.prog 79=some c79:=by kernel_rfl
def Qh:bY:=⟨22,zq [zo 4 (.mv (.c (.ptr none)))] (zq [zm 6 0,zh 7 6,zm 8 1,zh 9 8,zo 10 (.pf (.mm false) [.t 7,.t 9]),zm 5 10] (.seq (.draw [zm 11 0,zm 12 5,zo 13 (.sl 1 (.t 11) none (some (.t 12)) none),zm 14 1,zm 15 5,zo 16 (.sl 1 (.t 14) none (some (.t 15)) none),zx 17 141 [],zo 18 (.hf .mkMap []),zo 19 (.hf .mkMap []),zo 20 (.build [zN,zN,.map none,.map none,.map none] [(0,1,.t 13),(1,1,.t 16),(2,1,.t 17),(3,1,.t 18),(4,1,.t 19)]),zo 21 (.box (.t 20)),zm 4 21] [[],[],[],[],[],[],[],[6],[6],[],[],[]]) .ret)),[.t 4]⟩
theorem Pb:cN Tryz.prog 126=some Qh:=by kernel_rfl
def Qb:bY:=⟨33,zq [zo 0 (.mv (.c (.map none)))] (zq [zo 1 (.hf .mkMap []),zo 2 (.build [zU 0,zU 0,zU 0] [(0,1,zu 1),(1,1,zu 1),(2,1,zu 1)]),zo 3 (.build [zI 0,zU 0,zU 0,zU 0,zU 0] [(0,1,zi 3),(1,3,.t 2),(4,1,zu 2)]),zp (.hf (.mf (.upd .str)) [.t 1,.c (.str [118,101,99]),.t 3]),zo 4 (.build [zU 0,zU 0,zU 0] [(0,1,zu 2)]),zo 5 (.build [zI 0,zU 0,zU 0,zU 0,zU 0] [(0,1,zi 1),(1,3,.t 4),(4,1,zu 1)]),zp (.hf (.mf (.upd .str)) [.t 1,.c (.str [120]),.t 5]),zo 6 (.build [zU 0,zU 0,zU 0] [(0,1,zu 2)]),zo 7 (.build [zI 0,zU 0,zU 0,zU 0,zU 0] [(0,1,zi 1),(1,3,.t 6),(4,1,zu 1)]),zp (.hf (.mf (.upd .str)) [.t 1,.c (.str [121]),.t 7]),zo 8 (.build [zU 0,zU 0,zU 0] [(0,1,zu 2)]),zo 9 (.build [zI 0,zU 0,zU 0,zU 0,zU 0] [(0,1,zi 1),(1,3,.t 8),(4,1,zu 1)]),zp (.hf (.mf (.upd .str)) [.t 1,.c (.str [122]),.t 9]),zo 10 (.build [zU 0,zU 0,zU 0] [(0,1,zu 2),(1,1,zu 2)]),zo 11 (.build [zI 0,zU 0,zU 0,zU 0,zU 0] [(0,1,zi 2),(1,3,.t 10),(4,1,zu 1)]),zp (.hf (.mf (.upd .str)) [.t 1,.c (.str [100,111,116]),.t 11]),zo 12 (.build [zU 0,zU 0,zU 0] [(0,1,zu 2),(1,1,zu 2)]),zo 13 (.build [zI 0,zU 0,zU 0,zU 0,zU 0] [(0,1,zi 2),(1,3,.t 12),(4,1,zu 2)]),zp (.hf (.mf (.upd .str)) [.t 1,.c (.str [99,114,111,115,115]),.t 13]),zo 14 (.build [zU 0,zU 0,zU 0] [(0,1,zu 2)]),zo 15 (.build [zI 0,zU 0,zU 0,zU 0,zU 0] [(0,1,zi 1),(1,3,.t 14),(4,1,zu 2)]),zp (.hf (.mf (.upd .str)) [.t 1,.c (.str [117,110,105,116]),.t 15]),zo 16 (.build [zU 0,zU 0,zU 0] [(0,1,zu 1)]),zo 17 (.build [zI 0,zU 0,zU 0,zU 0,zU 0] [(0,1,zi 1),(1,3,.t 16),(4,1,zu 1)]),zp (.hf (.mf (.upd .str)) [.t 1,.c (.str [115,113,114,116]),.t 17]),zo 18 (.build [zU 0,zU 0,zU 0] [(0,1,zu 1)]),zo 19 (.build [zI 0,zU 0,zU 0,zU 0,zU 0] [(0,1,zi 1),(1,3,.t 18),(4,1,zu 1)]),zp (.hf (.mf (.upd .str)) [.t 1,.c (.str [115,105,110]),.t 19]),zo 20 (.build [zU 0,zU 0,zU 0] [(0,1,zu 1)]),zo 21 (.build [zI 0,zU 0,zU 0,zU 0,zU 0] [(0,1,zi 1),(1,3,.t 20),(4,1,zu 1)]),zp (.hf (.mf (.upd .str)) [.t 1,.c (.str [99,111,115]),.t 21]),zo 22 (.build [zU 0,zU 0,zU 0] [(0,1,zu 1)]),zo 23 (.build [zI 0,zU 0,zU 0,zU 0,zU 0] [(0,1,zi 1),(1,3,.t 22),(4,1,zu 1)]),zp (.hf (.mf (.upd .str)) [.t 1,.c (.str [97,98,115]),.t 23]),zo 24 (.build [zU 0,zU 0,zU 0] [(0,1,zu 1)]),zo 25 (.build [zI 0,zU 0,zU 0,zU 0,zU 0] [(0,1,zi 1),(1,3,.t 24),(4,1,zu 1)]),zp (.hf (.mf (.upd .str)) [.t 1,.c (.str [102,108,111,111,114]),.t 25]),zo 26 (.build [zU 0,zU 0,zU 0] [(0,1,zu 1),(1,1,zu 1)]),zo 27 (.build [zI 0,zU 0,zU 0,zU 0,zU 0] [(0,1,zi 2),(1,3,.t 26),(4,1,zu 1)]),zp (.hf (.mf (.upd .str)) [.t 1,.c (.str [109,105,110]),.t 27]),zo 28 (.build [zU 0,zU 0,zU 0] [(0,1,zu 1),(1,1,zu 1)]),zo 29 (.build [zI 0,zU 0,zU 0,zU 0,zU 0] [(0,1,zi 2),(1,3,.t 28),(4,1,zu 1)]),zp (.hf (.mf (.upd .str)) [.t 1,.c (.str [109,97,120]),.t 29]),zo 30 (.build [zU 0,zU 0,zU 0] [(0,1,zu 1),(1,1,zu 1)]),zo 31 (.build [zI 0,zU 0,zU 0,zU 0,zU 0] [(0,1,zi 2),(1,3,.t 30),(4,1,zu 2)]),zp (.hf (.mf (.upd .str)) [.t 1,.c (.str [115,97,109,112,108,101]),.t 31]),zm 32 1,zm 0 32] .ret),[.t 0]⟩
theorem O2:cN Tryz.prog 141=some Qb:=by kernel_rfl
def LB:bY:=⟨62,zq [zo 6 (.mv (zi 0))] (zr [zm 12 1,zh 13 12,zk 14 .eql 13 0] 14 (zq [zo 6 (.mv (zi 0))] .ret) .skip (zr [zm 15 2,zk 16 .geq 15 40] 16 (zq [zo 6 (.mv (.c (.int .i64 (.negSucc 0))))] .ret) .skip (zq [zm 17 1,zx 18 142 [.t 17],zo 7 (.new [.ptr none,zI 0]),zp (.store 2 (.t 7) (.t 18))] (zq [zm 20 0,zc 21 20,zf 22 3 21,zl 23 22,zt 24 2 7,zo 25 (.hf (.pLook (.p,.i) true (zI 0)) [.t 23,.t 24]),zm 19 25,ze 26 0 19,ze 27 1 19,zm 8 26,zm 9 27] (zr [zm 28 9] 28 (zr [zm 29 2,zm 30 8,zb 31 .add 29 30,zk 32 .gtr 31 40] 32 (zq [zo 6 (.mv (.c (.int .i64 (.negSucc 0))))] .ret) .skip (zq [zm 33 8,zm 6 33] .ret)) .skip (.seq (zq [zm 34 1,zh 35 34,zo 36 (.mv (zi 0))] (.block 0 (.loop (zq [zb 37 .lss 36 35] (.seq (.cond (.t 37) .skip (.exit 0)) (.seq (.block 1 (zq [zm 38 36,zm 10 38] (zq [zm 39 0,zm 40 1,zm 41 10,zo 42 (.idxA 4 (.t 40) (.t 41)),zf 43 3 42,zl 44 43,zm 45 2,zk 46 .add 45 1,zx 47 127 [.t 39,.t 44,.t 46],zm 11 47] (zr [zm 48 11,zk 49 .lss 48 0] 49 (zq [zo 6 (.mv (.c (.int .i64 (.negSucc 0))))] .ret) .skip (.reg [zm 50 8,zm 51 11,zk 52 .add 51 1,zo 53 (.pf (.mm true) [.t 50,.t 52]),zm 8 53]))))) (.reg [zk 54 .add 36 1,zm 36 54]))))))) (zq [zm 55 0,zc 56 55,zf 57 3 56,zl 58 57,zt 59 2 7,zm 60 8,zp (.hf (.pUpd (.p,.i)) [.t 58,.t 59,.t 60])] (zq [zm 61 8,zm 6 61] .ret)))))))),[.t 6]⟩
theorem Gz:cN Tryz.prog 127=some LB:=by kernel_rfl
def Qa:bY:=⟨12,zq [zo 2 (.new [.ptr none,zI 0])] (zr [zm 3 0,zh 4 3,zk 5 .eql 4 0] 5 (zq [zo 6 (.build [.ptr none,zI 0] []),zp (.store 2 (.t 2) (.t 6))] .ret) .skip (zq [zm 7 0,zo 8 (.idxA 4 (.t 7) (zi 0)),zm 9 0,zh 10 9,zo 11 (.build [.ptr none,zI 0] [(0,1,.t 8),(1,1,.t 10)]),zp (.store 2 (.t 2) (.t 11))] .ret)),[.cell true 2 2]⟩
theorem O1:cN Tryz.prog 142=some Qa:=by kernel_rfl
def Qg:bY:=⟨81,zq [zo 4 (.mv (zu 0)),zo 5 (.mv (zi 0))] (zq [zm 11 0,zm 12 1,zc 13 12,zf 14 3 13,zl 15 14,zx 16 143 [.t 11,.t 15],zm 10 16,ze 17 0 10,ze 18 1 10,zm 6 17,zm 7 18] (zr [zm 19 7,zk 20 .neq 19 0] 20 (zq [zm 21 7,zo 4 (.mv (zu 0)),zm 5 21] .ret) .skip (.seq (zq [zm 22 1,zc 23 22,zf 24 0 23,zl 25 24] (.block 0 (zq [zo 27 (.bin .eql (.t 25) (zu 1)),zm 26 27] (.cond (.t 26) (zq [zo 4 (.mv (zu 1)),zo 5 (.mv (zi 0))] .ret) (zq [zo 29 (.bin .eql (.t 25) (zu 2)),zm 28 29] (.cond (.t 28) (.seq (zq [zm 30 0,zc 31 30,zf 32 0 31,zl 33 32,zh 34 33,zk 35 .sub 34 1,zm 8 35] (.block 1 (.loop (zr [zm 36 8,zk 37 .geq 36 0] 37 .skip (.exit 1) (.seq (.block 2 (zq [zm 40 0,zc 41 40,zf 42 0 41,zl 43 42,zm 44 8,zd 45 43 44,zl 46 45,zm 47 1,zc 48 47,zf 49 1 48,zl 50 49,zb 51 .eql 46 50] (.cond (.t 51) (zq [zm 52 0,zc 53 52,zf 54 1 53,zl 55 54,zm 56 8,zd 57 55 56,zl 58 57,zm 4 58,zo 5 (.mv (zi 0))] .ret) .skip))) (.reg [zm 38 8,zk 39 .sub 38 1,zm 8 39])))))) (zq [zo 4 (.mv (zu 0)),zo 5 (.mv (zi 110))] .ret)) (zq [zo 60 (.bin .eql (.t 25) (zu 3)),zm 59 60] (.cond (.t 59) (zq [zm 61 1,zc 62 61,zf 63 1 62,zl 64 63,zm 65 6,zx 66 144 [.t 64,.t 65],zm 9 66] (zr [zm 67 9,zo 68 (.bin .eql (.t 67) (zu 0))] 68 (zq [zo 4 (.mv (zu 0)),zo 5 (.mv (zi 111))] .ret) .skip (zq [zm 69 9,zm 4 69,zo 5 (.mv (zi 0))] .ret))) (zq [zo 71 (.bin .eql (.t 25) (zu 4)),zm 70 71] (.cond (.t 70) (zq [zm 72 0,zm 73 1,zc 74 73,zf 75 1 74,zl 76 75,zm 77 6,zx 78 145 [.t 72,.t 76,.t 77],ze 79 0 78,ze 80 1 78,zm 4 79,zm 5 80] .ret) .skip)))))))))) (zq [zo 4 (.mv (zu 0)),zo 5 (.mv (zi 111))] .ret)))),[.t 4,.t 5]⟩
theorem Pa:cN Tryz.prog 128=some Qg:=by kernel_rfl
def Oc:bY:=⟨66,zq [zo 4 (.mv zn),zo 5 (.mv (zi 0))] (zr [zm 13 1,zh 14 13,zk 15 .eql 14 0] 15 (zq [zo 4 (.mv zn),zo 5 (.mv (zi 0))] .ret) .skip (zq [zm 16 1,zx 17 142 [.t 16],zo 6 (.new [.ptr none,zI 0]),zp (.store 2 (.t 6) (.t 17))] (.seq (.seq (.draw [zm 19 0,zc 20 19,zf 21 4 20,zl 22 21,zt 23 2 6,zo 24 (.hf (.pLook (.p,.i) true (.agg [zN,zI 0])) [.t 22,.t 23]),zm 18 24,ze 25 0 18,ze 26 1 18,zo 7 (.new [zN,zI 0]),zp (.store 2 (.t 7) (.t 25)),zm 8 26] [[],[],[],[],[],[],[],[],[],[5],[],[]]) (zq [zm 27 8] (.cond (.t 27) (zq [zf 28 0 7,zl 29 28,zf 30 1 7,zl 31 30,zm 4 29,zm 5 31] .ret) .skip))) (zq [zo 9 (.new [zN,zI 0])] (.seq (zq [zm 32 1,zh 33 32,zo 34 (.mv (zi 0))] (.block 0 (.loop (zq [zb 35 .lss 34 33] (.seq (.cond (.t 35) .skip (.exit 0)) (.seq (.block 1 (zq [zm 36 34,zm 10 36] (zq [zm 38 0,zm 39 1,zm 40 10,zo 41 (.idxA 4 (.t 39) (.t 40)),zx 42 128 [.t 38,.t 41],zm 37 42,ze 43 0 37,ze 44 1 37,zm 11 43,zm 12 44] (zr [zm 45 12,zk 46 .neq 45 0] 46 (zq [zm 47 12,zo 48 (.build [zN,zI 0] [(1,1,.t 47)]),zp (.store 2 (.t 9) (.t 48))] (.exit 0)) .skip (.reg [zf 49 0 9,zl 50 49,zm 51 11,zo 52 (.buildSl 1 [zU 0] [(0,1,.t 51)]),zy 53 50 52,zf 54 0 9,zs 54 53]))))) (.reg [zk 55 .add 34 1,zm 34 55]))))))) (zq [zm 56 0,zc 57 56,zf 58 4 57,zl 59 58,zt 60 2 6,zt 61 2 9,zp (.hf (.pUpd (.p,.i)) [.t 59,.t 60,.t 61])] (zq [zf 62 0 9,zl 63 62,zf 64 1 9,zl 65 64,zm 4 63,zm 5 65] .ret))))))),[.t 4,.t 5]⟩
theorem LX:cN Tryz.prog 143=some Oc:=by kernel_rfl
def Ob:bY:=⟨34,zq [zo 4 (.mv (zu 0))] (.seq (zq [zm 5 1,zh 6 5] (.block 0 (zq [zk 8 .eql 6 1,zm 7 8] (.cond (.t 7) (zq [zm 9 0,zo 10 (.bin .eql (.t 9) (.c (.str [45]))),zm 11 10,zg 12 (.mv (.t 0)) 11 false,zg 13 (.bin .eql (.t 12) (.c (.str [33]))) 11 false,zg 14 (.mv (.t 13)) 11 false,zg 15 (.mv (.t 1)) 14 true,zg 16 (.idxA 1 (.t 15) (zi 0)) 14 true,zg 17 (.load false 1 (.t 16)) 14 true,zg 18 (.bin .eql (.t 17) (zu 1)) 14 true,zg 19 (.pick (.t 14) (.t 18) (.c (.bool false))) 11 false,zo 20 (.pick (.t 11) (.c (.bool true)) (.t 19))] (.cond (.t 20) (zq [zm 21 1,zo 22 (.idxA 1 (.t 21) (zi 0)),zl 23 22,zm 4 23] .ret) .skip)) (zq [zk 25 .eql 6 2,zm 24 25] (.cond (.t 24) (zq [zm 26 0,zm 27 1,zo 28 (.idxA 1 (.t 27) (zi 0)),zl 29 28,zm 30 1,zo 31 (.idxA 1 (.t 30) (zi 1)),zl 32 31,zx 33 153 [.t 26,.t 29,.t 32],zm 4 33] .ret) .skip)))))) (zq [zo 4 (.mv (zu 0))] .ret)),[.t 4]⟩
theorem LW:cN Tryz.prog 144=some Ob:=by kernel_rfl
def p8:bY:=⟨43,zq [zo 6 (.mv (zu 0))] (.seq (zq [zm 7 0] (.block 0 (zr [zo 9 (.bin .eql (.t 7) (.c (.str [124,124]))),zm 8 9] 8 .skip (zq [zo 10 (.bin .eql (.t 7) (.c (.str [38,38]))),zm 8 10] (.cond (.t 8) .skip (zq [zo 11 (.bin .eql (.t 7) (.c (.str [61,61]))),zm 8 11] (.cond (.t 8) .skip (zq [zo 12 (.bin .eql (.t 7) (.c (.str [33,61]))),zm 8 12] (.cond (.t 8) .skip (zq [zo 13 (.bin .eql (.t 7) (.c (.str [60,61]))),zm 8 13] (.cond (.t 8) .skip (zq [zo 14 (.bin .eql (.t 7) (.c (.str [62,61]))),zm 8 14] (.cond (.t 8) .skip (zq [zo 15 (.bin .eql (.t 7) (.c (.str [60]))),zm 8 15] (.cond (.t 8) .skip (.reg [zo 16 (.bin .eql (.t 7) (.c (.str [62]))),zm 8 16]))))))))))))) (.cond (.t 8) (zq [zm 17 1,zo 18 (.bin .eql (.t 17) (zu 1)),zm 19 18,zg 20 (.mv (.t 2)) 19 true,zg 21 (.bin .eql (.t 20) (zu 1)) 19 true,zo 22 (.pick (.t 19) (.t 21) (.c (.bool false)))] (.cond (.t 22) (zq [zo 6 (.mv (zu 1))] .ret) .skip)) (zr [zo 24 (.bin .eql (.t 7) (.c (.str [43]))),zm 23 24] 23 .skip (.reg [zo 25 (.bin .eql (.t 7) (.c (.str [45]))),zm 23 25]) (.cond (.t 23) (zq [zm 26 1,zm 27 2,zb 28 .eql 26 27] (.cond (.t 28) (zq [zm 29 1,zm 6 29] .ret) .skip)) (zq [zo 31 (.bin .eql (.t 7) (.c (.str [42]))),zm 30 31] (.cond (.t 30) (zr [zm 32 1,zo 33 (.bin .eql (.t 32) (zu 1))] 33 (zq [zm 34 2,zm 6 34] .ret) .skip (zq [zm 35 2,zo 36 (.bin .eql (.t 35) (zu 1))] (.cond (.t 36) (zq [zm 37 1,zm 6 37] .ret) .skip))) (zq [zo 39 (.bin .eql (.t 7) (.c (.str [47]))),zm 38 39] (.cond (.t 38) (zq [zm 40 2,zo 41 (.bin .eql (.t 40) (zu 1))] (.cond (.t 41) (zq [zm 42 1,zm 6 42] .ret) .skip)) .skip)))))))))) (zq [zo 6 (.mv (zu 0))] .ret)),[.t 6]⟩
theorem kw:cN Tryz.prog 153=some p8:=by kernel_rfl
def Oa:bY:=⟨35,zq [zo 6 (.mv (zu 0)),zo 7 (.mv (zi 0))] (zq [zm 11 0,zc 12 11,zf 13 2 12,zl 14 13,zm 15 1,zo 16 (.hf (.mLook .str true (.agg [zI 0,zU 0,zU 0,zU 0,zU 0])) [.t 14,.t 15]),zm 10 16,ze 17 0 10,ze 18 1 10,zo 8 (.new [zI 0,zU 0,zU 0,zU 0,zU 0]),zp (.store 5 (.t 8) (.t 17)),zm 9 18] (zr [zm 19 9,zo 20 (.un .not (.t 19))] 20 (zq [zo 6 (.mv (zu 0)),zo 7 (.mv (zi 110))] .ret) .skip (zr [zm 21 2,zh 22 21,zf 23 0 8,zl 24 23,zb 25 .neq 22 24] 25 (zq [zo 6 (.mv (zu 0)),zo 7 (.mv (zi 112))] .ret) .skip (zr [zm 26 2,zf 27 1 8,zf 28 0 8,zl 29 28,zo 30 (.slA 3 1 (.t 27) none (some (.t 29)) none),zx 31 154 [.t 26,.t 30],zo 32 (.un .not (.t 31))] 32 (zq [zo 6 (.mv (zu 0)),zo 7 (.mv (zi 111))] .ret) .skip (zq [zf 33 4 8,zl 34 33,zm 6 34,zo 7 (.mv (zi 0))] .ret))))),[.t 6,.t 7]⟩
theorem O0:cN Tryz.prog 145=some Oa:=by kernel_rfl
def N9:bY:=⟨26,zq [zo 4 (.mv (.c (.bool false)))] (zr [zm 6 0,zh 7 6,zm 8 1,zh 9 8,zb 10 .neq 7 9] 10 (zq [zo 4 (.mv (.c (.bool false)))] .ret) .skip (.seq (zq [zm 11 0,zh 12 11,zo 13 (.mv (zi 0))] (.block 0 (.loop (zq [zb 14 .lss 13 12] (.seq (.cond (.t 14) .skip (.exit 0)) (.seq (.block 1 (zq [zm 15 13,zm 5 15] (zq [zm 16 0,zm 17 5,zd 18 16 17,zl 19 18,zm 20 1,zm 21 5,zd 22 20 21,zl 23 22,zb 24 .neq 19 23] (.cond (.t 24) (zq [zo 4 (.mv (.c (.bool false)))] .ret) .skip)))) (.reg [zk 25 .add 13 1,zm 13 25]))))))) (zq [zo 4 (.mv (.c (.bool true)))] .ret))),[.t 4]⟩
theorem OX:cN Tryz.prog 154=some N9:=by kernel_rfl
def OP:bY:=⟨32,zq [zo 2 (.mv (.c (.bool false)))] (zr [zm 4 0,zh 5 4,zk 6 .eql 5 0] 6 (zq [zo 2 (.mv (.c (.bool false)))] .ret) .skip (zq [zm 7 0,zm 8 0,zh 9 8,zk 10 .sub 9 1,zo 11 (.idxA 9 (.t 7) (.t 10)),zm 3 11] (.seq (zq [zm 12 3,zc 13 12,zf 14 0 13,zl 15 14] (.block 0 (zq [zo 17 (.bin .eql (.t 15) (zu 5)),zm 16 17] (.cond (.t 16) (zq [zo 2 (.mv (.c (.bool true)))] .ret) (zq [zo 19 (.bin .eql (.t 15) (zu 3)),zm 18 19] (.cond (.t 18) (zq [zm 20 3,zc 21 20,zf 22 6 21,zl 23 22,zx 24 43 [.t 23],zm 25 24,zg 26 (.mv (.t 3)) 25 true,zg 27 (.nilChk (.t 26)) 25 true,zg 28 (.fieldA 7 (.t 27)) 25 true,zg 29 (.load false 1 (.t 28)) 25 true,zg 30 (.call 43 [.t 29]) 25 true,zo 31 (.pick (.t 25) (.t 30) (.c (.bool false))),zm 2 31] .ret) .skip)))))) (zq [zo 2 (.mv (.c (.bool false)))] .ret)))),[.t 2]⟩
theorem Nj:cN Tryz.prog 43=some OP:=by kernel_rfl
def MS:bY:=⟨20,.reg [zl 2 0,zl 3 0,zl 4 0,zc 5 4,zf 6 0 5,zl 7 6,zl 8 1,zo 9 (.sl 1 (.t 7) none (some (.t 8)) none),zl 10 0,zc 11 10,zf 12 1 11,zl 13 12,zl 14 1,zo 15 (.sl 1 (.t 13) none (some (.t 14)) none),zc 16 2,zf 17 0 16,zs 17 9,zc 18 3,zf 19 1 18,zs 19 15],[]⟩
theorem Nk:MP Tryz.prog none 3145=some MS:=by kernel_rfl
end
end Go.Proofs.Wo
namespace Go.Abs.S
open Go.Abs
theorem cp.cut{m k:Nat}{H:ae}{s:aa}{L:List aa}(h:cp m H s L k)(hm:0<m){n:Nat}(hn:n<=k) :
  ∃s',LP m s none (some (.int .i64 (n:Int))) none=some s'/\cp m H s' (L.take (n*m)) n/\∀P,da s P->da s' P:=by
 have b0:∀l c,n<=c->ur l c none (some (.int .i64 (n:Int))) none=some (0,n,none):=by
  intro l c hc
  show (match Gx (some (aa.int .i64 (Int.ofNat n))) c l with | some h=>(match Gx none h 0 with | some l=>some (l,h,none) | none=>none) | none=>none)=_
  simp only[Gx,bd,SD hc,cond_true]
 rcases h with⟨rfl,rfl,rfl⟩ | ⟨b,C,low,r,rfl,h2,h3,h4,h5,h6,h7,h8⟩
 ·obtain rfl:n=0:=om
  exact⟨bJ,rfl,.inl ⟨rfl,by simp,rfl⟩,fun P h=>h⟩
 ·have hnm:n*m<=k*m:=Nat.mul_le_mul_right _ hn
  have hL:C.take (n*m)=L.take (n*m):=by rw[<- h5,List.take_take,Nat.min_eq_left hnm]
  have hLl:(L.take (n*m)).length=n*m:=by rw[SZ]; omega
  rcases h2 with rfl | ⟨cap,rfl,hkc,hcap⟩
  ·refine⟨.slice (some ⟨b,C.length,0⟩) n (.open_ m),?_,.inr ⟨b,C,low,.open_ m,rfl,.inl rfl,h3,h4,hL,hLl,om,h8⟩,fun P hP=>(have q:P b:=hP _ _ _ rfl; cH q)⟩
   have hd:n<=C.length / m:=by rw[Nat.le_div_iff_mul_le hm]; omega
   simp only[LP,Nat.beq_refl,cond_true,b0 _ _ hd,Nat.zero_mul,Nat.zero_add,Nat.sub_zero,SD (show n*m<=C.length by omega)]
  ·have hc:(bif Nat.beq cap 0 then some (aa.slice (some ⟨b,C.length,0⟩) n (.known cap)) else some (aa.slice (some ⟨b,C.length,0⟩) n (.known cap)))=some (aa.slice (some ⟨b,C.length,0⟩) n (.known cap)):=by cases Nat.beq cap 0 <;> rfl
   refine⟨.slice (some ⟨b,C.length,0⟩) n (.known cap),?_,.inr ⟨b,C,low,.known cap,rfl,.inr ⟨cap,rfl,om,hcap⟩,h3,h4,hL,hLl,om,h8⟩,fun P hP=>(have q:P b:=hP _ _ _ rfl; cH q)⟩
   simp only[LP,b0 _ _ (show n<=cap by omega),Option.getD_none,Nat.zero_mul,Nat.add_zero,Nat.sub_zero,hc]
theorem cp.cell{m k:Nat}{H:ae}{s:aa}{L:List aa}(h:cp m H s L k){i:Nat}(hi:i<k):∃b n,iU m s (.int .i64 (i:Int))=some (af b n (i*m))/\da s (b=·)/\∀(j:Nat) (x:aa),j<m->L[i*m+j]?=some x->au false 1 H (af b n (i*m+j))=some x:=by
 have him:i*m+m<=k*m:=by
  have:(i+1)*m<=k*m:=Nat.mul_le_mul_right _ hi
  rwa [Nat.add_mul,Nat.one_mul]at this
 have hb:Nat.blt i k=true:=by simpa[Nat.blt_eq] using hi
 rcases h with⟨_,_,h⟩ | ⟨b,C,low,r,rfl,h2,h3,h4,h5,h6,h7,h8⟩
 ·omega
 ·refine⟨b,C.length,?_,cH rfl,fun j x hj hx=>?_⟩
  ·rcases h2 with rfl | ⟨cap,rfl,_⟩
   ·exact NO .i64 hi
   ·show (bif Nat.blt i k then some (aa.ptr (some ⟨b,C.length,0+i*m⟩)) else none)=_
    rw[hb,Nat.zero_add]; rfl
  ·refine am ⟨low,h3,h4⟩ rfl ?_
   rw[<- h5,List.getElem?_take]at hx
   split at hx
   ·exact hx
   ·simp at hx
end Go.Abs.S
namespace Go.Proofs.Wo
open Go.Abs Go.Abs.S
theorem bPl(x y:aa)(hx:x.cells=[x])(hy:y.cells=[y]):aL [.ptr none,.int .i64 0] [(0,1,x),(1,1,y)]=some (.agg [x,y]):=by
 simp[aL,js,hx,hy,nd]
 rfl
theorem ql.pos{P:Nat->Prop}{H:ae}{m k:Nat}{v:aa}{C:List aa}(h:ql P H m v k C)(hk:0<k):∃b low r,v=.slice (some ⟨b,C.length,0⟩) k r/\P b/\H.get b=some (.cells C low false)/\low<=C.length/\C.length=m*k:=by
 rcases h with⟨_,h,_⟩ | h
 ·omega
 ·exact h
theorem qy{b n k:Nat}{r:uy}{H:ae}(hk:0<k):az Tryz.prog aH 142 [.slice (some ⟨b,n,0⟩) k r] H fun u H'=>u=dP b n k/\cZ H.next H H':=by
 refine aj rfl O1 rfl ?_
 obtain⟨H1,m1,r1,n1,k1⟩:=aw H [.ptr none,.int .i64 0] (n:=2) rfl
 obtain⟨H2,m2,r2,n2,k2⟩:=ak r1 (n:=2) rfl (xs:=[.ptr (some ⟨b,n,0⟩),.int .i64 (k:Int)]) rfl rfl
 have ln:iT false (.slice (some ⟨b,n,0⟩) k r)=some (.int .i64 (k:Int)):=rfl
 have hk0:¬(k:Int)=0:=om
 have ix:iU 4 (.slice (some ⟨b,n,0⟩) k r) (.int .i64 0)=some (.ptr (some ⟨b,n,0⟩)):=by
  show (bif Nat.blt 0 k then some (aa.ptr (some ⟨b,n,0+0*4⟩)) else none)=_
  rw[show Nat.blt 0 k=true by simpa[Nat.blt_eq] using hk]; rfl
 have bb:=bPl (.ptr (some ⟨b,n,0⟩)) (.int .i64 (k:Int)) rfl rfl
 have l2:au true 2 H2 (af H.next 2 0)=some (.agg [.ptr (some ⟨b,n,0⟩),.int .i64 (k:Int)]):=aA r2 rfl
 simp only[Qa,sA,sB,seval,m1,ln,hk0,ix,bb,m2]
 refine tK _ _ _ _ (by simp only[sA,sB,seval]; exact l2) ?_
 exact⟨rfl,om,fun c hc=>by rw[k2 c om,k1 c om]⟩
def JS(ab:Nat)(vn vk:aa)(mb mt mk:Nat)(H:ae):Prop:=a6 H ab [vn,vk,.map (some mb),.map (some mt),.map (some mk)]
def zP(_:ae)(kids:List Ex)(x:aa):Prop:=x=.int .i64 (bV kids:Int)
theorem zV{e:Ex}{l:List Ex}(h:e∈l):e.deep<=bV l:=by
 induction l with
 | nil=>simp at h
 | cons x l ih=>
  simp only[bV]
  rcases List.mem_cons.1 h with rfl | h
  ·omega
  ·have:=ih h; omega
theorem qC{e:Ex}{l:List Ex}(h:e∈l):e.size<=bZ l:=by
 induction l with
 | nil=>simp at h
 | cons x l ih=>
  simp only[bZ]
  rcases List.mem_cons.1 h with rfl | h
  ·omega
  ·have:=ih h; omega
theorem BL{l:List Ex}(h:l≠[]):1<=bV l:=by
 cases l with
 | nil=>exact absurd rfl h
 | cons x l=>cases x; simp only[bV,Ex.deep]; omega
theorem w8{ab mb mt mk n0:Nat}{vn vk:aa}(hmt:n0<=mt)(hab:ab≠mt):∀(N:Nat) {kids:List Ex} {C:List aa} {v:aa} {H:ae} {deep:Nat},bZ kids<=N->N<=1000000->JS ab vn vk mb mt mk H->ab<H.next->n0<=H.next->gn (·<n0) zP mt H->ql (·<n0) H 4 v kids.length C->dF (·<n0) H kids C->deep+bV kids<=40 ->
  az Tryz.prog aH 127 [af ab 5 0,v,.int .i64 (deep:Int)] H fun u H'=>u=.int .i64 (bV kids:Int)/\Fp mt H H'/\gn (·<n0) zP mt H':=by
 intro N
 induction N with
 | zero=>
  intro kids C v H deep h hN hA _ _ hM z1 z2 hd
  have hk0:kids=[]:=by
   cases kids with
   | nil=>rfl
   | cons x l=>cases x; simp only[bZ,Ex.size]at h; omega
  subst hk0
  have ln:=z1.sl.len
  have h0:(([]:List Ex).length:Int)=0:=rfl
  refine aj rfl Gz rfl ?_
  simp only[LB,sA,sB,seval,ln,h0]
  exact⟨tt,Fp.refl _ _,hM⟩
 | succ N ih=>
  intro kids C v H deep h hN hA hab1 hn0 hM z1 z2 hd
  have ln:=z1.sl.len
  by_cases hk0:kids=[]
  ·subst hk0
   have h0:(([]:List Ex).length:Int)=0:=rfl
   refine aj rfl Gz rfl ?_
   simp only[LB,sA,sB,seval,ln,h0]
   exact⟨tt,Fp.refl _ _,hM⟩
  have hkp:0<kids.length:=List.length_pos_iff.2 hk0
  have hkn:¬(kids.length:Int)=0:=om
  have hdp:=BL hk0
  have hd40:¬(40:Int)<=(deep:Int):=om
  obtain⟨b,low,r,rfl,hb,hg,hlow,hC⟩:=z1.pos hkp
  refine aj rfl Gz rfl ?_
  simp only[LB,sA,sB,seval,ln,hkn,hd40]
  refine (qy hkp).mono ?_
  rintro _ H1 ⟨rfl,E1⟩
  have e1:=E1.next
  have n1b:=E1.next
  obtain⟨H2,m2,r2,n2,k2⟩:=aw H1 [.ptr none,.int .i64 0] (n:=2) rfl
  obtain⟨H3,m3,r3,n3,k3⟩:=ak r2 (n:=2) rfl (xs:=[.ptr (some ⟨b,C.length,0⟩),.int .i64 (kids.length:Int)]) rfl rfl
  have k13:∀c,c<H1.next->H3.get c=H1.get c:=fun c hc=>by rw[k3 c om,k2 c om]
  have k03:∀c,c<H.next->H3.get c=H.get c:=fun c hc=>by rw[k13 c om,E1.old c hc]
  have hA3:JS ab vn vk mb mt mk H3:=hA.same (k03 ab hab1)
  have lt:au false 1 H3 (af ab 5 3)=some (.map (some mt)):=am hA3 rfl rfl
  have lp:au true 2 H3 (af H1.next 2 0)=some (dP b C.length kids.length):=aA r3 rfl
  have hmtn:=hM.1
  have km:∀c,c<n0->c<n0/\H3.get c=H.get c:=fun c hc=>⟨hc,k03 c om⟩
  have hM3:gn (·<n0) zP mt H3:=hM.keep om (k03 mt hmtn) km fun _ _ q=>q
  have hg3:H3.get b=some (.cells C low false):=(k03 b (by have:b<n0:=hb; omega)).trans hg
  have z23:=z2.mono km
  have m3':bu 2 H2 (af H1.next 2 0) (dP b C.length kids.length)=some H3:=m3
  simp only[sA,sB,seval,m2,m3',aF,aZ,lt,lp]
  rcases hM3.look hg3 z23 (.int .i64 0) with q | ⟨y,hy,q⟩
  case inr=>
   have q':mV (.pLook (.p,.i) true (.int .i64 0)) H3 [.map (some mt),dP b C.length kids.length]=some (.tuple [y,.bool true],H3):=q
   obtain rfl:y=.int .i64 (bV kids:Int):=hy
   have wd:IntKind.i64.wrap ((deep:Int)+(bV kids:Int))=((deep+bV kids:Nat):Int):=kJ
   have hd':¬(40:Int)<((deep+bV kids:Nat):Int):=om
   simp only[sA,sB,seval,q',bA,bx,wd,hd']
   exact⟨tt,⟨om,fun c hc _=>k03 c hc⟩,hM3⟩
  have q':mV (.pLook (.p,.i) true (.int .i64 0)) H3 [.map (some mt),dP b C.length kids.length]=some (.tuple [.int .i64 0,.bool false],H3):=q
  have ln':iT false (.slice (some ⟨b,C.length,0⟩) kids.length r)=some (.int .i64 (kids.length:Int)):=rfl
  simp only[sA,sB,seval,q',bA,bx,ln']
  obtain⟨kb,hkb⟩:∃kb,kb=H1.next:=⟨_,rfl⟩
  rw[<- hkb]at r3 lp m3'
  refine cg (fun m (T:cD) K=>∃i:Nat,m=kids.length-i/\i<=kids.length/\T 0=af ab 5 0/\T 1=.slice (some ⟨b,C.length,0⟩) kids.length r/\T 2=.int .i64 (deep:Int)/\T 7=af kb 2 0/\T 8=.int .i64 (bV (kids.take i):Int)/\T 35=.int .i64 (kids.length:Int)/\T 36=.int .i64 (i:Int)/\Fp mt H3 K/\gn (·<n0) zP mt K) kids.length
   ⟨0,rfl,Nat.zero_le _,by simp only[sA,sB,seval]; try rfl,by simp only[sA,sB,seval]; try rfl,by simp only[sA,sB,seval]; try rfl,by simp only[sA,sB,seval,hkb]; try rfl,by simp only[sA,sB,seval]; try rfl,by simp only[sA,sB,seval]; try rfl,by simp only[sA,sB,seval]; try rfl,Fp.refl _ _,hM3⟩ ?_
  rintro m T K ⟨i,rfl,hi,t0,t1,t2,t7,t8,t35,t36,FK,MK⟩
  have eK:=FK.next
  have hAK:JS ab vn vk mb mt mk K:=hA3.same (FK.old ab om hab)
  have kmK:∀c,c<n0->c<n0/\K.get c=H3.get c:=fun c hc=>⟨hc,FK.old c om om⟩
  have hgK:K.get b=some (.cells C low false):=((kmK b hb).2).trans hg3
  by_cases hlt:i<kids.length
  case neg=>
   obtain rfl:i=kids.length:=om
   have hlt':¬(kids.length:Int)<(kids.length:Int):=om
   rw[List.take_length]at t8
   have ltK:au false 1 K (af ab 5 3)=some (.map (some mt)):=am hAK rfl rfl
   have lpK:au true 2 K (af kb 2 0)=some (dP b C.length kids.length):=aA (r3.same (FK.old kb om om)) rfl
   obtain⟨K2,u1,u2,u3,u4⟩:=MK.upd hgK (z23.mono kmK) hb (fun c hc=>by have:c<n0:=hc; omega) (y:=.int .i64 (bV kids:Int)) (by
    rintro H' _ _ k x (h | ⟨rfl,rfl⟩)
    ·exact h
    ·rfl)
   have u1':mV (.pUpd (.p,.i)) K [.map (some mt),dP b C.length kids.length,.int .i64 (bV kids:Int)]=some (.tuple [],K2):=u1
   simp only[sA,sB,seval,t0,t1,t2,t7,t8,t35,t36,hlt',aF,aZ,ltK,lpK,u1']
   exact⟨tt,⟨om,fun c hc hne=>by rw[u4 c hne,FK.old c om hne,k03 c hc]⟩,u2⟩
  have hlt':(i:Int)<(kids.length:Int):=om
  obtain⟨e,he⟩:∃e,kids[i]?=some e:=⟨_,SB hlt⟩
  have hts:kids.take (i+1)=kids.take i++[e]:=by rw[List.take_add_one,he]; rfl
  have hmem:=SJ he
  have hsm:=qC hmem
  have hdm:=zV hmem
  have z1K:ql (·<n0) K 4 (.slice (some ⟨b,C.length,0⟩) kids.length r) kids.length C:=.inr ⟨b,low,r,rfl,hb,hgK,hlow,hC⟩
  have ix:=z1K.sl.idx hlt
  have pt:=z1K.sl.pt hlt
  have fl3:=pt.fld 3
  have hx:=(z23.mono kmK).at he
  obtain⟨ek,es,en,ekids⟩:=e
  obtain⟨v',C',hc,y1,y2⟩:=hx
  rw[hc]at pt
  have l3:au false 1 K (fp (cC 4 (.slice (some ⟨b,C.length,0⟩) kids.length r) i) 3)=some v':=pt.load (o:=3) rfl
  have hsz:(Ex.mk ek es en ekids).size=bZ ekids+1:=rfl
  have hdp2:(Ex.mk ek es en ekids).deep=bV ekids+1:=rfl
  have wd:IntKind.i64.wrap ((deep:Int)+1)=((deep+1:Nat):Int):=kJ
  have wi:IntKind.i64.wrap ((i:Int)+1)=((i+1:Nat):Int):=Oo i 1 (by have:=iK kids; omega)
  have wk:IntKind.i64.wrap ((bV ekids:Int)+1)=((bV ekids+1:Nat):Int):=kJ
  have hneg:¬(bV ekids:Int)<0:=om
  simp only[sA,sB,seval,t0,t1,t2,t7,t8,t35,t36,hlt',ix,fl3,l3,wd]
  refine (ih (deep:=deep+1) om om hAK om om MK y1 y2 om).mono ?_
  rintro _ K2 ⟨rfl,F2,M2⟩
  simp only[sA,sB,seval,t0,t1,t2,t7,t8,t35,t36,hneg,wk,KB,wi]
  refine⟨kids.length-(i+1),om,i+1,rfl,om,tt,tt,tt,tt,?_,tt,tt,FK.trans F2,M2⟩
  rw[hts,nI]
  simp only[bV,hdp2,Nat.max_zero]
open Go.Abs Go.Abs.S
theorem cp.cel1{H:ae}{s:aa}{L:List aa}{k n:Nat}(h:cp 1 H s L k)(hb:da s (·<n)):po n H s L/\L.length=k:=by
 rcases h with⟨rfl,rfl,rfl⟩ | ⟨b,C,low,r,rfl,h2,h3,h4,h5,h6,h7,h8⟩
 ·exact⟨.inl ⟨rfl,rfl⟩,rfl⟩
 ·rw[Nat.mul_one]at h5 h6 h7
  refine⟨.inr ⟨⟨b,C.length,0⟩,r,by rw[h6],hb _ _ _ rfl,?_⟩,h6⟩
  have:=sZ (H:=H) ⟨low,h3,h4⟩ rfl (i:=0) (k:=k) om
  rw[h6,this,List.drop_zero,h5]
def vM(E:bC):List aa:=(E.map (·.1)).map .str
def di(t:Nat):aa:=.int .u8 (t:Int)
def xK(E:bC):List aa:=E.map fun x=>di x.2
def uJ(ts:List Nat):List aa:=ts.map di
theorem oH(E:bC):(vM E).length=E.length:=by simp[vM]
theorem xJ(E:bC):(xK E).length=E.length:=by simp[xK]
theorem jV(ts:List Nat):(uJ ts).length=ts.length:=by simp[uJ]
theorem qN{s:Bs}:∀(E:bC) (i:Nat) (x:Bs×Nat),cy s (E.take i)=none->E[i]?=some x->cy s E=if x.1=s then some i else cy s E
 | [],i,x,_,h=>by simp at h
 | y::E,0,x,_,h=>by
  simp only[SL,sJ]at h
  subst h
  simp only[cy]
  split <;> rfl
 | y::E,i+1,x,h0,h=>by
  simp only[SN]at h
  simp only[List.take_succ_cons,cy]at h0
  by_cases hy:y.1=s
  ·rw[if_pos hy]at h0; simp at h0
  ·rw[if_neg hy]at h0
   have h0':cy s (E.take i)=none:=by
    cases hf:cy s (E.take i) with
    | none=>rfl
    | some j=>rw[hf]at h0; simp at h0
   have:=qN E i x h0' h
   simp only[cy,if_neg hy]
   by_cases hx:x.1=s
   ·rw[if_pos hx]at this ⊢
    rw[this]; rfl
   ·rw[if_neg hx]
theorem qO{s:Bs}{x:Bs×Nat}(hx:x.1≠s):∀(E:bC),cy s E=none->cy s (E++[x])=none
 | [],_=>by simp[cy,hx]
 | y::E,h=>by
  simp only[cy]at h
  by_cases hy:y.1=s
  ·rw[if_pos hy]at h; simp at h
  ·rw[if_neg hy]at h
   have:cy s E=none:=by
    cases hf:cy s E with
    | none=>rfl
    | some j=>rw[hf]at h; simp at h
   simp only[SX,cy,if_neg hy,qO hx E this,Option.map_none]
def FA(s:Bs)(E:bC):Int:=match cy s E with
 | some i=>(i:Int)
 | none=>-1
theorem Cx{H:ae}{v:aa}{E:bC}{n:Nat}(c:po n H v (vM E))(x:Bs)(hl:E.length<=1000000):az Tryz.prog aH 81 [v,.str x] H fun u H'=>H=H'/\u=.int .i64 (FA x E):=by
 refine aj rfl OT rfl ?_
 simp only[Sg,sA,sB,seval,c.len,oH]
 refine cg (fun m (T:cD) H'=>H=H'/\∃i:Nat,m=E.length-i/\i<=E.length/\T 0=v/\T 1=.str x/\T 7=.int .i64 (E.length:Int)/\T 8=.int .i64 (i:Int)/\cy x (E.take i)=none) E.length
  ⟨rfl,0,rfl,om,by simp only[sA,sB,seval],by simp only[sA,sB,seval],by simp only[sA,sB,seval],by simp only[sA,sB,seval]; try rfl,rfl⟩ ?_
 rintro m T _ ⟨rfl,i,rfl,hi,t0,t1,t7,t8,hx⟩
 by_cases hlt:i<E.length
 case neg=>
  obtain rfl:i=E.length:=om
  have hlt':¬(E.length:Int)<(E.length:Int):=om
  rw[List.take_length]at hx
  simp only[sA,sB,seval,t7,t8,hlt',FA,hx]
  exact⟨tt,tt⟩
 have hlt':(i:Int)<(E.length:Int):=om
 obtain⟨y,hy⟩:∃y,E[i]?=some y:=⟨_,SB hlt⟩
 have io:=c.idx .i64 (i:=i) (by rw[oH]; exact hlt)
 have lo:=c.load (i:=i) (x:=.str y.1) (by simp[vM,hy])
 have wk:IntKind.i64.wrap ((i:Int)+1)=((i+1:Nat):Int):=kJ
 have hf:=qN E i y hx hy
 by_cases he:x=y.1
 ·rw[if_pos he.symm]at hf
  simp only[sA,sB,seval,t0,t1,t7,t8,hlt',io,lo,he,DN,FA]
  rw[<- he,hf]
  exact⟨tt,tt⟩
 ·simp only[sA,sB,seval,t0,t1,t7,t8,hlt',io,lo,he,wk]
  refine⟨E.length-(i+1),om,tt,i+1,rfl,om,tt,tt,tt,tt,?_⟩
  rw[List.take_add_one,hy]
  exact qO (fun e=>he e.symm) _ hx
theorem Km{a b:Nat}(ha:a=1∨a=2)(hb:b=1∨b=2){H:ae}:az Tryz.prog aH 153 [.str [124,124],di a,di b] H fun v H'=>v=di (iG [124,124] a b)/\H=H':=by
 rcases ha with rfl | rfl <;> rcases hb with rfl | rfl <;> (refine aj rfl kw rfl ?_; simp only[p8,di,Int.cast_ofNat_Int,sA,sB,seval]; exact⟨by rfl,tt⟩)
theorem Kl{a b:Nat}(ha:a=1∨a=2)(hb:b=1∨b=2){H:ae}:az Tryz.prog aH 153 [.str [38,38],di a,di b] H fun v H'=>v=di (iG [38,38] a b)/\H=H':=by
 rcases ha with rfl | rfl <;> rcases hb with rfl | rfl <;> (refine aj rfl kw rfl ?_; simp only[p8,di,Int.cast_ofNat_Int,sA,sB,seval]; exact⟨by rfl,tt⟩)
theorem Kk{a b:Nat}(ha:a=1∨a=2)(hb:b=1∨b=2){H:ae}:az Tryz.prog aH 153 [.str [61,61],di a,di b] H fun v H'=>v=di (iG [61,61] a b)/\H=H':=by
 rcases ha with rfl | rfl <;> rcases hb with rfl | rfl <;> (refine aj rfl kw rfl ?_; simp only[p8,di,Int.cast_ofNat_Int,sA,sB,seval]; exact⟨by rfl,tt⟩)
theorem Kj{a b:Nat}(ha:a=1∨a=2)(hb:b=1∨b=2){H:ae}:az Tryz.prog aH 153 [.str [33,61],di a,di b] H fun v H'=>v=di (iG [33,61] a b)/\H=H':=by
 rcases ha with rfl | rfl <;> rcases hb with rfl | rfl <;> (refine aj rfl kw rfl ?_; simp only[p8,di,Int.cast_ofNat_Int,sA,sB,seval]; exact⟨by rfl,tt⟩)
theorem Ki{a b:Nat}(ha:a=1∨a=2)(hb:b=1∨b=2){H:ae}:az Tryz.prog aH 153 [.str [60,61],di a,di b] H fun v H'=>v=di (iG [60,61] a b)/\H=H':=by
 rcases ha with rfl | rfl <;> rcases hb with rfl | rfl <;> (refine aj rfl kw rfl ?_; simp only[p8,di,Int.cast_ofNat_Int,sA,sB,seval]; exact⟨by rfl,tt⟩)
theorem Kh{a b:Nat}(ha:a=1∨a=2)(hb:b=1∨b=2){H:ae}:az Tryz.prog aH 153 [.str [62,61],di a,di b] H fun v H'=>v=di (iG [62,61] a b)/\H=H':=by
 rcases ha with rfl | rfl <;> rcases hb with rfl | rfl <;> (refine aj rfl kw rfl ?_; simp only[p8,di,Int.cast_ofNat_Int,sA,sB,seval]; exact⟨by rfl,tt⟩)
theorem Kg{a b:Nat}(ha:a=1∨a=2)(hb:b=1∨b=2){H:ae}:az Tryz.prog aH 153 [.str [60],di a,di b] H fun v H'=>v=di (iG [60] a b)/\H=H':=by
 rcases ha with rfl | rfl <;> rcases hb with rfl | rfl <;> (refine aj rfl kw rfl ?_; simp only[p8,di,Int.cast_ofNat_Int,sA,sB,seval]; exact⟨by rfl,tt⟩)
theorem Kf{a b:Nat}(ha:a=1∨a=2)(hb:b=1∨b=2){H:ae}:az Tryz.prog aH 153 [.str [62],di a,di b] H fun v H'=>v=di (iG [62] a b)/\H=H':=by
 rcases ha with rfl | rfl <;> rcases hb with rfl | rfl <;> (refine aj rfl kw rfl ?_; simp only[p8,di,Int.cast_ofNat_Int,sA,sB,seval]; exact⟨by rfl,tt⟩)
theorem Ke{a b:Nat}(ha:a=1∨a=2)(hb:b=1∨b=2){H:ae}:az Tryz.prog aH 153 [.str [43],di a,di b] H fun v H'=>v=di (iG [43] a b)/\H=H':=by
 rcases ha with rfl | rfl <;> rcases hb with rfl | rfl <;> (refine aj rfl kw rfl ?_; simp only[p8,di,Int.cast_ofNat_Int,sA,sB,seval]; exact⟨by rfl,tt⟩)
theorem Kd{a b:Nat}(ha:a=1∨a=2)(hb:b=1∨b=2){H:ae}:az Tryz.prog aH 153 [.str [45],di a,di b] H fun v H'=>v=di (iG [45] a b)/\H=H':=by
 rcases ha with rfl | rfl <;> rcases hb with rfl | rfl <;> (refine aj rfl kw rfl ?_; simp only[p8,di,Int.cast_ofNat_Int,sA,sB,seval]; exact⟨by rfl,tt⟩)
theorem GY{a b:Nat}(ha:a=1∨a=2)(hb:b=1∨b=2){H:ae}:az Tryz.prog aH 153 [.str [42],di a,di b] H fun v H'=>v=di (iG [42] a b)/\H=H':=by
 rcases ha with rfl | rfl <;> rcases hb with rfl | rfl <;> (refine aj rfl kw rfl ?_; simp only[p8,di,Int.cast_ofNat_Int,sA,sB,seval]; exact⟨by rfl,tt⟩)
theorem GX{a b:Nat}(ha:a=1∨a=2)(hb:b=1∨b=2){H:ae}:az Tryz.prog aH 153 [.str [47],di a,di b] H fun v H'=>v=di (iG [47] a b)/\H=H':=by
 rcases ha with rfl | rfl <;> rcases hb with rfl | rfl <;> (refine aj rfl kw rfl ?_; simp only[p8,di,Int.cast_ofNat_Int,sA,sB,seval]; exact⟨by rfl,tt⟩)
theorem AR{s:Bs}{a b:Nat}(hs:uE s 2=true)(ha:a=1∨a=2)(hb:b=1∨b=2){H:ae}:az Tryz.prog aH 153 [.str s,di a,di b] H fun v H'=>v=di (iG s a b)/\H=H':=by
 have hm:s∈([[124,124],[38,38],[61,61],[33,61],[60,61],[62,61],[60],[62],[43],[45],[42],[47]]:List Bs):=by simpa[uE] using hs
 simp only[List.mem_cons,List.not_mem_nil,or_false]at hm
 rcases hm with rfl | rfl | rfl | rfl | rfl | rfl | rfl | rfl | rfl | rfl | rfl | rfl
 ·exact Km ha hb
 ·exact Kl ha hb
 ·exact Kk ha hb
 ·exact Kj ha hb
 ·exact Ki ha hb
 ·exact Kh ha hb
 ·exact Kg ha hb
 ·exact Kf ha hb
 ·exact Ke ha hb
 ·exact Kd ha hb
 ·exact GY ha hb
 ·exact GX ha hb
theorem AS{s:Bs}{ts:List Nat}{v:aa}{n:Nat}{H:ae}(c:po n H v (uJ ts))(hs:uE s ts.length=true)(ht:∀t∈ts,t=1∨t=2):az Tryz.prog aH 144 [.str s,v] H fun u H'=>u=di (E0 s ts)/\H=H':=by
 have ln:=c.len
 rw[jV]at ln
 match ts,c,hs,ht,ln with
 | [],_,hs,_,_=>simp[uE]at hs
 | [a],c,hs,ht,ln=>
  have i0:=c.idx .i64 (i:=0) (by simp[uJ])
  have l0:=c.load (i:=0) (x:=di a) rfl
  simp only[Int.cast_ofNat_Int,SF,SG,Nat.zero_add]at i0 ln
  have hm:s∈([[45],[33]]:List Bs):=by simpa[uE] using hs
  simp only[List.mem_cons,List.not_mem_nil,or_false]at hm
  have ha:=ht a (by simp)
  rcases hm with rfl | rfl <;> rcases ha with rfl | rfl <;> (refine aj rfl LW rfl ?_; simp only[di,Int.cast_ofNat_Int]at l0; simp only[Ob,di,Int.cast_ofNat_Int,sA,sB,seval,ln,i0,l0]; exact⟨by rfl,tt⟩)
 | [a,b],c,hs,ht,ln=>
  have i0:=c.idx .i64 (i:=0) (by simp[uJ])
  have l0:=c.load (i:=0) (x:=di a) rfl
  have i1:=c.idx .i64 (i:=1) (by simp[uJ])
  have l1:=c.load (i:=1) (x:=di b) rfl
  simp only[Int.cast_ofNat_Int,SF,SG,Nat.zero_add,Nat.reduceAdd]at i0 i1 ln
  refine aj rfl LW rfl ?_
  simp only[Ob,sA,sB,seval,ln,i0,l0,i1,l1]
  refine (AR (by simpa[uE] using hs) (ht a (by simp)) (ht b (by simp))).mono ?_
  rintro u _ ⟨rfl,rfl⟩
  simp only[sA,sB,seval]
  exact⟨tt,tt⟩
 | _::_::_::_,_,hs,_,_=>simp[uE]at hs
theorem yP{x y:List Nat}{v w:aa}{n m:Nat}{H:ae}(c:po n H v (uJ x))(d:po m H w (uJ y))(hl:x.length<=1000000):az Tryz.prog aH 154 [v,w] H fun u H'=>u=.bool (decide (x=y))/\H=H':=by
 have lx:=c.len
 have ly:=d.len
 rw[jV]at lx ly
 refine aj rfl OX rfl ?_
 by_cases hne:x.length=y.length
 case neg=>
  have h1:¬(x.length:Int)=(y.length:Int):=om
  have h2:decide (x=y)=false:=decide_eq_false fun e=>hne (by rw[e])
  simp only[N9,sA,sB,seval,lx,ly,h1,h2]
  exact⟨tt,tt⟩
 have h1:(x.length:Int)=(y.length:Int):=om
 simp only[N9,sA,sB,seval,lx,ly,h1]
 refine cg (fun k (T:cD) H'=>H=H'/\∃i:Nat,k=x.length-i/\i<=x.length/\T 0=v/\T 1=w/\T 12=.int .i64 (y.length:Int)/\T 13=.int .i64 (i:Int)/\x.take i=y.take i) x.length
  ⟨rfl,0,rfl,Nat.zero_le _,by simp only[sA,sB,seval],by simp only[sA,sB,seval]; try rfl,by simp only[sA,sB,seval],by simp only[sA,sB,seval]; try rfl,rfl⟩ ?_
 rintro k T _ ⟨rfl,i,rfl,hi,t0,t1,t12,t13,he⟩
 by_cases hlt:i<x.length
 case neg=>
  obtain rfl:i=x.length:=om
  have hlt':¬(x.length:Int)<(y.length:Int):=om
  rw[List.take_length,hne,List.take_length]at he
  have h2:decide (x=y)=true:=decide_eq_true he
  simp only[sA,sB,seval,t0,t1,t12,t13,hlt',h2]
  exact⟨tt,tt⟩
 have hlt':(i:Int)<(y.length:Int):=om
 obtain⟨a,ha⟩:∃a,x[i]?=some a:=⟨_,SB hlt⟩
 obtain⟨b,hb⟩:∃b,y[i]?=some b:=⟨_,SB om⟩
 have i1:=c.idx .i64 (i:=i) (by rw[jV]; exact hlt)
 have l1:=c.load (i:=i) (x:=di a) (by simp[uJ,ha])
 have i2:=d.idx .i64 (i:=i) (by rw[jV]; omega)
 have l2:=d.load (i:=i) (x:=di b) (by simp[uJ,hb])
 have wk:IntKind.i64.wrap ((i:Int)+1)=((i+1:Nat):Int):=kJ
 simp only[di]at l1 l2
 by_cases hab:a=b
 ·subst hab
  simp only[sA,sB,seval,t0,t1,t12,t13,hlt',i1,l1,i2,l2,wk]
  refine⟨x.length-(i+1),om,tt,i+1,rfl,om,tt,tt,tt,tt,?_⟩
  rw[List.take_add_one,List.take_add_one,ha,hb,he]
 ·have hz:¬(a:Int)=(b:Int):=om
  have h2:decide (x=y)=false:=decide_eq_false fun e=>by
   rw[e]at ha
   rw[ha]at hb
   exact hab (Option.some.inj hb)
  simp only[sA,sB,seval,t0,t1,t12,t13,hlt',i1,l1,i2,l2,hz,h2]
  exact⟨tt,tt⟩
def yF{α:Type}(g:α->aa):List (Bs×α)->Nat->List ip
 | [],_=>[]
 | p::l,i=>(.str p.1,g p.2,i)::yF g l (i+1)
theorem vw{α:Type}(g:α->aa)(s:Bs):∀(L:List (Bs×α)) (i j:Nat),(hD L s=none->gj .str (.str s) (yF g L i) j=some none)/\∀x,hD L s=some x->∃k b,gj .str (.str s) (yF g L i) j=some (some (k,(.str s,g x,b)))
 | [],i,j=>⟨fun _=>rfl,fun x h=>by simp[hD]at h⟩
 | p::L,i,j=>by
  obtain⟨h1,h2⟩:=vw g s L (i+1) (j+1)
  by_cases hp:p.1=s
  ·have e:(s==p.1)=true:=by rw[hp]; exact beq_self_eq_true _
   refine⟨fun h=>by simp[hD,hp]at h,fun x h=>⟨j,i,?_⟩⟩
   simp only[hD,if_pos hp,sJ]at h
   subst h
   simp only[yF,gj,Bp,e,hp,beq_self_eq_true]
  ·have e:(s==p.1)=false:=by rw[beq_eq_false_iff_ne]; exact fun q=>hp q.symm
   constructor
   ·intro h
    simp only[hD,if_neg hp]at h
    simp only[yF,gj,Bp,e,h1 h]
   ·intro x h
    simp only[hD,if_neg hp]at h
    obtain⟨k,b,q⟩:=h2 x h
    exact⟨k,b,by simp only[yF,gj,Bp,e,q]⟩
theorem EH{α:Type}(g:α->aa){H:ae}{mb c:Nat}{L:List (Bs×α)}(h:H.get mb=some (.map (yF g L 0) c))(s:Bs)(z:aa) :
  mV (.mLook .str true z) H [.map (some mb),.str s]=some (.tuple [match hD L s with | some x=>g x | none=>z,.bool (hD L s).isSome],H):=by
 obtain⟨h1,h2⟩:=vw g s L 0 0
 cases ha:hD L s with
 | none=>simp only[mV,uo,h,yh,xM,cond_true,h1 ha,uR,Option.isSome]
 | some x=>
  obtain⟨k,b,q⟩:=h2 x ha
  simp only[mV,uo,h,yh,xM,cond_true,q,uR,Option.isSome]
theorem dk{H:ae}{m:Nat}{es:List ip}{c:Nat}{k:List UInt8}{v:aa}(hg:H.get m=some (.map es c))(hf:gj .str (.str k) es 0=some none) :
  ∃H',mV (.mf (.upd .str)) H [.map (some m),.str k,v]=some (.tuple [],H')/\H'.next=H.next/\H'.get m=some (.map (es++[(.str k,v,c)]) (c+1))/\∀b,b≠m->H'.get b=H.get b:=
 ⟨H.set m (.map (es++[(.str k,v,c)]) (c+1)),by simp only[mV,M7,hg,QA,xM,cond_true,hf],rfl,by rw[ae.get_set,if_pos rfl],fun b hb=>by rw[ae.get_set,if_neg hb]⟩
def gB(x:List Nat×Nat):aa:=.agg [.int .i64 (x.1.length:Int),di (x.1.getD 0 0),di (x.1.getD 1 0),di (x.1.getD 2 0),di x.2]
def Oj(mb:Nat)(H:ae):Prop:=H.get mb=some (.map (yF gB qi 0) 15)
set_option maxRecDepth 100000 in
theorem EG{H:ae}:az Tryz.prog aH 141 [] H fun u H'=>u=.map (some H.next)/\Oj H.next H'/\H'.next=H.next+1/\∀c,c≠H.next->H'.get c=H.get c:=by
 refine aj rfl O2 rfl ?_
 have mm:mV .mkMap H []=some (.map (some H.next),H.push (.map [] 0)):=rfl
 have q0:(H.push (.map [] 0)).get H.next=some (.map [] 0):=by rw[ae.get_push,if_pos rfl]
 have o0:∀b,b≠H.next->(H.push (.map [] 0)).get b=H.get b:=fun b hb=>by rw[ae.get_push,if_neg hb]
 obtain⟨K1,m1,n1,q1,o1⟩:=dk (H:=H.push (.map [] 0)) (v:=.agg [.int .i64 3,.int .u8 1,.int .u8 1,.int .u8 1,.int .u8 2]) q0 (k:=[118,101,99]) rfl
 obtain⟨K2,m2,n2,q2,o2⟩:=dk (H:=K1) (v:=.agg [.int .i64 1,.int .u8 2,.int .u8 0,.int .u8 0,.int .u8 1]) q1 (k:=[120]) rfl
 obtain⟨K3,m3,n3,q3,o3⟩:=dk (H:=K2) (v:=.agg [.int .i64 1,.int .u8 2,.int .u8 0,.int .u8 0,.int .u8 1]) q2 (k:=[121]) rfl
 obtain⟨K4,m4,n4,q4,o4⟩:=dk (H:=K3) (v:=.agg [.int .i64 1,.int .u8 2,.int .u8 0,.int .u8 0,.int .u8 1]) q3 (k:=[122]) rfl
 obtain⟨K5,m5,n5,q5,o5⟩:=dk (H:=K4) (v:=.agg [.int .i64 2,.int .u8 2,.int .u8 2,.int .u8 0,.int .u8 1]) q4 (k:=[100,111,116]) rfl
 obtain⟨K6,m6,n6,q6,o6⟩:=dk (H:=K5) (v:=.agg [.int .i64 2,.int .u8 2,.int .u8 2,.int .u8 0,.int .u8 2]) q5 (k:=[99,114,111,115,115]) rfl
 obtain⟨K7,m7,n7,q7,o7⟩:=dk (H:=K6) (v:=.agg [.int .i64 1,.int .u8 2,.int .u8 0,.int .u8 0,.int .u8 2]) q6 (k:=[117,110,105,116]) rfl
 obtain⟨K8,m8,n8,q8,o8⟩:=dk (H:=K7) (v:=.agg [.int .i64 1,.int .u8 1,.int .u8 0,.int .u8 0,.int .u8 1]) q7 (k:=[115,113,114,116]) rfl
 obtain⟨K9,m9,n9,q9,o9⟩:=dk (H:=K8) (v:=.agg [.int .i64 1,.int .u8 1,.int .u8 0,.int .u8 0,.int .u8 1]) q8 (k:=[115,105,110]) rfl
 obtain⟨K10,m10,n10,q10,o10⟩:=dk (H:=K9) (v:=.agg [.int .i64 1,.int .u8 1,.int .u8 0,.int .u8 0,.int .u8 1]) q9 (k:=[99,111,115]) rfl
 obtain⟨K11,m11,n11,q11,o11⟩:=dk (H:=K10) (v:=.agg [.int .i64 1,.int .u8 1,.int .u8 0,.int .u8 0,.int .u8 1]) q10 (k:=[97,98,115]) rfl
 obtain⟨K12,m12,n12,q12,o12⟩:=dk (H:=K11) (v:=.agg [.int .i64 1,.int .u8 1,.int .u8 0,.int .u8 0,.int .u8 1]) q11 (k:=[102,108,111,111,114]) rfl
 obtain⟨K13,m13,n13,q13,o13⟩:=dk (H:=K12) (v:=.agg [.int .i64 2,.int .u8 1,.int .u8 1,.int .u8 0,.int .u8 1]) q12 (k:=[109,105,110]) rfl
 obtain⟨K14,m14,n14,q14,o14⟩:=dk (H:=K13) (v:=.agg [.int .i64 2,.int .u8 1,.int .u8 1,.int .u8 0,.int .u8 1]) q13 (k:=[109,97,120]) rfl
 obtain⟨K15,m15,n15,q15,o15⟩:=dk (H:=K14) (v:=.agg [.int .i64 2,.int .u8 1,.int .u8 1,.int .u8 0,.int .u8 2]) q14 (k:=[115,97,109,112,108,101]) rfl
 have b0:aL [.int .u8 0,.int .u8 0,.int .u8 0] [(0,1,.int .u8 1),(1,1,.int .u8 1),(2,1,.int .u8 1)]=some (.agg [.int .u8 1,.int .u8 1,.int .u8 1]):=rfl
 have b1:aL [.int .u8 0,.int .u8 0,.int .u8 0] [(0,1,.int .u8 2)]=some (.agg [.int .u8 2,.int .u8 0,.int .u8 0]):=rfl
 have b2:aL [.int .u8 0,.int .u8 0,.int .u8 0] [(0,1,.int .u8 2),(1,1,.int .u8 2)]=some (.agg [.int .u8 2,.int .u8 2,.int .u8 0]):=rfl
 have b3:aL [.int .u8 0,.int .u8 0,.int .u8 0] [(0,1,.int .u8 1)]=some (.agg [.int .u8 1,.int .u8 0,.int .u8 0]):=rfl
 have b4:aL [.int .u8 0,.int .u8 0,.int .u8 0] [(0,1,.int .u8 1),(1,1,.int .u8 1)]=some (.agg [.int .u8 1,.int .u8 1,.int .u8 0]):=rfl
 have b5:aL [.int .i64 0,.int .u8 0,.int .u8 0,.int .u8 0,.int .u8 0] [(0,1,.int .i64 3),(1,3,.agg [.int .u8 1,.int .u8 1,.int .u8 1]),(4,1,.int .u8 2)]=some (.agg [.int .i64 3,.int .u8 1,.int .u8 1,.int .u8 1,.int .u8 2]):=rfl
 have b6:aL [.int .i64 0,.int .u8 0,.int .u8 0,.int .u8 0,.int .u8 0] [(0,1,.int .i64 1),(1,3,.agg [.int .u8 2,.int .u8 0,.int .u8 0]),(4,1,.int .u8 1)]=some (.agg [.int .i64 1,.int .u8 2,.int .u8 0,.int .u8 0,.int .u8 1]):=rfl
 have b7:aL [.int .i64 0,.int .u8 0,.int .u8 0,.int .u8 0,.int .u8 0] [(0,1,.int .i64 2),(1,3,.agg [.int .u8 2,.int .u8 2,.int .u8 0]),(4,1,.int .u8 1)]=some (.agg [.int .i64 2,.int .u8 2,.int .u8 2,.int .u8 0,.int .u8 1]):=rfl
 have b8:aL [.int .i64 0,.int .u8 0,.int .u8 0,.int .u8 0,.int .u8 0] [(0,1,.int .i64 2),(1,3,.agg [.int .u8 2,.int .u8 2,.int .u8 0]),(4,1,.int .u8 2)]=some (.agg [.int .i64 2,.int .u8 2,.int .u8 2,.int .u8 0,.int .u8 2]):=rfl
 have b9:aL [.int .i64 0,.int .u8 0,.int .u8 0,.int .u8 0,.int .u8 0] [(0,1,.int .i64 1),(1,3,.agg [.int .u8 2,.int .u8 0,.int .u8 0]),(4,1,.int .u8 2)]=some (.agg [.int .i64 1,.int .u8 2,.int .u8 0,.int .u8 0,.int .u8 2]):=rfl
 have b10:aL [.int .i64 0,.int .u8 0,.int .u8 0,.int .u8 0,.int .u8 0] [(0,1,.int .i64 1),(1,3,.agg [.int .u8 1,.int .u8 0,.int .u8 0]),(4,1,.int .u8 1)]=some (.agg [.int .i64 1,.int .u8 1,.int .u8 0,.int .u8 0,.int .u8 1]):=rfl
 have b11:aL [.int .i64 0,.int .u8 0,.int .u8 0,.int .u8 0,.int .u8 0] [(0,1,.int .i64 2),(1,3,.agg [.int .u8 1,.int .u8 1,.int .u8 0]),(4,1,.int .u8 1)]=some (.agg [.int .i64 2,.int .u8 1,.int .u8 1,.int .u8 0,.int .u8 1]):=rfl
 have b12:aL [.int .i64 0,.int .u8 0,.int .u8 0,.int .u8 0,.int .u8 0] [(0,1,.int .i64 2),(1,3,.agg [.int .u8 1,.int .u8 1,.int .u8 0]),(4,1,.int .u8 2)]=some (.agg [.int .i64 2,.int .u8 1,.int .u8 1,.int .u8 0,.int .u8 2]):=rfl
 simp only[Qb,sA,sB,seval,mm,b0,b1,b2,b3,b4,b5,b6,b7,b8,b9,b10,b11,b12,m1,m2,m3,m4,m5,m6,m7,m8,m9,m10,m11,m12,m13,m14,m15]
 refine⟨tt,q15,?_,fun b hb=>?_⟩
 ·rw[n15,n14,n13,n12,n11,n10,n9,n8,n7,n6,n5,n4,n3,n2,n1]; rfl
 ·rw[o15 b hb,o14 b hb,o13 b hb,o12 b hb,o11 b hb,o10 b hb,o9 b hb,o8 b hb,o7 b hb,o6 b hb,o5 b hb,o4 b hb,o3 b hb,o2 b hb,o1 b hb,o0 b hb]
theorem BZ:∀x∈qi,x.2.1.length<=3/\1<=x.2.1.length:=by decide
theorem aS3{b n:Nat}(h:n<=3):nR 3 1 (af b 5 1) none (some (.int .i64 (n:Int))) none=some (.slice (some ⟨b,5,1⟩) n (.known 3)):=by
 match n,h with
 | 0,_=>rfl
 | 1,_=>rfl
 | 2,_=>rfl
 | 3,_=>rfl
theorem AU{s:Bs}{ts:List Nat}{v vn vk:aa}{n ab mb mt mk:Nat}{H:ae}(hA:JS ab vn vk mb mt mk H)(hab:ab<H.next)(hB:Oj mb H)(c:po n H v (uJ ts))(hn:n<=H.next)(hl:ts.length<=1000000) :
  az Tryz.prog aH 145 [af ab 5 0,.str s,v] H fun u H'=>u=(match oU s ts with | .ok t=>.tuple [di t,.int .i64 0] | .error f=>.tuple [di 0,.int .i64 (f:Int)])/\cZ H.next H H':=by
 refine aj rfl O0 rfl ?_
 have lb:au false 1 H (af ab 5 2)=some (.map (some mb)):=am hA rfl rfl
 have lk:=EH gB hB s (.agg [.int .i64 0,.int .u8 0,.int .u8 0,.int .u8 0,.int .u8 0])
 have ln:=c.len
 rw[jV]at ln
 unfold oU
 cases ha:hD qi s with
 | none=>
  rw[ha]at lk
  simp only[Option.isSome]at lk
  obtain⟨H1,m1,r1,n1,k1⟩:=aw H [.int .i64 0,.int .u8 0,.int .u8 0,.int .u8 0,.int .u8 0] (n:=5) rfl
  obtain⟨H2,m2,r2,n2,k2⟩:=ak r1 (n:=5) rfl (xs:=[.int .i64 0,.int .u8 0,.int .u8 0,.int .u8 0,.int .u8 0]) rfl rfl
  simp only[Oa,sA,sB,seval,aZ,aF,lb,lk,bA,bx,m1,m2]
  exact⟨tt,om,fun c hc=>by rw[k2 c om,k1 c om]⟩
 | some x=>
  obtain⟨args,own⟩:=x
  rw[ha]at lk
  simp only[Option.isSome,gB]at lk
  obtain⟨h3,h1⟩:=BZ _ (qh ha)
  simp only at h3 h1
  obtain⟨H1,m1,r1,n1,k1⟩:=aw H [.int .i64 0,.int .u8 0,.int .u8 0,.int .u8 0,.int .u8 0] (n:=5) rfl
  obtain⟨H2,m2,r2,n2,k2⟩:=ak r1 (n:=5) rfl (xs:=[.int .i64 (args.length:Int),di (args.getD 0 0),di (args.getD 1 0),di (args.getD 2 0),di own]) rfl rfl
  have kk:∀c,c<H.next->H2.get c=H.get c:=fun c hc=>by rw[k2 c om,k1 c om]
  have E2:cZ H.next H H2:=⟨om,kk⟩
  have l0:au false 1 H2 (af H.next 5 0)=some (.int .i64 (args.length:Int)):=am r2 rfl rfl
  have l4:au false 1 H2 (af H.next 5 4)=some (di own):=am r2 rfl rfl
  have c2:po n H2 v (uJ ts):=c.ext ⟨om,fun b hb=>kk b om⟩
  have s3:=aS3 (b:=H.next) h3
  have d2:po (H.next+1) H2 (.slice (some ⟨H.next,5,1⟩) args.length (.known 3)) (uJ args):=by
   refine .inr ⟨⟨H.next,5,1⟩,.known 3,by rw[jV],by show H.next<H.next+1; omega,?_⟩
   have:=sZ r2 (n:=5) rfl (i:=1) (k:=args.length) om
   rw[jV,this]
   match args,h3 with
   | [],_=>rfl
   | [_],_=>rfl
   | [_,_],_=>rfl
   | [_,_,_],_=>rfl
  simp only[Oa,sA,sB,seval,aZ,fld0,aF,lb,lk,bA,bx,m1,m2,ln,l0]
  by_cases hne:ts.length=args.length
  case neg=>
   have hne':¬(ts.length:Int)=(args.length:Int):=om
   simp only[sA,sB,seval,hne,hne',ne_eq,not_false_eq_true,if_true]
   exact⟨tt,E2⟩
  have hne':(ts.length:Int)=(args.length:Int):=om
  simp only[sA,sB,seval,hne',s3,aZ,fld0,l0]
  refine (yP c2 d2 hl).mono ?_
  rintro u _ ⟨rfl,rfl⟩
  by_cases he:ts=args
  ·subst he
   simp only[sA,sB,seval,aZ,l4]
   simp
   exact E2
  ·have hd:decide (ts=args)=false:=decide_eq_false he
   simp only[sA,sB,seval,hd]
   simp[hne,he]
   exact⟨rfl,E2⟩
open Go.Abs Go.Abs.S
theorem FT{s:Bs}{ts:List Nat}{f:Nat}(h:oU s ts=.error f):f≠0:=by
 unfold oU at h
 repeat' split at h
 all_goals first | (simp at h; done) | (simp only[Except.error.injEq]at h; omega)
theorem Fw{E:bC}{k:Nat}{s:Bs}{ts:List Nat}{f:Nat}(h:oL E k s ts=.error f):f≠0:=by
 unfold oL at h
 repeat' split at h
 all_goals first | (simp at h; done) | exact FT h | (simp only[Except.error.injEq]at h; omega)
mutual
theorem ry{E:bC}:∀{e:Ex} {f:Nat},rz E e=.error f->f≠0
 | .mk k s n kids,f,h=>by
  simp only[rz]at h
  cases hk:ez E kids with
  | error g=>
   rw[hk]at h
   simp only[Except.error.injEq]at h
   subst h
   exact sD hk
  | ok ts=>
   rw[hk]at h
   exact Fw h
theorem sD{E:bC}:∀{l:List Ex} {f:Nat},ez E l=.error f->f≠0
 | [],f,h=>by simp[ez]at h
 | e::l,f,h=>by
  simp only[ez]at h
  cases he:rz E e with
  | error g=>
   rw[he]at h
   simp only[Except.error.injEq]at h
   subst h
   exact ry he
  | ok t=>
   rw[he]at h
   cases hl:ez E l with
   | error g=>
    rw[hl]at h
    simp only[Except.error.injEq]at h
    subst h
    exact sD hl
   | ok ts=>rw[hl]at h; simp at h
end
def AF(E:bC)(Q:Nat->Prop)(H:ae)(kids:List Ex)(x:aa):Prop:=match ez E kids with
 | .ok ts=>∃v,x=.agg [v,.int .i64 0]/\cp 1 H v (uJ ts) ts.length/\da v Q
 | .error f=>x=.agg [bJ,.int .i64 (f:Int)]
theorem AF.keep{E:bC}{Q Q':Nat->Prop}{H H':ae}{kids:List Ex}{x:aa}(h:AF E Q H kids x)(hn:H.next<=H'.next)(q:∀b,Q b->b<H.next->Q' b/\H'.get b=H.get b):AF E Q' H' kids x:=by
 unfold AF at h ⊢
 split at h
 ·obtain⟨v,h1,h2,h3⟩:=h
  have hb:=h2.blk
  exact⟨v,h1,h2.same hn fun a j r e=>(q _ (h3 a j r e) (hb a j r e)).2,fun a j r e=>(q _ (h3 a j r e) (hb a j r e)).1⟩
 ·exact h
structure iq(E:bC)(n0 n1 ab:Nat)(vn vk:aa)(mb mt mk:Nat)(Q:Nat->Prop)(H:ae):Prop where
 ask:JS ab vn vk mb mt mk H
 abl:ab<H.next/\ab≠mk
 n0l:n0<=mk/\n0<=H.next
 blt:Oj mb H
 mbl:mb<H.next/\mb≠mk
 n1l:n1<=mk/\n1<=H.next
 nm:po n1 H vn (vM E)
 kd:po n1 H vk (xK E)
 kn:gn (·<n0) (AF E Q) mk H
 hQ:∀b,Q b->b<H.next/\b≠mk
theorem iq.step{E:bC}{n0 n1 ab mb mt mk:Nat}{vn vk:aa}{Q Q':Nat->Prop}{H H':ae}(A:iq E n0 n1 ab vn vk mb mt mk Q H)(hn:H.next<=H'.next)(hab:H'.get ab=H.get ab)(hmb:H'.get mb=H.get mb)(hold:∀c,c<n0∨c<n1->H'.get c=H.get c)
  (hk:gn (·<n0) (AF E Q') mk H') (hQ':∀b,Q' b->b<H'.next/\b≠mk):iq E n0 n1 ab vn vk mb mt mk Q' H':=by
 have h1:=A.abl; have h2:=A.n0l; have h3:=A.mbl; have h4:=A.n1l
 have e1:cZ n1 H H':=⟨hn,fun c hc=>hold c (.inr hc)⟩
 exact⟨A.ask.same hab,⟨om,h1.2⟩,⟨h2.1,om⟩,hmb.trans A.blt,⟨om,h3.2⟩,⟨h4.1,om⟩,A.nm.ext e1,A.kd.ext e1,hk,hQ'⟩
theorem iq.ext{E:bC}{n0 n1 ab mb mt mk:Nat}{vn vk:aa}{Q Q':Nat->Prop}{H H':ae}(A:iq E n0 n1 ab vn vk mb mt mk Q H)(hn:H.next<=H'.next)(hold:∀c,c<H.next->(Q c∨c=ab∨c=mb∨c=mk∨c<n0∨c<n1)->H'.get c=H.get c)(hQ:∀b,Q b->Q' b)(hQ':∀b,Q' b->b<H'.next/\b≠mk):iq E n0 n1 ab vn vk mb mt mk Q' H':=by
 have h1:=A.abl; have h2:=A.n0l; have h3:=A.mbl; have h4:=A.n1l; have h5:=A.kn.1
 refine A.step hn (hold _ h1.1 (.inr (.inl rfl))) (hold _ h3.1 (.inr (.inr (.inl rfl)))) (fun c hc=>?_) (A.kn.keep hn (hold _ h5 (.inr (.inr (.inr (.inl rfl))))) (fun b hb=>⟨hb,hold b (by have:b<n0:=hb; omega) (.inr (.inr (.inr (.inr (.inl hb)))))⟩) fun k y q=>q.keep hn fun b hb hl=>⟨hQ b hb,hold b hl (.inl hb)⟩) hQ'
 rcases hc with hc | hc
 ·exact hold c om (.inr (.inr (.inr (.inr (.inl hc)))))
 ·exact hold c om (.inr (.inr (.inr (.inr (.inr hc)))))
def QX(Q:Nat->Prop)(n m:Nat)(b:Nat):Prop:=Q b∨n<=b/\b<m
def Me(o:Except Nat Nat):aa:=match o with
 | .ok t=>.tuple [di t,.int .i64 0]
 | .error f=>.tuple [di 0,.int .i64 (f:Int)]
def QM(E:bC)(n0 n1 ab:Nat)(vn vk:aa)(mb mt mk:Nat)(N:Nat):Prop:=∀{e:Ex} {c:List aa} {p:aa} {H:ae} {Q:Nat->Prop},e.size<=N->iq E n0 n1 ab vn vk mb mt mk Q H->nU H p c->(∀a,p=.ptr (some a)->a.b<H.next/\a.b≠mk)->lU (·<n0) H e c->qX e=true ->
 az Tryz.prog aH 128 [af ab 5 0,p] H fun u H'=>u=Me (rz E e)/\Fp mk H H'/\iq E n0 n1 ab vn vk mb mt mk (QX Q H.next H'.next) H'
def Ng(E:bC)(n0 n1 ab:Nat)(vn vk:aa)(mb mt mk:Nat)(Q:Nat->Prop)(H:ae)(kids:List Ex)(u:aa)(H':ae):Prop:=(match ez E kids with
  | .ok ts=>∃w,u=.tuple [w,.int .i64 0]/\cp 1 H' w (uJ ts) ts.length/\da w (QX Q H.next H'.next)
  | .error f=>u=.tuple [bJ,.int .i64 (f:Int)])/\Fp mk H H'/\iq E n0 n1 ab vn vk mb mt mk (QX Q H.next H'.next) H'
def JM(E:bC)(n0 n1 ab:Nat)(vn vk:aa)(mb mt mk:Nat)(N:Nat):Prop:=∀{kids:List Ex} {C:List aa} {v:aa} {H:ae} {Q:Nat->Prop},bZ kids<=N->iq E n0 n1 ab vn vk mb mt mk Q H->ql (·<n0) H 4 v kids.length C->dF (·<n0) H kids C->gU kids=true ->
 az Tryz.prog aH 143 [af ab 5 0,v] H (Ng E n0 n1 ab vn vk mb mt mk Q H kids)
theorem iq.qx{E:bC}{n0 n1 ab mb mt mk:Nat}{vn vk:aa}{Q:Nat->Prop}{H:ae}(A:iq E n0 n1 ab vn vk mb mt mk Q H){n m:Nat}(hn:H.next<=n)(hm:n<=m):∀b,QX Q n m b->b<m/\b≠mk:=by
 intro b hb
 have:=A.kn.1
 rcases hb with hb | hb
 ·have:=A.hQ b hb; omega
 ·omega
theorem QX.sub{Q:Nat->Prop}{a b c d:Nat}(hab:b<=a)(hbd:c<=d){x:Nat}(h:QX Q a c x):QX Q b d x:=by
 rcases h with h | ⟨h1,h2⟩
 ·exact .inl h
 ·exact .inr ⟨om,om⟩
theorem HR{k:Nat}{s:Bs}{n:Int}{kids:List Ex}(h:qX (.mk k s n kids)=true):fj k s n kids.length=true/\gU kids=true:=by
 simpa[qX] using h
theorem KD{k:Nat}{s:Bs}{n:Int}{m:Nat}(h:fj k s n m=true):(k=1∨k=2∨k=3∨k=4)/\(k=3->uE s m=true)/\((k=1∨k=2)->m=0):=by
 unfold fj at h
 by_cases h1:k=1
 ·rw[if_pos h1]at h; simp at h; exact⟨.inl h1,fun e=>om,fun _=>h.2.2⟩
 rw[if_neg h1]at h
 by_cases h2:k=2
 ·rw[if_pos h2]at h; simp at h; exact⟨.inr (.inl h2),fun e=>om,fun _=>h.2.2⟩
 rw[if_neg h2]at h
 by_cases h3:k=3
 ·rw[if_pos h3]at h; simp at h; exact⟨.inr (.inr (.inl h3)),fun _=>h.2,fun e=>om⟩
 rw[if_neg h3]at h
 by_cases h4:k=4
 ·exact⟨.inr (.inr (.inr h4)),fun e=>om,fun e=>om⟩
 ·rw[if_neg h4]at h; simp at h
theorem ofP{E:bC}(hE:uH E){n0 n1 ab mb mt mk:Nat}{vn vk:aa}{N:Nat}(hEl:E.length<=1000000)(hN:N<=1000000)(ih:JM E n0 n1 ab vn vk mb mt mk N):QM E n0 n1 ab vn vk mb mt mk (N+1):=by
 intro e c p H Q hsz A pt hp hx hok
 obtain⟨k,s,n,kids⟩:=e
 obtain⟨v,C,rfl,z1,z2⟩:=hx
 obtain⟨hpf,hks⟩:=HR hok
 obtain⟨hk4,hop,hk0⟩:=KD hpf
 have hs1:(Ex.mk k s n kids).size=bZ kids+1:=rfl
 have l3:au false 1 H (fp p 3)=some v:=pt.load (o:=3) rfl
 have f3:=pt.fld 3
 have nc:=pt.chk
 refine aj rfl Pa rfl ?_
 simp only[Qg,sA,sB,seval,nc,f3,l3]
 refine (ih om A z1 z2 hks).mono ?_
 rintro u H1 ⟨hu,F1,A1⟩
 have e1:=F1.next
 have pt1:nU H1 p [.int .u8 (k:Int),.str s,.int .i64 n,v]:=pt.fp F1 hp
 have f0:=pt1.fld0
 have f1:=pt1.fld 1
 have l0:au false 1 H1 p=some (.int .u8 (k:Int)):=pt1.load0 rfl
 have l1:au false 1 H1 (fp p 1)=some (.str s):=pt1.load (o:=1) rfl
 simp only[rz]
 cases hty:ez E kids with
 | error f=>
  rw[hty]at hu
  subst hu
  have hf:=sD hty
  have hf':¬(f:Int)=0:=om
  simp only[sA,sB,seval,bA,bx,hf']
  exact⟨tt,F1,A1⟩
 | ok ts=>
  rw[hty]at hu
  obtain⟨w,rfl,hw,hwb⟩:=hu
  have htl:=sC hty
  have ht2:=sy hE hty
  simp only[sA,sB,seval,bA,bx,nc,f0,l0]
  rcases hk4 with rfl | rfl | rfl | rfl
  ·have e1:oL E 1 s ts=.ok 1:=rfl
   simp only[sA,sB,seval,e1,Int.cast_ofNat_Int]
   exact⟨tt,F1,A1⟩
  ·-- a name
   have e2:oL E 2 s ts=match jk E s with | some t=>.ok t | none=>.error 110:=rfl
   have la0:au false 1 H1 (af ab 5 0)=some vn:=am A1.ask rfl rfl
   have la1:au false 1 H1 (af ab 5 1)=some vk:=am A1.ask rfl rfl
   have lnn:=A1.nm.len
   rw[oH]at lnn
   have w0:IntKind.i64.wrap ((E.length:Int)-1)=(E.length:Int)-1:=kJ
   simp only[sA,sB,seval,Int.cast_ofNat_Int,aF,fld0,la0,lnn,w0]
   refine cg (fun m (T:cD) K=>H1=K/\∃i:Nat,m=i/\i<=E.length/\T 0=af ab 5 0/\T 1=p/\T 8=.int .i64 ((i:Int)-1)/\jk E s=jk (E.take i) s) E.length
    ⟨rfl,E.length,rfl,Nat.le_refl _,by simp only[sA,sB,seval],by simp only[sA,sB,seval]; try rfl,by simp only[sA,sB,seval],by rw[List.take_length]⟩ ?_
   rintro m T _ ⟨rfl,i,rfl,hi,t0,t1,t8,hl⟩
   cases m with
   | zero=>
    have h0:¬(0:Int)<=((0:Nat):Int)-1:=om
    have hn:jk E s=none:=by rw[hl]; rfl
    simp only[sA,sB,seval,t0,t1,t8,h0,e2,hn]
    exact⟨tt,F1,A1⟩
   | succ i=>
    have h0:(0:Int)<=((i+1:Nat):Int)-1:=om
    obtain⟨y,hy⟩:∃y,E[i]?=some y:=⟨_,SB om⟩
    have hts:E.take (i+1)=E.take i++[y]:=by rw[List.take_add_one,hy]; rfl
    rw[hts,tw]at hl
    have ie:((i+1:Nat):Int)-1=(i:Int):=om
    rw[ie]at h0 t8
    have i1:=A1.nm.idx .i64 (i:=i) (by rw[oH]; omega)
    have q1:=A1.nm.load (i:=i) (x:=.str y.1) (by simp[vM,hy])
    have i2:=A1.kd.idx .i64 (i:=i) (by rw[xJ]; omega)
    have q2:=A1.kd.load (i:=i) (x:=di y.2) (by simp[xK,hy])
    have wi:IntKind.i64.wrap ((i:Int)-1)=(i:Int)-1:=kJ
    by_cases hs:y.1=s
    ·rw[if_pos hs]at hl
     simp only[sA,sB,seval,t0,t1,t8,h0,aF,fld0,aZ,la0,la1,i1,q1,i2,q2,nc,f1,l1,hs,e2,hl]
     exact⟨tt,F1,A1⟩
    ·rw[if_neg hs]at hl
     simp only[sA,sB,seval,t0,t1,t8,h0,aF,fld0,aZ,la0,la1,i1,q1,i2,q2,nc,f1,l1,hs,wi]
     exact⟨i,om,tt,i,rfl,om,tt,tt,tt,hl⟩
  ·-- an operation
   have e3:oL E 3 s ts=if E0 s ts=0 then .error 111 else .ok (E0 s ts):=rfl
   have hc:=(cp.cel1 hw hw.blk).1
   simp only[sA,sB,seval,Int.cast_ofNat_Int,nc,f1,l1]
   refine (AS hc (by rw[htl]; exact hop rfl) ht2).mono ?_
   rintro _ _ ⟨rfl,rfl⟩
   by_cases h0:E0 s ts=0
   ·rw[e3,if_pos h0]
    simp only[sA,sB,seval,di,h0,Int.cast_ofNat_Int]
    exact⟨tt,F1,A1⟩
   ·have h0':¬(E0 s ts:Int)=0:=om
    rw[e3,if_neg h0]
    simp only[sA,sB,seval,di,h0']
    exact⟨tt,F1,A1⟩
  ·-- a call
   have e4:oL E 4 s ts=oU s ts:=rfl
   have hc:=(cp.cel1 hw hw.blk).1
   simp only[sA,sB,seval,Int.cast_ofNat_Int,nc,f1,l1]
   refine (AU (s:=s) A1.ask A1.abl.1 A1.blt hc rL (by have:=iK kids; omega)).mono ?_
   rintro _ H2 ⟨rfl,E2⟩
   have e2:=E2.next
   have A2:iq E n0 n1 ab vn vk mb mt mk (QX Q H.next H2.next) H2:=A1.ext e2 (fun c hc _=>E2.old c hc) (fun b hb=>hb.sub rL e2) (A.qx rL om)
   rw[e4]
   cases hct:oU s ts with
   | ok t=>
    simp only[sA,sB,seval,bA,bx]
    exact⟨tt,F1.trans ⟨e2,fun c hc _=>E2.old c hc⟩,A2⟩
   | error f=>
    simp only[sA,sB,seval,bA,bx]
    exact⟨tt,F1.trans ⟨e2,fun c hc _=>E2.old c hc⟩,A2⟩
end Go.Proofs.Wo
