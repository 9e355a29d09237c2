/- Part of a proof (YR5 YR6 YR7 YR8 YPZ YR9 YRA YH2 YCl YNat); no condition. -/
import Derived.Shelf.LaysM
import Derived.Shelf.Strconv.Clone
import Derived.Test.YtfleblkgifoeaaaGreatDoorProg
import Derived.Test.YtfleblkgifoeaaaGreatDoorP6
import Derived.Test.YtfleblkgifoeaaaGreatDoorP9
import Derived.Test.YtfleblkgifoeaaaGreatDoorP12
set_option linter.unusedSimpArgs false
set_option linter.unusedVariables false
set_option linter.unnecessarySimpa false
namespace Go.Proofs.Wo
open Go.Abs Go.Abs.S
theorem Sta.row{rb:Nat}{s:Bs}{H:AHeap}{o:Except Flt Wd}{d:Nat}(h:Sta rb s H o d):∃w e l,Row H rb (rObj s w e l d)∧∀H' d',Row H' rb (rObj s w e l (d':Nat))→Sta rb s H' o d':=by
 cases o with
 | ok w=>exact⟨w,0,0,h,fun _ _ q=>q⟩
 | error f=>exact⟨W0,_,_,h.1,fun _ _ q=>⟨q,h.2⟩⟩
theorem Sta.deep{rb:Nat}{s:Bs}{H:AHeap}{o:Except Flt Wd}{d:Nat}(h:Sta rb s H o (d+1))(hd:d≤1000):oLoad false 1 H (cellR rb 10 9)=some (.int .i64 ((d+1:Nat):Int))∧IntKind.i64.wrap (((d+1:Nat):Int)-1)=(d:Int)∧∃H',oStore 1 H (cellR rb 10 9) (.int .i64 (d:Int))=some H'∧Sta rb s H' o d∧H'.next=H.next∧∀c,c≠rb→H'.get c=H.get c:=by
 obtain⟨w,e,l,hr,hk⟩:=h.row
 obtain⟨H',m,r,n,k⟩:=row_st hr (n:=10) rfl (i:=9) om (x:=.int .i64 (d:Int)) rfl (l':=rObj s w e l (d:Nat)) rfl
 exact⟨row_load hr rfl rfl,w64,H',m,hk H' d r,n,k⟩
theorem live_unary{rb:Nat}{s:Bs}{f:Nat}(ihu:LiveE rb s 210 fun d w=>pE s f (.rule 0) d w)(ihp:LiveE rb s 211 fun d w=>pE s f .prim d w):LiveE rb s 210 fun d w=>pE s (f+1) (.rule 0) d w:=by
 intro H w d r hsA ok hd hrb hr
 have dead:DeadE rb s 210:=dead_unary rb s
 refine acalls_ofN rfl za210 rfl ?_
 simp only[pE_succ,stepE]at hr
 obtain⟨H1,m1,r1,n1,k1⟩:=row_newL H [.int .u8 0,.str [],.int .i64 0,.slice none 0 (.known 0)] (n:=4) rfl
 have F1:Fp rb H H1:=⟨om,fun c hc _=>k1 c om⟩
 have b0:=bld0
 simp only[c210,sA,sB,seval,m1]
 refine (renter_spec (hsA.same (k1 rb om)) hd).mono ?_
 rintro _ H2 ⟨⟨b,rfl,⟨rfl,hlt,_,h3⟩ | ⟨rfl,d',h1,h2,hge,h3⟩⟩,F2,n2⟩
 rotate_left
 ·have hg:=hge ⟨w,rfl⟩
  rw[if_pos hg]at hr
  simp only[badR,sJ]at hr
  subst hr
  obtain⟨H3,m3,r3,n3,k3⟩:=row_storeN (r1.same (F2.old _ om om)) (n:=4) rfl (xs:=[.int .u8 0,.str [],.int .i64 0,.slice none 0 (.known 0)]) rfl rfl
  have l3:=row_loadN r3 (n:=4) rfl
  simp only[sA,sB,seval,b0,m3]
  refine fin_c1 _ _ _ _ (v:=.agg [.int .u8 0,.str [],.int .i64 0,.slice none 0 (.known 0)]) (by simp only[sA,sB,seval]; exact l3) ?_
  exact⟨_,d',_,rfl,ok4_z,h1,h2,h3.same (k3 rb om),⟨om,fun c hc hp=>by rw[k3 c om,F2.old c om hp,k1 c om]⟩,.inr ⟨_,rfl,rfl⟩⟩
 rw[if_neg om]at hr
 have q1:=r1.same (F2.old H.next om om)
 obtain⟨H3,m3,r3,n3,k3⟩:=row_newL H2 [.int .u8 0,.str [],.int .i64 0,.slice none 0 (.known 0)] (n:=4) rfl
 obtain⟨H4,m4,r4,n4,k4⟩:=row_storeN r3 (n:=4) rfl (xs:=[.int .u8 0,.str [],.int .i64 0,.slice none 0 (.known 0)]) rfl rfl
 have k42:∀c,c<H2.next→H4.get c=H2.get c:=fun c hc=>by rw[k4 c om,k3 c om]
 have F4:Fp rb H H4:=⟨om,fun c hc hp=>by rw[k42 c om,F2.old c om hp,F1.old c hc hp]⟩
 have s4:=h3.same (k42 rb om)
 have q4:=q1.same (k42 H.next om)
 have lS:oLoad false 1 H4 (cellR rb 10 2)=some (.str w.S):=row_load (show Row H4 rb (rObj s w 0 0 ((d+1:Nat))) from s4) rfl rfl
 have fin:∀(H5:AHeap) (xs:List AVal) (o5:Except Flt Wd) (d5:Nat),Ok4 xs→d+1≤d5→d5≤200→Sta rb s H5 o5 d5→Fp rb H4 H5→((∃e w',r=.ok (e,w')∧o5=.ok w'∧d5=d+1∧WOk s w'∧XE (In H4.next H5.next) H5 e xs)∨∃e,r=.error e∧o5=.error e) →
   ∃H6 d6,oStore 4 H5 (cellR H2.next 4 0) (.agg xs)=some H6∧oLoad false 1 H6 (cellR rb 10 9)=some (.int .i64 ((d6+1:Nat):Int))∧IntKind.i64.wrap (((d6+1:Nat):Int)-1)=(d6:Int)∧∃H7,oStore 1 H6 (cellR rb 10 9) (.int .i64 (d6:Int))=some H7∧oLoad true 4 H7 (cellR H2.next 4 0)=some (.agg xs)∧∃H8,oStore 4 H7 (cellR H.next 4 0) (.agg xs)=some H8∧oLoad true 4 H8 (cellR H.next 4 0)=some (.agg xs)∧∃d' o',d≤d'∧d'≤200∧Sta rb s H8 o' d'∧Fp rb H H8∧((∃e w',r=.ok (e,w')∧o'=.ok w'∧d'=d∧WOk s w'∧XE (In H.next H8.next) H8 e xs)∨∃e,r=.error e∧o'=.error e):=by
  intro H5 xs o5 d5 x4 y1 y2 s5 F5 hx
  have e5:=F5.next
  obtain⟨H6,m6,r6,n6,k6⟩:=row_storeN (r4.same (F5.old _ om om)) (n:=4) rfl x4.len x4.one
  obtain⟨d6,rfl⟩:∃d6,d5=d6+1:=⟨d5-1,om⟩
  obtain⟨z1,z2,H7,m7,s7,n7,k7⟩:=(s5.same (k6 rb om)).deep om
  obtain⟨H8,m8,r8,n8,k8⟩:=row_storeN (H:=H7) (q4.same (by rw[k7 _ om,k6 _ om,F5.old _ om om])) (n:=4) rfl x4.len x4.one
  refine⟨H6,d6,m6,z1,z2,H7,m7,row_loadN (r6.same (k7 _ om)) x4.len,H8,m8,row_loadN r8 x4.len,d6,o5,om,om,s7.same (k8 rb om),⟨om,fun c hc hp=>by rw[k8 c om,k7 c hp,k6 c om,F5.old c om hp,F4.old c hc hp]⟩,?_⟩
  refine hx.imp (fun ⟨e,w',a,b,c,g,h⟩=>⟨e,w',a,b,om,g,h.mono fun c hc=>?_⟩) fun q=>q
  have c1:=hc.1
  have c2:=hc.2
  exact⟨⟨om,om⟩,by rw[k8 c om,k7 c om,k6 c om]⟩
 have hsg:sgn w [[45],[33]]=(isB w [45]||isB w [33]):=sgn2 ok rfl rfl
 simp only[sA,sB,seval,b0,m3,m4]
 refine ACalls.mono (K:=kont _ _ _ _ (fun T' H'=>H4=H'∧T' 0=cellR rb 10 0∧T' 2=cellR H.next 4 0∧T' 3=cellR H2.next 4 0∧T' 15=.bool (sgn w [[45],[33]]))) ?_ (fun v H' h=>wRegs_mono (calls_mono _ _) _ ?_ h)
 ·refine (ris_spec s4 _).mono ?_
  rintro _ _ ⟨rfl,rfl⟩
  have i1:isO (.ok w) [45]=isB w [45]:=rfl
  have i2:isO (.ok w) [33]=isB w [33]:=rfl
  rw[i1]
  cases b1:isB w [45] with
  | true=>simp only[sA,sB,seval,hsg,b1]; exact⟨tt,tt,tt,tt,by rfl⟩
  | false=>
  simp only[sA,sB,seval]
  refine (ris_spec s4 _).mono ?_
  rintro _ _ ⟨rfl,rfl⟩
  rw[i2]
  cases b2:isB w [33] with
  | true=>simp only[sA,sB,seval,hsg,b1,b2]; exact⟨tt,tt,tt,tt,by rfl⟩
  | false=>simp only[sA,sB,seval,hsg,b1,b2]; exact⟨tt,tt,tt,tt,by rfl⟩
 rintro T _ ⟨rfl,t0,t2,t3,t15⟩
 cases hb:sgn w [[45],[33]] with
 | false=>
  rw[if_neg (by rw[hb]; simp)]at hr
  rw[hb]at t15
  simp only[sA,sB,seval,t0,t2,t3,t15]
  refine (ihp H4 w (d+1) r s4 ok om om hr).mono ?_
  rintro _ H5 ⟨xs,d5,o5,rfl,x4,y1,y2,s5,F5,hx⟩
  obtain⟨H6,d6,m6,z1,z2,H7,m7,l7,H8,m8,l8,d',o',w1,w2,s8,F8,hy⟩:=fin H5 xs o5 d5 x4 y1 y2 s5 F5 hx
  simp only[sA,sB,seval,t0,t2,t3,nil_cell,fldA,m6,z1,z2,m7,l7,m8]
  refine fin_c1 _ _ _ _ (v:=.agg xs) (by simp only[sA,sB,seval,t2]; exact l8) ?_
  exact⟨xs,d',o',rfl,x4,w1,w2,s8,F8,hy⟩
 | true=>
  rw[if_pos hb]at hr
  rw[hb]at t15
  have hgo:Go s (Except.ok w) (d+1) (d+1) r fun w=>onW (stepW s w) fun w1=>onR (pE s f (.rule 0) (d+1) w1) fun e w2=>fineR (.mk 3 w.S 0 [e]) w2:=.inl ⟨w,rfl,rfl,ok,hr⟩
  obtain⟨SG,hSG⟩:∃SG,SG=w.S:=⟨_,rfl⟩
  have hgo':Go s (Except.ok w) (d+1) (d+1) r fun w=>onW (stepW s w) fun w1=>onR (pE s f (.rule 0) (d+1) w1) fun e w2=>fineR (.mk 3 SG 0 [e]) w2:=by rw[hSG]; exact .inl ⟨w,rfl,rfl,ok,hr⟩
  rw[← hSG]at lS
  simp only[sA,sB,seval,t0,t2,t3,t15,nil_cell,fldA,lS]
  refine (rtake_spec s4 om (Go.en hgo')).mono ?_
  rintro _ H5 ⟨s5,F5⟩
  have g5:=Go.take hgo'
  have e5:=F5.next
  simp only[sA,sB,seval,t0,t2,t3]
  refine (callE dead ihu s5 rL om om g5).mono ?_
  rintro _ H6 ⟨ys,d6,o6,rfl,y4,y5,y6,s6,F6,hy⟩
  have e6:=F6.next
  have F56:=F5.trans F6
  have bs:=buildM (z:=[.int .u8 0,.str [],.int .i64 0,.slice none 0 (.known 0)]) (m:=4) H6 rfl y4.len
  have rP:Row (H6.push (.cells ys 0 false)) H6.next ys:=row_push _ _
  have s7:=s6.same (H':=H6.push (.cells ys 0 false)) (get_push_lt om)
  have F7:Fp rb H4 (H6.push (.cells ys 0 false)):=F56.trans (push_fp _)
  have x4:Ok4 [.int .u8 3,.str SG,.int .i64 0,oneM H6 4]:=⟨rfl,one4 _ _ _ rfl,aeqs4 _ _ _ (by simp[oneM,aeq])⟩
  obtain⟨H8,d8,m8,z1,z2,H9,m9,l9,Ha,ma,la,d',o',w1,w2,sa,Fa,hz⟩:=fin _ [.int .u8 3,.str SG,.int .i64 0,oneM H6 4] o6 d6 x4 y5 y6 s7 F7 (by
   rcases hy with⟨e2,gy,xy⟩ | ⟨e,rfl,rfl⟩
   case inr=>exact .inr ⟨e,rfl,rfl⟩
   rcases gy with⟨w7,rfl,rfl,ok7,hp7⟩ | ⟨e,rfl,rfl⟩
   case inr=>exact .inr ⟨e,rfl,rfl⟩
   simp only[fineR,sJ]at hp7
   subst hp7
   refine .inl ⟨.mk 3 SG 0 [e2],w7,rfl,rfl,rfl,ok7,oneM H6 4,ys,rfl,.row rP y4.len rfl ⟨om,by rw[push_next]; omega⟩,.sing (xy.mono fun c hc=>?_)⟩
   have c1:=hc.1
   have c2:=hc.2
   exact⟨⟨om,by rw[push_next]; omega⟩,get_push_lt c2⟩)
  simp only[sA,sB,seval,t0,t2,t3,bs,bldOp SG (oneM H6 4) rfl,nil_cell,fldA,m8,z1,z2,m9,l9,ma]
  refine fin_c1 _ _ _ _ (by simp only[sA,sB,seval,t2]; exact la) ?_
  exact⟨_,d',o',rfl,x4,w1,w2,sa,Fa,hz⟩
theorem rcond_spec{β:Type}{rb:Nat}{s:Bs}{f:Nat}(live:LiveE rb s 77 fun d w=>pE s f (.rule 5) d w){H:AHeap}{o:Except Flt Wd}{d' d:Nat}{r:Res β}{k:Ex→Wd→Option (Res β)}(hs:Sta rb s H o d')(h1:d≤d')(h2:d'≤200)(hrb:rb<H.next)(h:Go s o d' d r fun w=>onW (takeW s [40] w) fun w1=>onR (pE s f (.rule 5) d w1) fun e w2=>onW (takeW s [41] w2) fun w3=>k e w3) :
  ACalls Tryz.prog natT 78 [cellR rb 10 0] H fun u H'=>∃xs d2 o2,u=.agg xs∧Ok4 xs∧d≤d2∧d2≤200∧Sta rb s H' o2 d2∧Fp rb H H'∧((∃e,Go s o2 d2 d r (k e)∧XE (In H.next H'.next) H' e xs)∨∃e,r=.error e∧o2=.error e):=by
 refine acalls_ofN rfl za78 rfl ?_
 have dead:DeadE rb s 77:=dead_all rb s 5 om
 obtain⟨H1,m1,r1,n1,k1⟩:=row_newL H [.int .u8 0,.str [],.int .i64 0,.slice none 0 (.known 0)] (n:=4) rfl
 simp only[c78,sA,sB,seval,m1]
 refine (rmust_spec (hs.same (k1 rb om)) om h.en [40]).mono ?_
 rintro _ H2 ⟨s2,F2⟩
 have g2:=h.must rfl
 have e2:=F2.next
 simp only[sA,sB,seval]
 refine (callE dead live s2 h1 h2 om g2).mono ?_
 rintro _ H3 ⟨ys,d3,o3,rfl,y4,y5,y6,s3,F3,hy⟩
 have e3:=F3.next
 obtain⟨H4,m4,r4,n4,k4⟩:=row_newL H3 [.int .u8 0,.str [],.int .i64 0,.slice none 0 (.known 0)] (n:=4) rfl
 obtain⟨H5,m5,r5,n5,k5⟩:=row_storeN r4 (n:=4) rfl y4.len y4.one
 have k53:∀c,c<H3.next→H5.get c=H3.get c:=fun c hc=>by rw[k5 c om,k4 c om]
 have s5:=s3.same (k53 rb om)
 have hen:∀w,o3=.ok w→w.en≤1000000:=by
  rcases hy with⟨e,g,_⟩ | ⟨e,_,rfl⟩
  ·exact g.en
  ·intro w hw; simp at hw
 simp only[sA,sB,seval,m4,m5]
 refine (rmust_spec s5 om hen [41]).mono ?_
 rintro _ H6 ⟨s6,F6⟩
 have e6:=F6.next
 have l6:=row_loadN (r5.same (F6.old _ om om)) y4.len
 have k63:∀c,c<H3.next→c≠rb→H6.get c=H3.get c:=fun c h1 h2=>by rw[F6.old c om h2,k53 c h1]
 obtain⟨H7,m7,r7,n7,k7⟩:=row_storeN (H:=H6) (r1.same (by rw[k63 _ om om,F3.old _ om om,F2.old _ om om])) (n:=4) rfl y4.len y4.one
 simp only[sA,sB,seval,l6,m7]
 refine fin_c1 _ _ _ _ (v:=.agg ys) (by simp only[sA,sB,seval]; exact row_loadN r7 y4.len) ?_
 refine⟨ys,d3,_,rfl,y4,y5,y6,s6.same (k7 rb om),⟨om,fun c hc hp=>by rw[k7 c om,k63 c om hp,F3.old c om hp,F2.old c om hp,k1 c om]⟩,?_⟩
 rcases hy with⟨e,g,xy⟩ | ⟨e,rfl,rfl⟩
 ·refine .inl ⟨e,g.must rfl,xy.mono fun c hc=>?_⟩
  have c1:=hc.1
  have c2:=hc.2
  exact⟨⟨om,om⟩,by rw[k7 c om,k63 c c2 om]⟩
 ·exact .inr ⟨e,rfl,rfl⟩
open Go.Abs Go.Abs.S
def KH(s:Bs)(pe:NT→Nat→Wd→Option (Res Ex))(S:Bs)(d:Nat)(out:List Ex)(w:Wd):Option (Res Ex):=
 if out.isEmpty then (if sgn w [[41]] then onW (stepW s w) fun w3=>fineR (.mk 4 S 0 []) w3 else pe (.args S []) d w)
 else if sgn w [[44]] then onW (stepW s w) fun w2=>pe (.args S out) d w2 else onW (takeW s [41] w) fun w2=>fineR (.mk 4 S 0 out) w2
theorem KH_nil(s:Bs)(pe:NT→Nat→Wd→Option (Res Ex))(S:Bs)(d:Nat)(w:Wd):KH s pe S d [] w=if sgn w [[41]] then onW (stepW s w) fun w3=>fineR (.mk 4 S 0 []) w3 else pe (.args S []) d w:=if_pos rfl
theorem KH_cons{s:Bs}{pe:NT→Nat→Wd→Option (Res Ex)}{S:Bs}{d:Nat}{w:Wd}{out:List Ex}(h:out≠[]):KH s pe S d out w=if sgn w [[44]] then onW (stepW s w) fun w2=>pe (.args S out) d w2 else onW (takeW s [41] w) fun w2=>fineR (.mk 4 S 0 out) w2:=if_neg (by cases out <;> simp_all)
theorem sgn_not{w:Wd}{a b:Bs}(h:sgn w [a]=true)(hab:a≠b):sgn w [b]=false:=by
 have h1:=sgn_mem h
 simp only[List.mem_singleton]at h1
 unfold sgn
 rw[h1]
 cases Nat.beq w.k 4 <;> simp[hab]
theorem KH_end{s:Bs}{pe:NT→Nat→Wd→Option (Res Ex)}{S:Bs}{d:Nat}{w:Wd}{out:List Ex}(h:sgn w [[41]]=true):KH s pe S d out w=onW (takeW s [41] w) fun w2=>fineR (.mk 4 S 0 out) w2:=by
 by_cases ho:out=[]
 ·subst ho
  rw[KH_nil,if_pos h,takeW,if_pos h]
 ·rw[KH_cons ho,if_neg (by rw[sgn_not h (by simp)]; simp)]
theorem KH_more{s:Bs}{pe:NT→Nat→Wd→Option (Res Ex)}{S:Bs}{d:Nat}{w:Wd}{out:List Ex}(h:sgn w [[41]]=false)(ho:out≠[]):KH s pe S d out w=onW (takeW s [44] w) fun w2=>pe (.args S out) d w2:=by
 rw[KH_cons ho]
 unfold takeW
 by_cases hs:sgn w [[44]]=true
 ·rw[if_pos hs,if_pos hs]
 ·rw[if_neg hs,if_neg hs,if_neg (by rw[h]; simp)]; rfl
theorem KH_args(s:Bs)(m:Nat)(S:Bs)(d:Nat)(w:Wd)(out:List Ex):pE s (m+1) (.args S out) d w=onR (pE s m (.rule 5) d w) fun e w1=>KH s (pE s m) S d (out++[e]) w1:=by
 rw[pE_succ]
 simp only[stepE]
 congr 1
 funext e w1
 rw[KH_cons (by simp)]
def GA(n:Nat)(H:AHeap)(v:AVal)(k:Nat):Prop:=∃C,AppN 4 0 H v C k∧Blk v (In n H.next)
theorem GE.ga{n:Nat}{H:AHeap}{v:AVal}{l:List Ex}(h:GE n H v l):GA n H v l.length:=by
 obtain⟨C,h1,h2,_⟩:=h; exact⟨C,h1,h2⟩
theorem GA.keep{n:Nat}{H H':AHeap}{v:AVal}{k:Nat}(h:GA n H v k)(hn:H.next≤H'.next)(e:∀c,In n H.next c→H'.get c=H.get c):GA n H' v k:=by
 obtain⟨C,h1,h2⟩:=h
 exact⟨C,h1.same hn (h2.mono fun b hb=>e b hb),h2.mono fun b hb=>⟨hb.1,Nat.lt_of_lt_of_le hb.2 hn⟩⟩
theorem GA.len{n:Nat}{H:AHeap}{v:AVal}{k:Nat}(h:GA n H v k):aLenK false v=some (.int .i64 (k:Int)):=by
 obtain⟨C,h1,_⟩:=h; exact h1.len
theorem GA.one{n:Nat}{H:AHeap}{v:AVal}{k:Nat}(h:GA n H v k):v.one=true:=by
 obtain⟨C,h1,_⟩:=h; exact h1.one
theorem GA.aeq{n:Nat}{H:AHeap}{v:AVal}{k:Nat}(h:GA n H v k):aeq v v=true:=by
 obtain⟨C,h1,_⟩:=h
 rcases h1 with⟨rfl,_⟩ | ⟨b,low,rfl,_⟩
 ·exact aeq_nilS
 ·exact aeq_open _ _ _
theorem GA.push{n:Nat}{H:AHeap}{v:AVal}{k:Nat}(h:GA n H v k){xs:List AVal}(hx:Ok4 xs)(hn:n≤H.next)(hk:k≤1000000){bytes:Nat}(hb1:0<bytes)(hb2:bytes≤1000) :
  ∃v' H',aAppend 4 bytes (H.push (.cells xs 0 false)) v (oneM H 4)=some (v',H')∧GA n H' v' (k+1)∧H.next≤H'.next∧∀c,c<H.next→Blk v (c≠·)→H'.get c=H.get c:=by
 obtain⟨C,h1,h2⟩:=h
 have hb:2*(k+1)*bytes≤281474976710656:=by
  have:2*(k+1)*bytes≤2*(1000000+1)*1000:=Nat.mul_le_mul om hb2
  omega
 obtain⟨v',H',a1,a2,a3,a4,a5⟩:=h1.pushB hx.len hx.one om hb hb1
 refine⟨v',H',a1,⟨C++xs,a2,fun a j r e=>?_⟩,a3,a5⟩
 refine⟨?_,a2.blk' a j r e⟩
 rcases (a4 _ h2) a j r e with hb | hb
 ·exact hb.1
 ·omega
theorem live_primary{rb:Nat}{s:Bs}{f:Nat}(hf:f≤1000000)(ih:∀f',f'≤f→LiveE rb s 77 fun d w=>pE s f' (.rule 5) d w):LiveE rb s 211 fun d w=>pE s (f+1) .prim d w:=by
 intro H w d r hsA ok hd hrb hr
 have dead:DeadE rb s 77:=dead_all rb s 5 om
 refine acalls_ofN rfl za211 rfl ?_
 simp only[pE_succ,stepE]at hr
 obtain⟨H1,m1,r1,n1,k1⟩:=row_newL H [.int .u8 0,.str [],.int .i64 0,.slice none 0 (.known 0)] (n:=4) rfl
 obtain⟨H2,m2,r2,n2,k2⟩:=row_newL H1 [.int .u8 0,.str [],.int .i64 0,.int .i64 0,.int .i64 0,.int .i64 0] (n:=6) rfl
 obtain⟨H3,m3,r3,n3,k3⟩:=row_storeN r2 (n:=6) rfl (xs:=wdL w.k w.S w.n w.line w.at_ w.en) rfl rfl
 have lw:oLoad true 6 H1 (cellR rb 10 1)=some (.agg (wdL w.k w.S w.n w.line w.at_ w.en)):=row_loadK (show Row H1 rb (rObj s w 0 0 d) from hsA.same (k1 rb om)) (n:=10) rfl (i:=1) (k:=6) om
 have F3:Fp rb H H3:=⟨om,fun c hc _=>by rw[k3 c om,k2 c om,k1 c om]⟩
 have s3:=hsA.same (H':=H3) (by rw[k3 rb om,k2 rb om,k1 rb om])
 have q1:Row H3 H.next _:=r1.same (by rw[k3 _ om,k2 _ om])
 have f0:∀{K:AHeap},Fp rb H3 K→oLoad false 1 K (cellR H1.next 6 0)=some (.int .u8 (w.k:Int)):=fun q=>row_load (r3.same (q.old _ om om)) rfl rfl
 have f1:∀{K:AHeap},Fp rb H3 K→oLoad false 1 K (cellR H1.next 6 1)=some (.str w.S):=fun q=>row_load (r3.same (q.old _ om om)) rfl rfl
 have f2:∀{K:AHeap},Fp rb H3 K→oLoad false 1 K (cellR H1.next 6 2)=some (.int .i64 (w.n:Int)):=fun q=>row_load (r3.same (q.old _ om om)) rfl rfl
 have b0:=bld0
 have f03:=f0 (Fp.refl rb H3)
 have fin:∀{K:AHeap},Fp rb H3 K→∀{xs:List AVal},Ok4 xs→∃K',oStore 4 K (cellR H.next 4 0) (.agg xs)=some K'∧oLoad true 4 K' (cellR H.next 4 0)=some (.agg xs)∧K'.next=K.next∧(∀c,c≠H.next→K'.get c=K.get c)∧Fp rb H K':=by
  intro K q xs h
  obtain⟨K',a1,a2,a3,a4⟩:=row_storeN (q1.same (q.old _ om om)) (n:=4) rfl h.len h.one
  exact⟨K',a1,row_loadN a2 h.len,a3,a4,by have:=q.next; omega,fun c hc hp=>by rw[a4 c om,q.old c om hp,F3.old c hc hp]⟩
 have hsA':∀(k:Wd→Option (Res Ex)),k w=some r→Go s (Except.ok w) d d r k:=fun k hk=>.inl ⟨w,rfl,rfl,ok,hk⟩
 simp only[c211,sA,sB,seval,m1,nil_cell,fldA,fld0,lw,m2,m3,f03]
 by_cases c1:w.k=1
 ·have c1':(w.k:Int)=1:=om
  rw[if_pos c1]at hr
  obtain⟨N,hN⟩:∃N,N=w.n:=⟨_,rfl⟩
  have g0:Go s (Except.ok w) d d r fun w=>onW (stepW s w) fun w1=>fineR (.mk 1 [] (N:Int) []) w1:=.inl ⟨w,rfl,rfl,ok,by rw[hN]; exact hr⟩
  rw[← hN]at f2
  simp only[sA,sB,seval,c1']
  refine (rtake_spec s3 om (Go.en g0)).mono ?_
  rintro _ H4 ⟨s4,F4⟩
  have g4:=Go.take g0
  have f24:=f2 F4
  have x4:Ok4 [.int .u8 1,.str [],.int .i64 (N:Int),.slice none 0 (.known 0)]:=⟨rfl,rfl,aeqs4 _ _ _ rfl⟩
  obtain⟨H5,m5,l5,n5,k5,F5⟩:=fin F4 x4
  simp only[sA,sB,seval,fldA,f24,bldNum (.int .i64 (N:Int)) rfl,m5]
  refine fin_c1 _ _ _ _ (by simp only[sA,sB,seval]; exact l5) ?_
  refine⟨_,d,_,rfl,x4,Nat.le_refl _,hd,s4.same (k5 rb om),F5,?_⟩
  rcases g4 with⟨w4,e4,_,ok4,hp⟩ | ⟨e,e4,rfl⟩
  ·simp only[fineR,sJ]at hp
   subst hp
   exact .inl ⟨_,w4,rfl,e4,rfl,ok4,xe_leaf _ _ 1 [] (N:Int)⟩
  ·exact .inr ⟨e,rfl,e4⟩
 have c1':¬(w.k:Int)=1:=om
 rw[if_neg c1]at hr
 by_cases c2:w.k=2
 ·have c2':(w.k:Int)=2:=om
  rw[if_pos c2]at hr
  obtain⟨SG,hSG⟩:∃SG,SG=w.S:=⟨_,rfl⟩
  have g0:Go s (Except.ok w) d d r fun w=>onW (stepW s w) fun w1=>if sgn w1 [[40]] then onW (stepW s w1) fun w2=>KH s (pE s f) SG d [] w2 else fineR (.mk 2 SG 0 []) w1:=.inl ⟨w,rfl,rfl,ok,by simp only[KH_nil]; rw[hSG]; exact hr⟩
  rw[← hSG]at f1
  simp only[sA,sB,seval,c1',c2',fld0,f03]
  refine (rtake_spec s3 om (Go.en g0)).mono ?_
  rintro _ H4 ⟨s4,F4⟩
  have g4:=Go.take g0
  have e4:=F4.next
  have f14:=f1 F4
  generalize takeO s (Except.ok w)=o4 at *
  simp only[sA,sB,seval]
  refine (ris_spec s4 _).mono ?_
  rintro _ _ ⟨rfl,rfl⟩
  cases hi:isO o4 [40] with
  | false=>
   have x4:Ok4 [.int .u8 2,.str SG,.int .i64 0,.slice none 0 (.known 0)]:=⟨rfl,rfl,aeqs4 _ _ _ rfl⟩
   obtain⟨H5,m5,l5,n5,k5,F5⟩:=fin F4 x4
   simp only[sA,sB,seval,fldA,f14,bldName,m5]
   refine fin_c1 _ _ _ _ (by simp only[sA,sB,seval]; exact l5) ?_
   refine⟨_,d,o4,rfl,x4,Nat.le_refl _,hd,s4.same (k5 rb om),F5,?_⟩
   rcases g4 with⟨w4,rfl,_,ok4,hp⟩ | ⟨e,rfl,rfl⟩
   ·dsimp only at hp
    rw[if_neg (by rw[← isB_sgn ok4 rfl]; exact fun q=>by rw[show isO (.ok w4) [40]=isB w4 [40] from rfl,q]at hi; simp at hi)]at hp
    simp only[fineR,sJ]at hp
    subst hp
    exact .inl ⟨_,w4,rfl,rfl,rfl,ok4,xe_leaf _ _ 2 SG 0⟩
   ·exact .inr ⟨e,rfl,rfl⟩
  | true=>
  rcases g4 with⟨w4,rfl,_,ok4,hp⟩ | ⟨e,rfl,_⟩
  rotate_left
  ·exact absurd hi (by simp[isO])
  have hs40:sgn w4 [[40]]=true:=by rw[← isB_sgn ok4 rfl]; exact hi
  dsimp only at hp
  rw[if_pos hs40]at hp
  have g4:Go s (Except.ok w4) d d r fun w=>onW (stepW s w) fun w2=>KH s (pE s f) SG d [] w2:=.inl ⟨w4,rfl,rfl,ok4,hp⟩
  simp only[sA,sB,seval]
  refine (rtake_spec s4 om (Go.en g4)).mono ?_
  rintro _ H5 ⟨s5,F5⟩
  have g5:=Go.take g4
  have e5:=F5.next
  have F35:=F4.trans F5
  have f15:=f1 F35
  generalize takeO s (Except.ok w4)=o5 at *
  have bc:aBuild [.int .u8 0,.str [],.int .i64 0,.slice none 0 (.known 0)] [(0,1,.int .u8 4),(1,1,.str SG)]=some (.agg [.int .u8 4,.str SG,.int .i64 0,.slice none 0 (.known 0)]):=rfl
  obtain⟨H6,m6,r6,n6,k6⟩:=row_newL H5 [.int .u8 0,.str [],.int .i64 0,.slice none 0 (.known 0)] (n:=4) rfl
  obtain⟨H7,m7,r7,n7,k7⟩:=row_storeN r6 (n:=4) rfl (xs:=[.int .u8 4,.str SG,.int .i64 0,.slice none 0 (.known 0)]) rfl rfl
  obtain⟨b4,hb4⟩:∃b4,b4=H5.next:=⟨_,rfl⟩
  rw[← hb4]at m6 r6 k6 m7 r7 k7
  have F57:Fp rb H5 H7:=⟨om,fun c hc _=>by rw[k7 c om,k6 c om]⟩
  have s7:=s5.same (H':=H7) (by rw[k7 rb om,k6 rb om])
  have F37:=F35.trans F57
  simp only[sA,sB,seval,fldA,f15,bc,m6,m7]
  have tail:∀(T:Env) (K:AHeap) (v:AVal) (k:Nat) (o:Except Flt Wd) (d':Nat),T 0=cellR rb 10 0→T 2=cellR H.next 4 0→T 4=cellR b4 4 0→Row K b4 [.int .u8 4,.str SG,.int .i64 0,v]→GA (b4+1) K v k→Sta rb s K o d'→d≤d'→d'≤200→Fp rb H3 K→b4<K.next →
    ((∃out,GE (b4+1) K v out∧Go s o d' d r fun w=>onW (takeW s [41] w) fun w2=>fineR (.mk 4 SG 0 out) w2)∨∃e,r=.error e∧o=.error e) →
    ACalls Tryz.prog natT 76 [cellR rb 10 0,.str [41]] K fun _ K'=>∃K2,oLoad true 4 K' (cellR b4 4 0)=some (.agg [.int .u8 4,.str SG,.int .i64 0,v])∧oStore 4 K' (cellR H.next 4 0) (.agg [.int .u8 4,.str SG,.int .i64 0,v])=some K2∧oLoad true 4 K2 (cellR H.next 4 0)=some (.agg [.int .u8 4,.str SG,.int .i64 0,v])∧∃xs d' o',AVal.agg [.int .u8 4,.str SG,.int .i64 0,v]=.agg xs∧Ok4 xs∧d≤d'∧d'≤200∧Sta rb s K2 o' d'∧Fp rb H K2∧((∃e w',r=.ok (e,w')∧o'=.ok w'∧d'=d∧WOk s w'∧XE (In H.next K2.next) K2 e xs)∨∃e,r=.error e∧o'=.error e):=by
   intro T K v k o d' t0 t2 t4 rK gK sK y1 y2 FK ltK hK
   have hen:∀w,o=.ok w→w.en≤1000000:=by
    rcases hK with⟨e,_,g⟩ | ⟨e,_,rfl⟩
    ·exact g.en
    ·intro w hw; simp at hw
   refine (rmust_spec sK om hen [41]).mono ?_
   rintro _ K1 ⟨sK1,FK1⟩
   have eK1:=FK1.next
   have x4:Ok4 [.int .u8 4,.str SG,.int .i64 0,v]:=⟨rfl,one4 _ _ _ gK.one,aeqs4 _ _ _ gK.aeq⟩
   obtain⟨K2,mK,lK,nK,kK,FK2⟩:=fin (FK.trans FK1) x4
   refine⟨K2,row_loadN (rK.same (FK1.old _ ltK om)) (n:=4) rfl,mK,lK,_,d',_,rfl,x4,y1,y2,sK1.same (kK rb om),FK2,?_⟩
   rcases hK with⟨out,gE,g⟩ | ⟨e,rfl,rfl⟩
   ·rcases g.must rfl with⟨w8,e8,h8,ok8,hp8⟩ | ⟨e,e8,rfl⟩
    ·simp only[fineR,sJ]at hp8
     subst hp8
     obtain⟨C,z1,z2⟩:=gE.sl
     have km:∀c,In (b4+1) K.next c→In H.next K2.next c∧K2.get c=K.get c:=fun c hc=>by
      have c1:=hc.1
      have c2:=hc.2
      exact⟨⟨om,om⟩,by rw[kK c om,FK1.old c c2 om]⟩
     exact .inl ⟨_,w8,rfl,e8,h8,ok8,v,C,rfl,z1.mono km,z2.mono km⟩
    ·exact .inr ⟨e,rfl,e8⟩
   ·exact .inr ⟨e,rfl,rfl⟩
  have start:∃μ,((∃m out w8,μ=2*m+1∧0=out.length∧out.length+m≤f∧GE (b4+1) H7 nilS out∧o5=.ok w8∧WOk s w8∧d=d∧KH s (pE s m) SG d out w8=some r)∨∃e,μ=0∧r=.error e∧o5=.error e):=by
   rcases g5 with⟨w8,e8,h8,ok8,hp8⟩ | ⟨f',e8,h8⟩
   ·exact⟨_,.inl ⟨f,[],w8,rfl,rfl,by simp,GE.nil _ _,e8,ok8,rfl,hp8⟩⟩
   ·exact⟨_,.inr ⟨f',rfl,h8,e8⟩⟩
  obtain⟨μ0,start⟩:=start
  refine aw_loop (fun μ (T:Env) K=>∃o d' v k,T 0=cellR rb 10 0∧T 2=cellR H.next 4 0∧T 4=cellR b4 4 0∧Row K b4 [.int .u8 4,.str SG,.int .i64 0,v]∧GA (b4+1) K v k∧Sta rb s K o d'∧d≤d'∧d'≤200∧Fp rb H3 K∧b4<K.next∧((∃m out w8,μ=2*m+1∧k=out.length∧out.length+m≤f∧GE (b4+1) K v out∧o=.ok w8∧WOk s w8∧d'=d∧KH s (pE s m) SG d out w8=some r)∨∃e,μ=0∧r=.error e∧o=.error e)) μ0
   ⟨o5,d,nilS,0,by simp only[sA,sB,seval],by simp only[sA,sB,seval],by simp only[sA,sB,seval],r7,(GE.nil _ _).ga,s7,Nat.le_refl _,hd,F37,om,start⟩ ?_
  rintro μ T K ⟨o,d',v,k,t0,t2,t4,rK,gK,sK,y1,y2,FK,ltK,hK⟩
  obtain⟨e,l,hr0,he⟩:=sK.cells
  have l7:oLoad false 1 K (cellR rb 10 7)=some (.int .i64 e):=row_load hr0 rfl rfl
  have lv:oLoad false 1 K (cellR b4 4 3)=some v:=row_load rK rfl rfl
  have ln:=gK.len
  have dead':∀f',o=.error f'→r=.error f'→e≠0:=fun f' ho _ q=>by
   obtain⟨w,hw⟩:=he.1 q
   rw[ho]at hw; simp at hw
  have hcase:(∃f',r=.error f'∧o=.error f')∨∃m out w8,μ=2*m+1∧o=.ok w8∧e=0∧WOk s w8∧d'=d∧k=out.length∧out.length+m≤f∧GE (b4+1) K v out∧KH s (pE s m) SG d out w8=some r:=by
   rcases hK with⟨m,out,w8,h0,hk,hk2,gE,e8,ok8,h8,hp8⟩ | ⟨f',_,h1,h2⟩
   ·exact .inr ⟨m,out,w8,h0,e8,he.2 ⟨w8,e8⟩,ok8,h8,hk,hk2,gE,hp8⟩
   ·exact .inl ⟨f',h1,h2⟩
  rcases hcase with⟨f',hrf,rfl⟩ | ⟨m,out,w8,rfl,rfl,rfl,ok8,hd8,rfl,hk2,gE,hp8⟩
  ·have hne:=dead' f' rfl hrf
   simp only[sA,sB,seval,t0,t2,t4,nil_cell,fldA,fld0,l7,hne]
   refine (tail T K v k _ d' t0 t2 t4 rK gK sK y1 y2 FK ltK (.inr ⟨f',hrf,rfl⟩)).mono ?_
   rintro _ K' ⟨K2,p1,p2,p3,p4⟩
   simp only[sA,sB,seval,t0,t2,t4,p1,p2]
   exact fin_c1 _ _ _ _ (by simp only[sA,sB,seval,t2]; exact p3) p4
  simp only[sA,sB,seval,t0,t2,t4,nil_cell,fldA,fld0,l7]
  refine (ris_spec sK _).mono ?_
  rintro _ _ ⟨rfl,rfl⟩
  have hi8:isO (.ok w8) [41]=sgn w8 [[41]]:=isB_sgn ok8 rfl
  rw[hi8]
  cases hs41:sgn w8 [[41]] with
  | true=>
   rw[KH_end hs41]at hp8
   simp only[sA,sB,seval,t0,t2,t4]
   refine (tail T K v out.length _ d' t0 t2 t4 rK gK sK y1 y2 FK ltK (.inl ⟨out,gE,.inl ⟨w8,rfl,hd8,ok8,hp8⟩⟩)).mono ?_
   rintro _ K' ⟨K2,p1,p2,p3,p4⟩
   simp only[sA,sB,seval,t0,t2,t4,p1,p2]
   exact fin_c1 _ _ _ _ (by simp only[sA,sB,seval,t2]; exact p3) p4
  | false=>
  have rest:∀(T:Env) (K1:AHeap) (o9:Except Flt Wd),T 0=cellR rb 10 0→T 2=cellR H.next 4 0→T 4=cellR b4 4 0→Sta rb s K1 o9 d'→Fp rb K K1→(Go s o9 d' d r fun w=>pE s m (.args SG out) d w) →
    ACalls Tryz.prog natT 77 [cellR rb 10 0] K1 fun u K2=>∃ys d9 o10 v' K3 K4,u=.agg ys∧Ok4 ys∧oLoad false 1 K1 (cellR b4 4 3)=some v∧oLoad false 1 K2 (cellR b4 4 3)=some v∧oLoad false 1 (K2.push (.cells ys 0 false)) (cellR b4 4 3)=some v∧aAppend 4 56 (K2.push (.cells ys 0 false)) v (oneM K2 4)=some (v',K3)∧oStore 1 K3 (cellR b4 4 3) v'=some K4∧Row K4 b4 [.int .u8 4,.str SG,.int .i64 0,v']∧GA (b4+1) K4 v' (out.length+1)∧Sta rb s K4 o10 d9∧d≤d9∧d9≤200∧Fp rb H3 K4∧b4<K4.next∧∃μ',μ'<2*m+1∧((∃m' out' w8,μ'=2*m'+1∧out.length+1=out'.length∧out'.length+m'≤f∧GE (b4+1) K4 v' out'∧o10=.ok w8∧WOk s w8∧d9=d∧KH s (pE s m') SG d out' w8=some r)∨∃e,μ'=0∧r=.error e∧o10=.error e):=by
   intro T K1 o9 t0 t2 t4 s9 FK1 g9
   have eK1:=FK1.next
   have g9':(Go s o9 d' d r fun w=>onR (pE s (m-1) (.rule 5) d w) fun e w1=>KH s (pE s (m-1)) SG d (out++[e]) w1)∧((∃e,o9=.error e∧r=.error e)∨1≤m):=by
    rcases g9 with⟨w9,e9,h9,ok9,hp9⟩ | ⟨e,e9,h9⟩
    ·cases m with
     | zero=>simp[pE]at hp9
     | succ m=>exact⟨.inl ⟨w9,e9,h9,ok9,(KH_args s m SG d w9 out).symm.trans hp9⟩,.inr om⟩
    ·exact⟨.inr ⟨e,e9,h9⟩,.inl ⟨e,e9,h9⟩⟩
   obtain⟨g9',hm1⟩:=g9'
   refine (callE2 dead (ih (m-1) om) s9 y1 y2 om g9').mono ?_
   rintro _ K2 ⟨ys,d9,o10,rfl,y4,y5,y6,s10,FK2,hy,hdd⟩
   have eK2:=FK2.next
   have FK12:=FK1.trans FK2
   have rK1:=rK.same (FK1.old b4 ltK om)
   have rK2:=rK.same (FK12.old b4 ltK om)
   have rKP:=rK2.same (H':=K2.push (.cells ys 0 false)) (get_push_lt om)
   have gE2:=gE.keep FK12.next fun c hc=>FK12.old c hc.2 (by have:=hc.1; omega)
   have hbv:Blk v (In (b4+1) K.next):=by
    obtain⟨C,_,q,_⟩:=gE
    exact q
   have bb:Blk v (b4≠·):=hbv.mono fun c hc=>by have:=hc.1; omega
   have brb:Blk v (rb≠·):=hbv.mono fun c hc=>by have:=hc.1; omega
   have o4:∀{K3:AHeap},(∀c,c<K2.next→Blk v (c≠·)→K3.get c=K2.get c)→∀c,c<H3.next→c≠rb→K3.get c=H3.get c:=fun q c h1 h2=>by
    have:=FK.next
    rw[q c om (hbv.mono fun x hx=>by have:=hx.1; omega),FK12.old c om h2,FK.old c h1 h2]
   by_cases hal:∃e w10,Go s o10 d9 d r (KH s (pE s (m-1)) SG d (out++[e]))∧XE (In K1.next K2.next) K2 e ys∧o10=.ok w10
   ·obtain⟨e2,w10,gy,xy,rfl⟩:=hal
    have hm:1≤m:=by
     rcases hm1 with⟨e,he,_⟩ | h
     ·exact absurd (hdd e he) (by simp)
     ·exact h
    rcases gy with⟨w10',e10,h10,ok10,hp10⟩ | ⟨e,e10,_⟩
    rotate_left
    ·simp at e10
    simp only[Except.ok.injEq]at e10
    subst e10
    obtain⟨v',K3,a3,G3,n3,k3⟩:=gE2.push xy om om (hbv.mono fun c hc=>by have:=hc.2; omega) om (bytes:=56) om om
    obtain⟨K4,m4,r4,n4,k4⟩:=row_st (H:=K3) (rK2.same (k3 b4 om bb)) (n:=4) rfl (i:=3) om (x:=v') G3.ga.one (l':=[.int .u8 4,.str SG,.int .i64 0,v']) rfl
    have G4:=G3.keep (H':=K4) om fun c hc=>k4 c (by have:=hc.1; omega)
    have G4a:=G4.ga
    rw[lA,List.length_cons,List.length_nil]at G4a
    refine⟨ys,d9,_,v',K3,K4,rfl,y4,row_load rK1 rfl rfl,row_load rK2 rfl rfl,row_load rKP rfl rfl,a3,m4,r4,G4a,s10.same (by rw[k4 rb om,k3 rb om brb]),y5,y6,⟨by have:=FK.next; omega,fun c h1 h2=>by rw[k4 c om,o4 k3 c h1 h2]⟩,om,2*(m-1)+1,om,.inl ⟨m-1,out++[e2],w10,rfl,by simp,by simp; omega,G4,rfl,ok10,h10,hp10⟩⟩
   ·obtain⟨e,hre,rfl⟩:∃e,r=.error e∧o10=.error e:=by
     rcases hy with⟨e2,gy,xy⟩ | h
     ·rcases gy with⟨w10,e10,h10,ok10,hp10⟩ | ⟨e,e10,h10⟩
      ·exact absurd ⟨e2,w10,.inl ⟨w10,e10,h10,ok10,hp10⟩,xy,e10⟩ hal
      ·exact⟨e,h10,e10⟩
     ·exact h
    have gA2:=gE2.ga
    obtain⟨v',K3,a3,G3,n3,k3⟩:=gA2.push y4 om om (bytes:=56) om om
    obtain⟨K4,m4,r4,n4,k4⟩:=row_st (H:=K3) (rK2.same (k3 b4 om bb)) (n:=4) rfl (i:=3) om (x:=v') G3.one (l':=[.int .u8 4,.str SG,.int .i64 0,v']) rfl
    have G4:=G3.keep (H':=K4) om fun c hc=>k4 c (by have:=hc.1; omega)
    exact⟨ys,d9,_,v',K3,K4,rfl,y4,row_load rK1 rfl rfl,row_load rK2 rfl rfl,row_load rKP rfl rfl,a3,m4,r4,G4,s10.same (by rw[k4 rb om,k3 rb om brb]),y5,y6,⟨by have:=FK.next; omega,fun c h1 h2=>by rw[k4 c om,o4 k3 c h1 h2]⟩,om,0,om,.inr ⟨e,rfl,hre,rfl⟩⟩
  have hv:=gK.aeq
  by_cases ho:out=[]
  ·have ho':¬(0:Int)<(out.length:Int):=by rw[ho]; simp
   simp only[sA,sB,seval,t0,t2,t4,fldA,lv,ln,ho']
   refine aw_drawC rfl ?_
   simp only[sR,sA,sB,seval,t0,t2,t4,fldA,lv]
   refine (rest T K _ t0 t2 t4 sK (Fp.refl _ _) (.inl ⟨w8,rfl,hd8,ok8,by rw[ho,KH_nil,if_neg (by rw[hs41]; simp)]at hp8; rw[ho]; exact hp8⟩)).mono ?_
   rintro _ K2 ⟨ys,d9,o10,v',K3,K4,rfl,y4,z1,z2,z3,a3,m4,r4,G4,s4,w1,w2,F4,lt4,μ',hμ,hst⟩
   have bm:=buildM (z:=[.int .u8 0,.str [],.int .i64 0,.slice none 0 (.known 0)]) (m:=4) K2 rfl y4.len
   simp only[sR,sA,sB,seval,t0,t2,t4,fldA,bm,a3,m4]
   simp only[ck_nil',ck_cons,ckP_load,ckP_nil,ck_end,and_true,true_and,List.map_cons,List.map_nil,sA,sB,seval,t0,t2,t4,fldA]
   exact⟨⟨⟨_,rfl,fun _=>⟨_,z2,hv⟩⟩,⟨_,rfl,fun _=>⟨_,z3,hv⟩⟩⟩,μ',hμ,o10,d9,v',out.length+1,r4,G4,s4,w1,w2,F4,lt4,hst⟩
  ·have ho':(0:Int)<(out.length:Int):=by have:=List.length_pos_iff.2 ho; omega
   rw[KH_more hs41 ho]at hp8
   have g8:Go s (Except.ok w8) d' d r fun w=>onW (takeW s [44] w) fun w2=>pE s m (.args SG out) d w2:=.inl ⟨w8,rfl,hd8,ok8,hp8⟩
   simp only[sA,sB,seval,t0,t2,t4,fldA,lv,ln,ho']
   refine (rmust_spec sK om g8.en [44]).mono ?_
   rintro _ K1 ⟨s9,FK1⟩
   have g9:=g8.must rfl
   have lv1:oLoad false 1 K1 (cellR b4 4 3)=some v:=row_load (rK.same (FK1.old b4 ltK om)) rfl rfl
   simp only[sA,sB,seval,t0,t2,t4]
   refine aw_drawC rfl ?_
   simp only[sR,sA,sB,seval,t0,t2,t4,fldA,lv1]
   refine (rest T K1 _ t0 t2 t4 s9 FK1 g9).mono ?_
   rintro _ K2 ⟨ys,d9,o10,v',K3,K4,rfl,y4,z1,z2,z3,a3,m4,r4,G4,s4,w1,w2,F4,lt4,μ',hμ,hst⟩
   have bm:=buildM (z:=[.int .u8 0,.str [],.int .i64 0,.slice none 0 (.known 0)]) (m:=4) K2 rfl y4.len
   simp only[sR,sA,sB,seval,t0,t2,t4,fldA,bm,a3,m4]
   simp only[ck_nil',ck_cons,ckP_load,ckP_nil,ck_end,and_true,true_and,List.map_cons,List.map_nil,sA,sB,seval,t0,t2,t4,fldA]
   exact⟨⟨⟨_,rfl,fun _=>⟨_,z2,hv⟩⟩,⟨_,rfl,fun _=>⟨_,z3,hv⟩⟩⟩,μ',hμ,o10,d9,v',out.length+1,r4,G4,s4,w1,w2,F4,lt4,hst⟩
 have c2':¬(w.k:Int)=2:=om
 rw[if_neg c2]at hr
 simp only[sA,sB,seval,c1',c2',fld0,f03]
 refine (ris_spec s3 _).mono ?_
 rintro _ _ ⟨rfl,rfl⟩
 have hi8:isO (.ok w) [40]=sgn w [[40]]:=isB_sgn ok rfl
 rw[hi8]
 cases hs40:sgn w [[40]] with
 | false=>
  rw[if_neg (by rw[hs40]; simp)]at hr
  simp only[badR,sJ]at hr
  subst hr
  simp only[sA,sB,seval]
  refine (rfail_spec s3 (c:=101) om).mono ?_
  rintro _ H4 ⟨s4,F4,n4⟩
  obtain⟨H5,m5,l5,n5,k5,F5⟩:=fin F4 ok4_z
  simp only[sA,sB,seval,b0,m5]
  refine fin_c1 _ _ _ _ (by simp only[sA,sB,seval]; exact l5) ?_
  exact⟨_,d,_,rfl,ok4_z,Nat.le_refl _,hd,s4.same (k5 rb om),F5,.inr ⟨_,rfl,rfl⟩⟩
 | true=>
  rw[if_pos hs40]at hr
  have g0:Go s (Except.ok w) d d r fun w=>onW (takeW s [40] w) fun w1=>onR (pE s f (.rule 5) d w1) fun e w2=>onW (takeW s [41] w2) fun w3=>fineR e w3:=.inl ⟨w,rfl,rfl,ok,by
   have e:takeW s [40] w=stepW s w:=by unfold takeW; rw[if_pos hs40]
   dsimp only
   rw[e]; exact hr⟩
  simp only[sA,sB,seval]
  refine (rcond_spec (ih f rL) s3 rL hd om g0).mono ?_
  rintro _ H4 ⟨ys,d4,o4,rfl,y4,y5,y6,s4,F4,hy⟩
  have e4:=F4.next
  obtain⟨H5,m5,l5,n5,k5,F5⟩:=fin F4 y4
  simp only[sA,sB,seval,m5]
  refine fin_c1 _ _ _ _ (by simp only[sA,sB,seval]; exact l5) ?_
  refine⟨_,d4,_,rfl,y4,y5,y6,s4.same (k5 rb om),F5,?_⟩
  rcases hy with⟨e,g,xy⟩ | ⟨e,rfl,rfl⟩
  case inr=>exact .inr ⟨e,rfl,rfl⟩
  rcases g with⟨w8,rfl,rfl,ok8,hp8⟩ | ⟨e,rfl,rfl⟩
  case inr=>exact .inr ⟨e,rfl,rfl⟩
  simp only[fineR,sJ]at hp8
  subst hp8
  refine .inl ⟨e,w8,rfl,rfl,rfl,ok8,xy.mono fun c hc=>?_⟩
  have c1:=hc.1
  have c2:=hc.2
  exact⟨⟨om,om⟩,k5 c om⟩
structure AllL(rb:Nat)(s:Bs)(f:Nat):Prop where
 rule:∀k,k≤5→LiveE rb s (fnK k) fun d w=>pE s f (.rule k) d w
 prim:LiveE rb s 211 fun d w=>pE s f .prim d w
theorem allL_ok(rb:Nat)(s:Bs):∀(f:Nat),f≤1000000→∀f',f'≤f→AllL rb s f'
 | 0,_,f',h=>by
  obtain rfl:f'=0:=om
  exact⟨fun k _ H w d r _ _ _ _ hr=>by simp[pE]at hr,fun H w d r _ _ _ _ hr=>by simp[pE]at hr⟩
 | f+1,hf,f',h=>by
  have ih:=allL_ok rb s f om
  by_cases he:f'≤f
  ·exact ih f' he
  obtain rfl:f'=f+1:=om
  refine⟨fun k hk=>?_,live_primary om fun f' h=>(ih f' h).rule 5 om⟩
  match k,hk with
  | 0,_=>exact live_unary ((ih f rL).rule 0 om) (ih f rL).prim
  | 1,_=>exact live_mul fun f' h=>(ih f' h).rule 0 om
  | 2,_=>exact live_add fun f' h=>(ih f' h).rule 1 om
  | 3,_=>exact live_cmp fun f' h=>(ih f' h).rule 2 om
  | 4,_=>exact live_and fun f' h=>(ih f' h).rule 3 om
  | 5,_=>exact live_or fun f' h=>(ih f' h).rule 4 om
open Go.Abs Go.Abs.S
structure Ok9(xs:List AVal):Prop where
 len:xs.length=9
 one:xs.all AVal.one=true
 aeq:aeqs xs xs=true
theorem ok9_obj{k:Int}{S:Bs}{xs:List AVal}{vb ve:AVal}{line:Int}(h:Ok4 xs)(b1:vb.one=true)(b2:aeq vb vb=true)(e1:ve.one=true)(e2:aeq ve ve=true):Ok9 (sObj k S xs vb ve line):=by
 refine⟨by simp[sObj,h.len],?_,?_⟩
 ·simp only[sObj,List.all_cons,List.all_append,List.all_nil,h.one,b1,e1]; rfl
 ·simp only[sObj,aeqs,aeq_int,aeq_str,Bool.true_and]
  exact aeqs_app h.aeq (by simp[aeqs,b2,e2,aeq_int])
def LiveS(rb:Nat)(s:Bs)(f:Nat):Prop:=∀(H:AHeap) (w:Wd) (d:Nat) (r:Res (List St)),Sta rb s H (.ok w) d→WOk s w→d≤200→rb<H.next→pS s f .stmt d w=some r →
  ACalls Tryz.prog natT 34 [cellR rb 10 0] H fun u H'=>∃xs d' o',u=.agg xs∧Ok9 xs∧d≤d'∧d'≤200∧Sta rb s H' o' d'∧Fp rb H H'∧((∃st w',r=.ok ([st],w')∧o'=.ok w'∧d'=d∧WOk s w'∧XS (In H.next H'.next) H' st xs)∨∃e,r=.error e∧o'=.error e)
def GB(n:Nat)(H:AHeap)(v:AVal)(k:Nat):Prop:=∃C,AppN 9 0 H v C k∧Blk v (In n H.next)
theorem GS.ga{n:Nat}{H:AHeap}{v:AVal}{l:List St}(h:GS n H v l):GB n H v l.length:=by
 obtain⟨C,h1,h2,_⟩:=h; exact⟨C,h1,h2⟩
theorem GB.one{n:Nat}{H:AHeap}{v:AVal}{k:Nat}(h:GB n H v k):v.one=true:=by
 obtain⟨C,h1,_⟩:=h; exact h1.one
theorem GB.aeq{n:Nat}{H:AHeap}{v:AVal}{k:Nat}(h:GB n H v k):aeq v v=true:=by
 obtain⟨C,h1,_⟩:=h
 rcases h1 with⟨rfl,_⟩ | ⟨b,low,rfl,_⟩
 ·exact aeq_nilS
 ·exact aeq_open _ _ _
theorem GB.push{n:Nat}{H:AHeap}{v:AVal}{k:Nat}(h:GB n H v k){xs:List AVal}(hx:Ok9 xs)(hn:n≤H.next)(hk:k≤1000000){bytes:Nat}(hb1:0<bytes)(hb2:bytes≤1000) :
  ∃v' H',aAppend 9 bytes (H.push (.cells xs 0 false)) v (oneM H 9)=some (v',H')∧GB n H' v' (k+1)∧H.next≤H'.next∧∀c,c<H.next→Blk v (c≠·)→H'.get c=H.get c:=by
 obtain⟨C,h1,h2⟩:=h
 have hb:2*(k+1)*bytes≤281474976710656:=by
  have:2*(k+1)*bytes≤2*(1000000+1)*1000:=Nat.mul_le_mul om hb2
  omega
 obtain⟨v',H',a1,a2,a3,a4,a5⟩:=h1.pushB hx.len hx.one om hb hb1
 refine⟨v',H',a1,⟨C++xs,a2,fun a j r e=>?_⟩,a3,a5⟩
 refine⟨?_,a2.blk' a j r e⟩
 rcases (a4 _ h2) a j r e with hb | hb
 ·exact hb.1
 ·omega
theorem more_push{rb:Nat}{s:Bs}{n d d':Nat}{H K:AHeap}{v:AVal}{out:List St}{xs:List AVal}{β:Type}{r0:Res (List St)}{o':Except Flt Wd}{r:Res β}{k:List St→Wd→Option (Res β)}(hG:GS n H v out)(hn:n≤H.next)(hrb:rb<n)(hlen:out.length≤1000000)(F:Fp rb H K)(hx:Ok9 xs)
  (h:(∃st w',r0=.ok ([st],w')∧o'=.ok w'∧d'=d∧WOk s w'∧XS (In H.next K.next) K st xs)∨∃e,r0=.error e∧o'=.error e) (hr:onR (some r0) k=some r) :
  ∃v' K',aAppend 9 136 (K.push (.cells xs 0 false)) v (oneM K 9)=some (v',K')∧GB n K' v' (out.length+1)∧K.next≤K'.next∧(∀c,c<K.next→(In n H.next c→False)→K'.get c=K.get c)∧((∃st w',o'=.ok w'∧d'=d∧WOk s w'∧k [st] w'=some r∧GS n K' v' (out++[st]))∨∃e,r=.error e∧o'=.error e):=by
 have fn:=F.next
 have hbv:Blk v (In n H.next):=by
  obtain⟨C,_,q,_⟩:=hG
  exact q
 have GK:=hG.keep fn fun c hc=>F.old c hc.2 (by have:=hc.1; omega)
 have nb:∀c,(In n H.next c→False)→Blk v (c≠·):=fun c hc=>hbv.mono fun b hb e=>hc (e ▸ hb)
 rcases h with⟨st,w',rfl,rfl,h2,h3,h4⟩ | ⟨e,rfl,rfl⟩
 ·obtain⟨v',K',a1,a2,a3,a4⟩:=GK.push h4 hn om (hbv.mono fun c hc=>hc.2) om (bytes:=136) om om
  have ag:=a2.ga
  rw[lA,List.length_cons,List.length_nil]at ag
  exact⟨v',K',a1,ag,a3,fun c h1 h2=>a4 c h1 (nb c h2),.inl ⟨st,w',rfl,h2,h3,hr,a2⟩⟩
 ·obtain⟨v',K',a1,a2,a3,a4⟩:=GK.ga.push hx om om (bytes:=136) om om
  simp only[onR,sJ]at hr
  subst hr
  exact⟨v',K',a1,a2,a3,fun c h1 h2=>a4 c h1 (nb c h2),.inr ⟨e,rfl,rfl⟩⟩
theorem rbody_spec{β:Type}{rb:Nat}{s:Bs}{f:Nat}(hf:f≤1000000)(live:∀f',f'<f→LiveS rb s f'){H:AHeap}{o:Except Flt Wd}{d' d:Nat}{r:Res β}{k:List St→Wd→Option (Res β)}(hs:Sta rb s H o d')(h1:d≤d')(h2:d'≤200)(hrb:rb<H.next)(h:Go s o d' d r fun w=>onR (pS s f .body d w) k) :
  ACalls Tryz.prog natT 79 [cellR rb 10 0] H fun v H'=>∃d2 o2,v.one=true∧aeq v v=true∧d≤d2∧d2≤200∧Sta rb s H' o2 d2∧Fp rb H H'∧((∃l C,Go s o2 d2 d r (k l)∧SlK (In H.next H'.next) H' 9 v l.length C∧XSs (In H.next H'.next) H' l C)∨∃e,r=.error e∧o2=.error e):=by
 refine acalls_ofN rfl za79 rfl ?_
 have h':Go s o d' d r fun w=>onW (takeW s [123] w) fun w1=>onR (pS s (f-1) (.more []) d w1) k:=by
  rcases h with⟨w,rfl,hd,ok,hk⟩ | h
  ·cases f with
   | zero=>simp[pS,onR]at hk
   | succ f=>
    refine .inl ⟨w,rfl,hd,ok,?_⟩
    rw[pS_succ]at hk
    simp only[stepS]at hk
    simp only[Nat.add_one_sub_one]
    cases ht:takeW s [123] w with
    | error e=>rw[ht]at hk; exact hk
    | ok w1=>rw[ht]at hk; exact hk
  ·exact .inr h
 simp only[c79,sA,sB,seval]
 refine (rmust_spec hs hrb h'.en [123]).mono ?_
 rintro _ H1 ⟨s1,F1⟩
 have e1:=F1.next
 have g1:=h'.must rfl
 generalize mustO s o [123]=o1 at *
 simp only[sA,sB,seval]
 have tail:∀(K:AHeap) (v:AVal) (n:Nat) (o:Except Flt Wd) (d':Nat),GB H.next K v n→Sta rb s K o d'→d≤d'→d'≤200→Fp rb H K →
   ((∃out,GS H.next K v out∧Go s o d' d r fun w=>onW (takeW s [125] w) fun w2=>k out w2)∨∃e,r=.error e∧o=.error e) →
   ACalls Tryz.prog natT 76 [cellR rb 10 0,.str [125]] K fun _ H'=>∃d2 o2,v.one=true∧aeq v v=true∧d≤d2∧d2≤200∧Sta rb s H' o2 d2∧Fp rb H H'∧((∃l C,Go s o2 d2 d r (k l)∧SlK (In H.next H'.next) H' 9 v l.length C∧XSs (In H.next H'.next) H' l C)∨∃e,r=.error e∧o2=.error e):=by
  intro K v n o d' gK sK y1 y2 FK hK
  have hen:∀w,o=.ok w→w.en≤1000000:=by
   rcases hK with⟨e,_,g⟩ | ⟨e,_,rfl⟩
   ·exact g.en
   ·intro w hw; simp at hw
  refine (rmust_spec sK (by have:=FK.next; omega) hen [125]).mono ?_
  rintro _ K1 ⟨sK1,FK1⟩
  refine⟨d',_,gK.one,gK.aeq,y1,y2,sK1,FK.trans FK1,?_⟩
  rcases hK with⟨out,gE,g⟩ | ⟨e,rfl,rfl⟩
  ·have gE1:=gE.keep FK1.next fun c hc=>FK1.old c hc.2 (by have:=hc.1; omega)
   obtain⟨C,z1,z2⟩:=gE1.sl
   exact .inl ⟨out,C,g.must rfl,z1,z2⟩
  ·exact .inr ⟨e,rfl,rfl⟩
 have start:∃μ,((∃m out w8,μ=2*m+1∧0=out.length∧out.length+m≤f∧GS H.next H1 nilS out∧o1=.ok w8∧WOk s w8∧d'=d∧onR (pS s m (.more out) d w8) k=some r)∨∃e,μ=0∧r=.error e∧o1=.error e):=by
  rcases g1 with⟨w8,e8,h8,ok8,hp8⟩ | ⟨f',e8,h8⟩
  ·exact⟨_,.inl ⟨f-1,[],w8,rfl,rfl,by simp,GS.nil _ _,e8,ok8,h8,hp8⟩⟩
  ·exact⟨_,.inr ⟨f',rfl,h8,e8⟩⟩
 obtain⟨μ0,start⟩:=start
 refine aw_loop (fun μ (T:Env) K=>∃o d' v n,T 0=cellR rb 10 0∧T 3=v∧GB H.next K v n∧Sta rb s K o d'∧d≤d'∧d'≤200∧Fp rb H K∧((∃m out w8,μ=2*m+1∧n=out.length∧out.length+m≤f∧GS H.next K v out∧o=.ok w8∧WOk s w8∧d'=d∧onR (pS s m (.more out) d w8) k=some r)∨∃e,μ=0∧r=.error e∧o=.error e)) μ0
  ⟨o1,d',nilS,0,by simp only[sA,sB,seval],by simp only[sA,sB,seval]; rfl,(GS.nil _ _).ga,s1,h1,h2,F1,start⟩ ?_
 rintro μ T K ⟨o,d',v,n,t0,t3,gK,sK,y1,y2,FK,hK⟩
 have eK:=FK.next
 obtain⟨e,l,hr0,he⟩:=sK.cells
 have l7:oLoad false 1 K (cellR rb 10 7)=some (.int .i64 e):=row_load hr0 rfl rfl
 rcases hK with⟨m,out,w8,rfl,rfl,hm,gE,rfl,ok8,hd8,hp8⟩ | ⟨f',rfl,hrf,rfl⟩
 rotate_left
 ·have hne:e≠0:=fun q=>by obtain⟨w,hw⟩:=he.1 q; simp at hw
  simp only[sA,sB,seval,t0,t3,nil_cell,fldA,fld0,l7,hne]
  refine (tail K v n _ d' gK sK y1 y2 FK (.inr ⟨f',hrf,rfl⟩)).mono ?_
  rintro _ K' q
  simp only[sA,sB,seval,t3]
  exact q
 obtain rfl:=he.2 ⟨w8,rfl⟩
 cases m with
 | zero=>simp[pS,onR]at hp8
 | succ m=>
 rw[pS_succ]at hp8
 simp only[stepS]at hp8
 simp only[sA,sB,seval,t0,t3,nil_cell,fldA,fld0,l7]
 refine (ris_spec sK _).mono ?_
 rintro _ _ ⟨rfl,rfl⟩
 have hi8:isO (.ok w8) [125]=sgn w8 [[125]]:=isB_sgn ok8 rfl
 rw[hi8]
 cases hs41:sgn w8 [[125]] with
 | true=>
  rw[if_pos hs41]at hp8
  have hq:onW (takeW s [125] w8) (fun w2=>k out w2)=some r:=by
   unfold takeW; rw[if_pos hs41]
   cases hst:stepW s w8 with
   | error e=>rw[hst]at hp8; exact hp8
   | ok w1=>rw[hst]at hp8; exact hp8
  simp only[sA,sB,seval,t0,t3]
  refine (tail K v out.length _ d' gK sK y1 y2 FK (.inl ⟨out,gE,.inl ⟨w8,rfl,hd8,ok8,hq⟩⟩)).mono ?_
  rintro _ K' q
  simp only[sA,sB,seval,t3]
  exact q
 | false=>
 rw[if_neg (by rw[hs41]; simp)]at hp8
 obtain⟨r0,hr0⟩:∃r0,pS s m .stmt d w8=some r0:=by
  cases hq:pS s m .stmt d w8 with
  | none=>rw[hq]at hp8; simp[onR]at hp8
  | some r=>exact⟨r,rfl⟩
 rw[hr0]at hp8
 have hp9:onR (some r0) (fun x w1=>onR (pS s m (.more (out++x)) d w1) k)=some r:=by
  cases r0 with
  | error e=>exact hp8
  | ok p=>obtain⟨x,w1⟩:=p; exact hp8
 subst hd8
 simp only[sA,sB,seval,t0,t3]
 refine (live m om K w8 d' r0 sK ok8 y2 om hr0).mono ?_
 rintro _ K1 ⟨xs,d1,o1,rfl,x9,z1,z2,sK1,FK1,hx⟩
 have eK1:=FK1.next
 have bm:=buildM (z:=[.int .u8 0,.str [],.int .u8 0,.str [],.int .i64 0,.slice none 0 (.known 0),.slice none 0 (.known 0),.slice none 0 (.known 0),.int .i64 0]) (xs:=xs) (m:=9) K1 rfl x9.len
 obtain⟨v',K2,a2,G2,n2,k2,hst⟩:=more_push (n:=H.next) gE om hrb om FK1 x9 hx hp9
 simp only[sA,sB,seval,t0,t3,bm,a2]
 have c1:∀c,c<H.next→c≠rb→K2.get c=H.get c:=fun c h1 h2=>by
  rw[k2 c om (fun q=>by have:=q.1; omega),FK1.old c om h2,FK.old c h1 h2]
 have s2:=sK1.same (k2 rb om fun q=>by have:=q.1; omega)
 rcases hst with⟨st,w9,rfl,q2,ok9,hp10,G9⟩ | ⟨e,rfl,rfl⟩
 ·exact⟨2*m+1,om,_,d1,v',out.length+1,by simp only[sA,sB,seval,t0],by simp only[sA,sB,seval],G2,s2,z1,z2,⟨om,c1⟩,.inl ⟨m,out++[st],w9,rfl,by simp,by simp; omega,G9,rfl,ok9,q2,hp10⟩⟩
 ·exact⟨0,om,_,d1,v',out.length+1,by simp only[sA,sB,seval,t0],by simp only[sA,sB,seval],G2,s2,z1,z2,⟨om,c1⟩,.inr ⟨e,rfl,rfl,rfl⟩⟩
open Go.Abs Go.Abs.S
theorem Go.name{β:Type}{s:Bs}{o:Except Flt Wd}{d' d:Nat}{r:Res β}{K:Bs→Wd→Option (Res β)}(h:Go s o d' d r fun w=>if w.k=2 then onW (stepW s w) (K w.S) else badR 101 w):Go s (nameO s o) d' d r (K (if (oW o).k=2 then (oW o).S else [])):=by
 rcases h with⟨w,rfl,hd,ok,hk⟩ | ⟨e,rfl,rfl⟩
 ·dsimp only at hk
  unfold nameO
  by_cases h2:w.k=2
  ·rw[if_pos h2]at hk
   have h2':(oW (.ok w)).k=2:=h2
   rw[if_pos h2',if_pos h2']
   rcases onW_ok hk with⟨e,he,rfl⟩ | ⟨w1,he,hk⟩
   ·exact .inr ⟨e,he,rfl⟩
   ·exact .inl ⟨w1,he,hd,(nextW_ok he).1,hk⟩
  ·rw[if_neg h2]at hk
   have h2':¬(oW (.ok w)).k=2:=h2
   rw[if_neg h2']
   simp only[badR,sJ]at hk
   exact .inr ⟨_,rfl,hk.symm⟩
 ·refine .inr ⟨e,?_,rfl⟩
  unfold nameO
  rw[if_neg (by simp[oW])]; rfl
theorem bldSL'(n:Int):aBuild [.int .u8 0,.str [],.int .u8 0,.str [],.int .i64 0,.slice none 0 (.known 0),.slice none 0 (.known 0),.slice none 0 (.known 0),.int .i64 0] [(8,1,.int .i64 n)]=some (.agg (sObj 0 [] Zx nilS nilS n)):=_root_.id rfl
theorem obj_k{H:AHeap}{b:Nat}{k k':Int}{S:Bs}{xs:List AVal}{vb ve:AVal}{line:Int}(h:Row H b (sObj k S xs vb ve line))(hx:xs.length=4):∃H',oStore 1 H (cellR b 9 0) (.int .u8 k')=some H'∧Row H' b (sObj k' S xs vb ve line)∧H'.next=H.next∧∀c,c≠b→H'.get c=H.get c:=
 row_st h (n:=9) (by simp[sObj,hx]) (i:=0) om rfl rfl
theorem obj_S{H:AHeap}{b:Nat}{k:Int}{S S':Bs}{xs:List AVal}{vb ve:AVal}{line:Int}(h:Row H b (sObj k S xs vb ve line))(hx:xs.length=4):∃H',oStore 1 H (cellR b 9 1) (.str S')=some H'∧Row H' b (sObj k S' xs vb ve line)∧H'.next=H.next∧∀c,c≠b→H'.get c=H.get c:=
 row_st h (n:=9) (by simp[sObj,hx]) (i:=1) om rfl rfl
theorem obj_e{H:AHeap}{b:Nat}{k:Int}{S:Bs}{xs ys:List AVal}{vb ve:AVal}{line:Int}(h:Row H b (sObj k S xs vb ve line))(hx:xs.length=4)(hy:Ok4 ys):∃H',oStore 4 H (cellR b 9 2) (.agg ys)=some H'∧Row H' b (sObj k S ys vb ve line)∧H'.next=H.next∧∀c,c≠b→H'.get c=H.get c:=by
 obtain⟨a,b',c,d,rfl⟩:∃a b c d,xs=[a,b,c,d]:=by
  match xs,hx with
  | [a,b,c,d],_=>exact⟨a,b,c,d,rfl⟩
 exact row_stK h (n:=9) rfl (i:=2) (k:=4) om hy.len hy.one rfl
theorem obj_b{H:AHeap}{b:Nat}{k:Int}{S:Bs}{xs:List AVal}{vb ve v:AVal}{line:Int}(h:Row H b (sObj k S xs vb ve line))(hx:xs.length=4)(hv:v.one=true):∃H',oStore 1 H (cellR b 9 6) v=some H'∧Row H' b (sObj k S xs v ve line)∧H'.next=H.next∧∀c,c≠b→H'.get c=H.get c:=by
 obtain⟨a,b',c,d,rfl⟩:∃a b c d,xs=[a,b,c,d]:=by
  match xs,hx with
  | [a,b,c,d],_=>exact⟨a,b,c,d,rfl⟩
 exact row_st h (n:=9) rfl (i:=6) om hv rfl
theorem obj_l{H:AHeap}{b:Nat}{k:Int}{S:Bs}{xs:List AVal}{vb ve v:AVal}{line:Int}(h:Row H b (sObj k S xs vb ve line))(hx:xs.length=4)(hv:v.one=true):∃H',oStore 1 H (cellR b 9 7) v=some H'∧Row H' b (sObj k S xs vb v line)∧H'.next=H.next∧∀c,c≠b→H'.get c=H.get c:=by
 obtain⟨a,b',c,d,rfl⟩:∃a b c d,xs=[a,b,c,d]:=by
  match xs,hx with
  | [a,b,c,d],_=>exact⟨a,b,c,d,rfl⟩
 exact row_st h (n:=9) rfl (i:=7) om hv rfl
structure Fp'(rb b3:Nat)(H H':AHeap):Prop where
 next:H.next≤H'.next
 old:∀c,c<H.next→c≠rb→c≠b3→H'.get c=H.get c
theorem Fp'.fp{rb b3:Nat}{H H' H2:AHeap}(f:Fp' rb b3 H H')(g:Fp rb H' H2):Fp' rb b3 H H2:=⟨Nat.le_trans f.next g.next,fun c h1 h2 h3=>by rw[g.old c (Nat.lt_of_lt_of_le h1 f.next) h2,f.old c h1 h2 h3]⟩
theorem live_stmt{rb:Nat}{s:Bs}{f:Nat}(hf:f≤1000000)(le:LiveE rb s 77 fun d w=>pE s f (.rule 5) d w)(ls:∀f',f'<f→LiveS rb s f'):LiveS rb s (f+1):=by
 intro H w d r hsA ok hd hrb hr
 have dead:DeadE rb s 77:=dead_all rb s 5 om
 refine acalls_ofN rfl za34 rfl ?_
 rw[pS_succ]at hr
 simp only[stepS]at hr
 obtain⟨H1,m1,r1,n1,k1⟩:=row_newL H [.int .u8 0,.str [],.int .u8 0,.str [],.int .i64 0,.slice none 0 (.known 0),.slice none 0 (.known 0),.slice none 0 (.known 0),.int .i64 0] (n:=9) rfl
 obtain⟨H2,m2,r2,n2,k2⟩:=row_newL H1 [.int .u8 0,.str [],.int .u8 0,.str [],.int .i64 0,.slice none 0 (.known 0),.slice none 0 (.known 0),.slice none 0 (.known 0),.int .i64 0] (n:=9) rfl
 obtain⟨L,hL⟩:∃L,L=w.line:=⟨_,rfl⟩
 rw[← hL]at hr
 obtain⟨H3,m3,r3,n3,k3⟩:=row_storeN r2 (n:=9) rfl (xs:=sObj 0 [] Zx nilS nilS (L:Int)) rfl rfl
 have ll:oLoad false 1 H1 (cellR rb 10 4)=some (.int .i64 (L:Int)):=by
  rw[hL]; exact row_load (show Row H1 rb (rObj s w 0 0 d) from hsA.same (k1 rb om)) rfl rfl
 have k30:∀c,c<H.next→H3.get c=H.get c:=fun c hc=>by rw[k3 c om,k2 c om,k1 c om]
 have bl:=bldSL' (L:Int)
 simp only[c34,sW,sL,sXs,sXO,sXP,sB,seval,m1,nil_cell,fldA,ll,bl,m2,m3]
 obtain⟨b3,hb3⟩:∃b3,b3=H1.next:=⟨_,rfl⟩
 rw[← hb3]at r2 k2 m3 r3 k3
 rw[← hb3]
 refine (renter_spec (hsA.same (k30 rb om)) hd).mono ?_
 rintro _ H4 ⟨⟨b,rfl,⟨rfl,hlt,_,h3⟩ | ⟨rfl,d',h1,h2,hge,h3⟩⟩,F4,n4⟩
 rotate_left
 ·have hg:=hge ⟨w,rfl⟩
  rw[if_pos hg]at hr
  simp only[badR,sJ]at hr
  subst hr
  have l3:=row_loadN (r3.same (F4.old b3 om om)) (n:=9) rfl
  have x9:Ok9 (sObj 0 [] Zx nilS nilS (L:Int)):=ok9_obj ok4_z rfl rfl rfl rfl
  obtain⟨H5,m5,r5,n5,k5⟩:=row_storeN (H:=H4) (b:=H.next) (r1.same (by rw[F4.old _ om om,k3 _ om,k2 _ om])) (n:=9) rfl x9.len x9.one
  simp only[sW,sL,sXs,sXO,sXP,sB,seval,l3,m5]
  refine fin_c1 _ _ _ _ (v:=.agg (sObj 0 [] Zx nilS nilS (L:Int))) (by simp only[sA,sB,seval]; exact row_loadN r5 x9.len) ?_
  exact⟨_,d',_,rfl,x9,h1,h2,h3.same (k5 rb om),⟨om,fun c hc hp=>by rw[k5 c om,F4.old c om hp,k30 c hc]⟩,.inr ⟨_,rfl,rfl⟩⟩
 rw[if_neg om]at hr
 have F04:Fp rb H H4:=⟨om,fun c hc hp=>by rw[F4.old c om hp,k30 c hc]⟩
 have o3:Row H4 b3 (sObj 0 [] Zx nilS nilS (L:Int)):=r3.same (F4.old b3 om om)
 have q1:Row H4 H.next _:=r1.same (by rw[F4.old _ om om,k3 _ om,k2 _ om])
 obtain⟨D,hD⟩:∃D,D=d+1:=⟨_,rfl⟩
 rw[← hD]at h3 hr
 simp only[sW,sL,sXs,sXO,sXP,sB,seval]
 rw[aw_block]
 refine aw_cut (fun (T:Env) H'=>T 0=cellR rb 10 0∧T 2=cellR H.next 9 0∧T 3=cellR b3 9 0∧∃xs o' d',Row H' b3 xs∧Ok9 xs∧Sta rb s H' o' d'∧D≤d'∧d'≤200∧Fp' rb b3 H4 H'∧((∃st w',r=.ok ([st],w')∧o'=.ok w'∧d'=D∧WOk s w'∧XS (In H4.next H'.next) H' st xs)∨∃e,r=.error e∧o'=.error e)) (calls_mono _ _) ?_ ?_
 rotate_left
 ·rintro T H5 ⟨t0,t2,t3,xs,o',d',rx,x9,s5,y1,y2,F5,hx⟩
  have e5:=F5.next
  have F5o:∀c,c<H4.next→c≠rb→c≠b3→H5.get c=H4.get c:=F5.old
  obtain⟨d6,rfl⟩:∃d6,d'=d6+1:=⟨d'-1,om⟩
  obtain⟨z1,z2,H6,m6,s6,n6,k6⟩:=s5.deep om
  have l6:=row_loadN (rx.same (k6 b3 om)) x9.len
  obtain⟨H7,m7,r7,n7,k7⟩:=row_storeN (H:=H6) (b:=H.next) (q1.same (by rw[k6 _ om,F5o _ om om om])) (n:=9) rfl x9.len x9.one
  simp only[sA,sB,seval,t0,t2,t3,nil_cell,fldA,z1,z2,m6,l6,m7]
  refine fin_c1 _ _ _ _ (v:=.agg xs) (by simp only[sA,sB,seval,t2]; exact row_loadN r7 x9.len) ?_
  refine⟨xs,d6,o',rfl,x9,om,om,s6.same (k7 rb om),⟨om,fun c hc hp=>by rw[k7 c om,k6 c hp,F5o c om hp om,F04.old c hc hp]⟩,?_⟩
  refine hx.imp (fun ⟨st,w',a,b,c,g,h⟩=>⟨st,w',a,b,om,g,h.mono fun c hc=>?_⟩) fun q=>q
  have c1:=hc.1
  have c2:=hc.2
  exact⟨⟨om,om⟩,by rw[k7 c om,k6 c om]⟩
 have okz:Ok4 Zx:=ok4_z
 have iskw:∀t:Bs,t∉signsL→isO (.ok w) t=kyw w t:=fun t ht=>isB_kyw ok ht
 simp only[sA,sB,seval]
 refine (ris_spec h3 [108,101,116]).mono ?_
 rintro _ _ ⟨rfl,rfl⟩
 rw[iskw [108,101,116] dD]
 have kset:kyw w [108,101,116]=true→kyw w [115,101,116]=false:=fun q=>by
  simp only[kyw,Bool.and_eq_true,decide_eq_true_eq]at q
  simp[kyw,q.2]
 cases ca:kyw w [108,101,116] with
 | true=>
  rw[if_pos ca]at hr
  simp only[sA,sB,seval]
  obtain⟨H5,m5,o5,n5,k5⟩:=obj_k (k':=1) o3 rfl
  have s5:=h3.same (k5 rb om)
  simp only[sA,sB,seval,fld0,m5]
  refine (ris_spec s5 [115,101,116]).mono ?_
  rintro _ _ ⟨rfl,rfl⟩
  rw[iskw [115,101,116] dD,kset ca]
  have F5:Fp' rb b3 H4 H5:=⟨om,fun c _ _ h=>k5 c h⟩
  simp only[sA,sB,seval]
  have g0:Go s (Except.ok w) D D r fun w=>onW (stepW s w) fun w1=>if w1.k=2 then onW (stepW s w1) ((fun S w1=>onW (takeW s [61] w1) fun w2=>onR (pE s f (.rule 5) D w2) fun e w3=>onW (takeW s [59] w3) fun w4=>fineR [.mk 1 S e [] [] L] w4) w1.S) else badR 101 w1:=.inl ⟨w,rfl,rfl,ok,hr⟩
  have e5:=F5.next
  refine (rtake_spec s5 om g0.en).mono ?_
  rintro _ H6 ⟨s6,F6⟩
  have e6:=F6.next
  have g6:=g0.take
  generalize takeO s (Except.ok w)=u6 at *
  simp only[sA,sB,seval]
  refine (rname_spec s6 om g6.en).mono ?_
  rintro _ H7 ⟨rfl,s7,F7⟩
  have e7:=F7.next
  have g7:=Go.name (K:=fun (S:Bs) w1=>onW (takeW s [61] w1) fun w2=>onR (pE s f (.rule 5) D w2) fun e w3=>onW (takeW s [59] w3) fun w4=>fineR [St.mk 1 S e [] [] (L:Int)] w4) g6
  generalize (if (oW u6).k=2 then (oW u6).S else [])=SN at *
  generalize nameO s u6=u7 at *
  obtain⟨H8,m8,o8,n8,k8⟩:=obj_S (S':=SN) (o5.same (H':=H7) (by rw[F7.old _ om om,F6.old _ om om])) rfl
  have s8:=s7.same (k8 rb om)
  have F8:Fp' rb b3 H4 H8:=⟨om,fun c h1 h2 h3=>by rw[k8 c h3,F7.old c om h2,F6.old c om h2,F5.old c h1 h2 h3]⟩
  simp only[sA,sB,seval,fldA,m8]
  refine (rmust_spec s8 om g7.en [61]).mono ?_
  rintro _ H9 ⟨s9,F9⟩
  have e9:=F9.next
  have g9:=g7.must rfl
  generalize mustO s u7 [61]=u9 at *
  simp only[sA,sB,seval]
  refine (callE dead le s9 rL om om g9).mono ?_
  rintro _ Ha ⟨xs,da,ua,rfl,x4,y1,y2,sa,Fa,hx⟩
  have ea:=Fa.next
  obtain⟨Hb,mb,ob,nb,kb⟩:=obj_e (o8.same (H':=Ha) (by rw[Fa.old _ om om,F9.old _ om om])) rfl x4
  have sb:=sa.same (kb rb om)
  have hen:∀w,ua=.ok w→w.en≤1000000:=by
   rcases hx with⟨e,g,_⟩ | ⟨e,_,rfl⟩
   ·exact g.en
   ·intro w hw; simp at hw
  have Fb:Fp' rb b3 H4 Hb:=⟨om,fun c h1 h2 h3=>by rw[kb c h3,Fa.old c om h2,F9.old c om h2,F8.old c h1 h2 h3]⟩
  simp only[sA,sB,seval,fldA,mb]
  refine (rmust_spec sb om hen [59]).mono ?_
  rintro _ Hc ⟨sc,Fc⟩
  have ec:=Fc.next
  simp only[sA,sB,seval]
  refine⟨tt,tt,tt,_,_,da,ob.same (Fc.old b3 om om),ok9_obj x4 rfl rfl rfl rfl,sc,y1,y2,Fb.fp Fc,?_⟩
  rcases hx with⟨e,g,xe⟩ | ⟨e,rfl,rfl⟩
  case inr=>exact .inr ⟨e,rfl,rfl⟩
  rcases g.must rfl with⟨wc,ec',hdc,okc,hpc⟩ | ⟨e,ec',hrc⟩
  case inr=>exact .inr ⟨e,hrc,ec'⟩
  simp only[fineR,sJ]at hpc
  subst hpc
  refine .inl ⟨_,wc,rfl,ec',hdc,okc,xs_obj (xe.mono fun c hc=>?_) (.nil _ _ _) rfl (.nil _ _ _) rfl⟩
  have c1:=hc.1
  have c2:=hc.2
  exact⟨⟨om,om⟩,by rw[Fc.old c om om,kb c om]⟩
 | false=>
 rw[if_neg (by rw[ca]; simp)]at hr
 simp only[sA,sB,seval]
 refine (ris_spec h3 [115,101,116]).mono ?_
 rintro _ _ ⟨rfl,rfl⟩
 rw[iskw [115,101,116] dD]
 cases cb:kyw w [115,101,116] with
 | true=>
  rw[if_pos cb]at hr
  simp only[sA,sB,seval]
  obtain⟨H5,m5,o5,n5,k5⟩:=obj_k (k':=1) o3 rfl
  have s5:=h3.same (k5 rb om)
  simp only[sA,sB,seval,fld0,m5]
  refine (ris_spec s5 [115,101,116]).mono ?_
  rintro _ _ ⟨rfl,rfl⟩
  rw[iskw [115,101,116] dD,cb]
  obtain⟨H5b,m5b,o5b,n5b,k5b⟩:=obj_k (k':=2) o5 rfl
  have s5b:=s5.same (k5b rb om)
  simp only[sA,sB,seval,fld0,m5b]
  have F5:Fp' rb b3 H4 H5b:=⟨om,fun c _ _ h=>by rw[k5b c h,k5 c h]⟩
  have g0:Go s (Except.ok w) D D r fun w=>onW (stepW s w) fun w1=>if w1.k=2 then onW (stepW s w1) ((fun S w1=>onW (takeW s [61] w1) fun w2=>onR (pE s f (.rule 5) D w2) fun e w3=>onW (takeW s [59] w3) fun w4=>fineR [.mk 2 S e [] [] L] w4) w1.S) else badR 101 w1:=.inl ⟨w,rfl,rfl,ok,hr⟩
  have e5:=F5.next
  refine (rtake_spec s5b om g0.en).mono ?_
  rintro _ H6 ⟨s6,F6⟩
  have e6:=F6.next
  have g6:=g0.take
  generalize takeO s (Except.ok w)=u6 at *
  simp only[sA,sB,seval]
  refine (rname_spec s6 om g6.en).mono ?_
  rintro _ H7 ⟨rfl,s7,F7⟩
  have e7:=F7.next
  have g7:=Go.name (K:=fun (S:Bs) w1=>onW (takeW s [61] w1) fun w2=>onR (pE s f (.rule 5) D w2) fun e w3=>onW (takeW s [59] w3) fun w4=>fineR [St.mk 2 S e [] [] (L:Int)] w4) g6
  generalize (if (oW u6).k=2 then (oW u6).S else [])=SN at *
  generalize nameO s u6=u7 at *
  obtain⟨H8,m8,o8,n8,k8⟩:=obj_S (S':=SN) (o5b.same (H':=H7) (by rw[F7.old _ om om,F6.old _ om om])) rfl
  have s8:=s7.same (k8 rb om)
  have F8:Fp' rb b3 H4 H8:=⟨om,fun c h1 h2 h3=>by rw[k8 c h3,F7.old c om h2,F6.old c om h2,F5.old c h1 h2 h3]⟩
  simp only[sA,sB,seval,fldA,m8]
  refine (rmust_spec s8 om g7.en [61]).mono ?_
  rintro _ H9 ⟨s9,F9⟩
  have e9:=F9.next
  have g9:=g7.must rfl
  generalize mustO s u7 [61]=u9 at *
  simp only[sA,sB,seval]
  refine (callE dead le s9 rL om om g9).mono ?_
  rintro _ Ha ⟨xs,da,ua,rfl,x4,y1,y2,sa,Fa,hx⟩
  have ea:=Fa.next
  obtain⟨Hb,mb,ob,nb,kb⟩:=obj_e (o8.same (H':=Ha) (by rw[Fa.old _ om om,F9.old _ om om])) rfl x4
  have sb:=sa.same (kb rb om)
  have hen:∀w,ua=.ok w→w.en≤1000000:=by
   rcases hx with⟨e,g,_⟩ | ⟨e,_,rfl⟩
   ·exact g.en
   ·intro w hw; simp at hw
  have Fb:Fp' rb b3 H4 Hb:=⟨om,fun c h1 h2 h3=>by rw[kb c h3,Fa.old c om h2,F9.old c om h2,F8.old c h1 h2 h3]⟩
  simp only[sA,sB,seval,fldA,mb]
  refine (rmust_spec sb om hen [59]).mono ?_
  rintro _ Hc ⟨sc,Fc⟩
  have ec:=Fc.next
  simp only[sA,sB,seval]
  refine⟨tt,tt,tt,_,_,da,ob.same (Fc.old b3 om om),ok9_obj x4 rfl rfl rfl rfl,sc,y1,y2,Fb.fp Fc,?_⟩
  rcases hx with⟨e,g,xe⟩ | ⟨e,rfl,rfl⟩
  case inr=>exact .inr ⟨e,rfl,rfl⟩
  rcases g.must rfl with⟨wc,ec',hdc,okc,hpc⟩ | ⟨e,ec',hrc⟩
  case inr=>exact .inr ⟨e,hrc,ec'⟩
  simp only[fineR,sJ]at hpc
  subst hpc
  refine .inl ⟨_,wc,rfl,ec',hdc,okc,xs_obj (xe.mono fun c hc=>?_) (.nil _ _ _) rfl (.nil _ _ _) rfl⟩
  have c1:=hc.1
  have c2:=hc.2
  exact⟨⟨om,om⟩,by rw[Fc.old c om om,kb c om]⟩
 | false=>
 rw[if_neg (by rw[cb]; simp)]at hr
 simp only[sA,sB,seval]
 refine (ris_spec h3 [105,102]).mono ?_
 rintro _ _ ⟨rfl,rfl⟩
 rw[iskw [105,102] dD]
 cases cc:kyw w [105,102] with
 | true=>
  rw[if_pos cc]at hr
  have g0:Go s (Except.ok w) D D r fun w=>onW (stepW s w) fun w1=>onW (takeW s [40] w1) fun w1=>onR (pE s f (.rule 5) D w1) fun e w2=>onW (takeW s [41] w2) fun w3=>onR (pS s f .body D w3) fun l w2=>if kyw w2 [101,108,115,101] then onW (stepW s w2) fun w3=>onR (pS s f .body D w3) fun m w4=>fineR [.mk 3 [] e l m L] w4 else fineR [.mk 3 [] e l [] L] w2:=.inl ⟨w,rfl,rfl,ok,hr⟩
  simp only[sA,sB,seval]
  refine (rtake_spec h3 om g0.en).mono ?_
  rintro _ H5 ⟨s5,F5⟩
  have e5:=F5.next
  have g5:=g0.take
  generalize takeO s (Except.ok w)=u5 at *
  obtain⟨H6,m6,o6,n6,k6⟩:=obj_k (k':=3) (o3.same (F5.old _ om om)) rfl
  have s6:=s5.same (k6 rb om)
  have F6:Fp' rb b3 H4 H6:=⟨om,fun c h1 h2 h3=>by rw[k6 c h3,F5.old c h1 h2]⟩
  simp only[sA,sB,seval,fld0,m6]
  refine (rcond_spec le s6 rL om om g5).mono ?_
  rintro _ H7 ⟨xs,d7,u7,rfl,x4,y1,y2,s7,F7,hx⟩
  have e7:=F7.next
  obtain⟨H8,m8,o8,n8,k8⟩:=obj_e (o6.same (F7.old _ om om)) rfl x4
  have s8:=s7.same (k8 rb om)
  have F8:Fp' rb b3 H4 H8:=⟨om,fun c h1 h2 h3=>by rw[k8 c h3,F7.old c om h2,F6.old c h1 h2 h3]⟩
  simp only[sA,sB,seval,fldA,m8]
  have hg8:∃e,(Go s u7 d7 D r fun w3=>onR (pS s f .body D w3) fun l w2=>if kyw w2 [101,108,115,101] then onW (stepW s w2) fun w3=>onR (pS s f .body D w3) fun m w4=>fineR [.mk 3 [] e l m L] w4 else fineR [.mk 3 [] e l [] L] w2)∧((∀f',u7≠.error f')→XE (In H6.next H7.next) H7 e xs):=by
   rcases hx with⟨e,g,xe⟩ | ⟨e,h1,h2⟩
   ·exact⟨e,g,fun _=>xe⟩
   ·exact⟨.mk 0 [] 0 [],.inr ⟨e,h2,h1⟩,fun q=>absurd h2 (q e)⟩
  obtain⟨e,g8,hxe⟩:=hg8
  refine (rbody_spec hf ls s8 y1 y2 om g8).mono ?_
  rintro v H9 ⟨d9,u9,v1,v2,y3,y4,s9,F9,hl⟩
  have e9:=F9.next
  obtain⟨Ha,ma,oa,na,ka⟩:=obj_b (o8.same (F9.old _ om om)) x4.len v1
  have sa:=s9.same (ka rb om)
  have Fa:Fp' rb b3 H4 Ha:=⟨om,fun c h1 h2 h3=>by rw[ka c h3,F9.old c om h2,F8.old c h1 h2 h3]⟩
  simp only[sA,sB,seval,fldA,ma]
  have hen:∀w,u9=.ok w→WOk s w:=by
   rcases hl with⟨l,C,g,_⟩ | ⟨e,_,rfl⟩
   ·rcases g with⟨w9,rfl,_,ok9,_⟩ | ⟨e,rfl,_⟩
    ·intro w hw; simp only[Except.ok.injEq]at hw; subst hw; exact ok9
    ·intro w hw; simp at hw
   ·intro w hw; simp at hw
  refine (ris_spec sa [101,108,115,101]).mono ?_
  rintro _ _ ⟨rfl,rfl⟩
  have h7:(∃f',u7=.error f')→∃e,r=.error e:=by
   rintro ⟨f',rfl⟩
   rcases g8 with⟨w7,q,_⟩ | ⟨f'',q,q2⟩
   ·simp at q
   ·exact⟨f'',q2⟩
  have h7':(∀e,r≠.error e)→∀f',u7≠.error f':=fun q f' hf'=>by
   obtain⟨e,he⟩:=h7 ⟨f',hf'⟩
   exact q e he
  cases hi:isO u9 [101,108,115,101] with
  | false=>
   simp only[sA,sB,seval]
   refine⟨tt,tt,tt,_,_,d9,oa,ok9_obj x4 v1 v2 rfl rfl,sa,y3,y4,Fa,?_⟩
   rcases hl with⟨l,C,g,z1,z2⟩ | ⟨e,rfl,rfl⟩
   case inr=>exact .inr ⟨e,rfl,rfl⟩
   rcases g with⟨w9,rfl,hd9,ok9,hp9⟩ | ⟨e,rfl,rfl⟩
   case inr=>exact .inr ⟨e,rfl,rfl⟩
   dsimp only at hp9
   have hky:kyw w9 [101,108,115,101]=false:=by rw[← isB_kyw ok9 dD]; exact hi
   rw[if_neg (by rw[hky]; simp)]at hp9
   simp only[fineR,sJ]at hp9
   subst hp9
   have km:∀c,In H8.next H9.next c→In H4.next Ha.next c∧Ha.get c=H9.get c:=fun c hc=>by
    have c1:=hc.1
    have c2:=hc.2
    exact⟨⟨om,om⟩,ka c om⟩
   refine .inl ⟨_,w9,rfl,rfl,hd9,ok9,xs_obj ((hxe (h7' (by simp))).mono fun c hc=>?_) (z1.mono km) (z2.mono km) (.nil _ _ _) rfl⟩
   have c1:=hc.1
   have c2:=hc.2
   exact⟨⟨om,om⟩,by rw[ka c om,F9.old c om om,k8 c om]⟩
  | true=>
  rcases hl with⟨l,C,g,z1,z2⟩ | ⟨e,_,rfl⟩
  rotate_left
  ·exact absurd hi (by simp[isO])
  rcases g with⟨w9,rfl,hd9,ok9,hp9⟩ | ⟨e,rfl,_⟩
  rotate_left
  ·exact absurd hi (by simp[isO])
  dsimp only at hp9
  have hky:kyw w9 [101,108,115,101]=true:=by rw[← isB_kyw ok9 dD]; exact hi
  rw[if_pos hky]at hp9
  have g9:Go s (Except.ok w9) d9 D r fun w2=>onW (stepW s w2) fun w3=>onR (pS s f .body D w3) fun m w4=>fineR [.mk 3 [] e l m L] w4:=.inl ⟨w9,rfl,hd9,ok9,hp9⟩
  simp only[sA,sB,seval]
  refine (rtake_spec sa om g9.en).mono ?_
  rintro _ Hb ⟨sb,Fb⟩
  have eb:=Fb.next
  have gb:=g9.take
  generalize takeO s (Except.ok w9)=ub at *
  simp only[sA,sB,seval]
  refine (rbody_spec hf ls sb y3 y4 om gb).mono ?_
  rintro v' Hc ⟨dc,uc,p1,p2,p3,p4,sc,Fc,hl2⟩
  have ec:=Fc.next
  obtain⟨Hd,md,od,nd,kd⟩:=obj_l (oa.same (H':=Hc) (by rw[Fc.old _ om om,Fb.old _ om om])) x4.len p1
  have Fd:Fp' rb b3 H4 Hd:=⟨om,fun c h1 h2 h3=>by rw[kd c h3,Fc.old c om h2,Fb.old c om h2,Fa.old c h1 h2 h3]⟩
  simp only[sA,sB,seval,fldA,md]
  refine⟨tt,tt,tt,_,_,dc,od,ok9_obj x4 v1 v2 p1 p2,sc.same (kd rb om),p3,p4,Fd,?_⟩
  rcases hl2 with⟨l2,C2,g2,q1,q2⟩ | ⟨e,rfl,rfl⟩
  case inr=>exact .inr ⟨e,rfl,rfl⟩
  rcases g2 with⟨wc,rfl,hdc,okc,hpc⟩ | ⟨e,rfl,rfl⟩
  case inr=>exact .inr ⟨e,rfl,rfl⟩
  simp only[fineR,sJ]at hpc
  subst hpc
  have k9:∀c,c<H9.next→c≠rb→c≠b3→Hd.get c=H9.get c:=fun c h1 h2 h3=>by rw[kd c h3,Fc.old c om h2,Fb.old c om h2,ka c h3]
  have km:∀c,In H8.next H9.next c→In H4.next Hd.next c∧Hd.get c=H9.get c:=fun c hc=>by
   have c1:=hc.1
   have c2:=hc.2
   exact⟨⟨om,om⟩,k9 c c2 om om⟩
  have kn:∀c,In Hb.next Hc.next c→In H4.next Hd.next c∧Hd.get c=Hc.get c:=fun c hc=>by
   have c1:=hc.1
   have c2:=hc.2
   exact⟨⟨om,om⟩,kd c om⟩
  refine .inl ⟨_,wc,rfl,rfl,hdc,okc,xs_obj ((hxe (h7' (by simp))).mono fun c hc=>?_) (z1.mono km) (z2.mono km) (q1.mono kn) (q2.mono kn)⟩
  have c1:=hc.1
  have c2:=hc.2
  exact⟨⟨om,om⟩,by rw[k9 c om om om,F9.old c om om,k8 c om]⟩
 | false=>
 rw[if_neg (by rw[cc]; simp)]at hr
 simp only[sA,sB,seval]
 refine (ris_spec h3 [119,104,105,108,101]).mono ?_
 rintro _ _ ⟨rfl,rfl⟩
 rw[iskw [119,104,105,108,101] dD]
 cases cd:kyw w [119,104,105,108,101] with
 | true=>
  rw[if_pos cd]at hr
  have g0:Go s (Except.ok w) D D r fun w=>onW (stepW s w) fun w1=>onW (takeW s [40] w1) fun w1=>onR (pE s f (.rule 5) D w1) fun e w2=>onW (takeW s [41] w2) fun w3=>onR (pS s f .body D w3) fun l w2=>fineR [.mk 4 [] e l [] L] w2:=.inl ⟨w,rfl,rfl,ok,hr⟩
  simp only[sA,sB,seval]
  refine (rtake_spec h3 om g0.en).mono ?_
  rintro _ H5 ⟨s5,F5⟩
  have e5:=F5.next
  have g5:=g0.take
  generalize takeO s (Except.ok w)=u5 at *
  obtain⟨H6,m6,o6,n6,k6⟩:=obj_k (k':=4) (o3.same (F5.old _ om om)) rfl
  have s6:=s5.same (k6 rb om)
  have F6:Fp' rb b3 H4 H6:=⟨om,fun c h1 h2 h3=>by rw[k6 c h3,F5.old c h1 h2]⟩
  simp only[sA,sB,seval,fld0,m6]
  refine (rcond_spec le s6 rL om om g5).mono ?_
  rintro _ H7 ⟨xs,d7,u7,rfl,x4,y1,y2,s7,F7,hx⟩
  have e7:=F7.next
  obtain⟨H8,m8,o8,n8,k8⟩:=obj_e (o6.same (F7.old _ om om)) rfl x4
  have s8:=s7.same (k8 rb om)
  have F8:Fp' rb b3 H4 H8:=⟨om,fun c h1 h2 h3=>by rw[k8 c h3,F7.old c om h2,F6.old c h1 h2 h3]⟩
  simp only[sA,sB,seval,fldA,m8]
  have hg8:∃e,(Go s u7 d7 D r fun w3=>onR (pS s f .body D w3) fun l w2=>fineR [.mk 4 [] e l [] L] w2)∧((∀f',u7≠.error f')→XE (In H6.next H7.next) H7 e xs):=by
   rcases hx with⟨e,g,xe⟩ | ⟨e,h1,h2⟩
   ·exact⟨e,g,fun _=>xe⟩
   ·exact⟨.mk 0 [] 0 [],.inr ⟨e,h2,h1⟩,fun q=>absurd h2 (q e)⟩
  obtain⟨e,g8,hxe⟩:=hg8
  refine (rbody_spec hf ls s8 y1 y2 om g8).mono ?_
  rintro v H9 ⟨d9,u9,v1,v2,y3,y4,s9,F9,hl⟩
  have e9:=F9.next
  obtain⟨Ha,ma,oa,na,ka⟩:=obj_b (o8.same (F9.old _ om om)) x4.len v1
  have sa:=s9.same (ka rb om)
  have Fa:Fp' rb b3 H4 Ha:=⟨om,fun c h1 h2 h3=>by rw[ka c h3,F9.old c om h2,F8.old c h1 h2 h3]⟩
  simp only[sA,sB,seval,fldA,ma]
  refine⟨tt,tt,tt,_,_,d9,oa,ok9_obj x4 v1 v2 rfl rfl,sa,y3,y4,Fa,?_⟩
  rcases hl with⟨l,C,g,z1,z2⟩ | ⟨e,rfl,rfl⟩
  case inr=>exact .inr ⟨e,rfl,rfl⟩
  rcases g with⟨w9,rfl,hd9,ok9,hp9⟩ | ⟨e,rfl,rfl⟩
  case inr=>exact .inr ⟨e,rfl,rfl⟩
  simp only[fineR,sJ]at hp9
  subst hp9
  have h7:∀f',u7≠.error f':=by
   rintro f' rfl
   rcases g8 with⟨w7,q,_⟩ | ⟨f'',q,q2⟩
   ·simp at q
   ·simp at q2
  have km:∀c,In H8.next H9.next c→In H4.next Ha.next c∧Ha.get c=H9.get c:=fun c hc=>by
   have c1:=hc.1
   have c2:=hc.2
   exact⟨⟨om,om⟩,ka c om⟩
  refine .inl ⟨_,w9,rfl,rfl,hd9,ok9,xs_obj ((hxe h7).mono fun c hc=>?_) (z1.mono km) (z2.mono km) (.nil _ _ _) rfl⟩
  have c1:=hc.1
  have c2:=hc.2
  exact⟨⟨om,om⟩,by rw[ka c om,F9.old c om om,k8 c om]⟩
 | false=>
 rw[if_neg (by rw[cd]; simp)]at hr
 simp only[sA,sB,seval]
 refine (ris_spec h3 [114,101,116,117,114,110]).mono ?_
 rintro _ _ ⟨rfl,rfl⟩
 rw[iskw [114,101,116,117,114,110] dD]
 cases c5:kyw w [114,101,116,117,114,110] with
 | true=>
  rw[if_pos c5]at hr
  have g0:Go s (Except.ok w) D D r fun w=>onW (stepW s w) fun w1=>onR (pE s f (.rule 5) D w1) fun e w2=>onW (takeW s [59] w2) fun w3=>fineR [.mk 5 [] e [] [] L] w3:=.inl ⟨w,rfl,rfl,ok,hr⟩
  simp only[sA,sB,seval]
  refine (rtake_spec h3 om g0.en).mono ?_
  rintro _ H5 ⟨s5,F5⟩
  have e5:=F5.next
  have g5:=g0.take
  generalize takeO s (Except.ok w)=u5 at *
  obtain⟨H6,m6,o6,n6,k6⟩:=obj_k (k':=5) (o3.same (F5.old _ om om)) rfl
  have s6:=s5.same (k6 rb om)
  have F6:Fp' rb b3 H4 H6:=⟨om,fun c h1 h2 h3=>by rw[k6 c h3,F5.old c h1 h2]⟩
  simp only[sA,sB,seval,fld0,m6]
  refine (callE dead le s6 rL om om g5).mono ?_
  rintro _ Ha ⟨xs,da,ua,rfl,x4,y1,y2,sa,Fa,hx⟩
  have ea:=Fa.next
  obtain⟨Hb,mb,ob,nb,kb⟩:=obj_e (o6.same (Fa.old _ om om)) rfl x4
  have sb:=sa.same (kb rb om)
  have hen:∀w,ua=.ok w→w.en≤1000000:=by
   rcases hx with⟨e,g,_⟩ | ⟨e,_,rfl⟩
   ·exact g.en
   ·intro w hw; simp at hw
  have Fb:Fp' rb b3 H4 Hb:=⟨om,fun c h1 h2 h3=>by rw[kb c h3,Fa.old c om h2,F6.old c h1 h2 h3]⟩
  simp only[sA,sB,seval,fldA,mb]
  refine (rmust_spec sb om hen [59]).mono ?_
  rintro _ Hc ⟨sc,Fc⟩
  have ec:=Fc.next
  simp only[sA,sB,seval]
  refine⟨tt,tt,tt,_,_,da,ob.same (Fc.old b3 om om),ok9_obj x4 rfl rfl rfl rfl,sc,y1,y2,Fb.fp Fc,?_⟩
  rcases hx with⟨e,g,xe⟩ | ⟨e,rfl,rfl⟩
  case inr=>exact .inr ⟨e,rfl,rfl⟩
  rcases g.must rfl with⟨wc,ec',hdc,okc,hpc⟩ | ⟨e,ec',hrc⟩
  case inr=>exact .inr ⟨e,hrc,ec'⟩
  simp only[fineR,sJ]at hpc
  subst hpc
  refine .inl ⟨_,wc,rfl,ec',hdc,okc,xs_obj (xe.mono fun c hc=>?_) (.nil _ _ _) rfl (.nil _ _ _) rfl⟩
  have c1:=hc.1
  have c2:=hc.2
  exact⟨⟨om,om⟩,by rw[Fc.old c om om,kb c om]⟩
 | false=>
 rw[if_neg (by rw[c5]; simp)]at hr
 simp only[badR,sJ]at hr
 subst hr
 simp only[sA,sB,seval]
 refine (rfail_spec h3 (c:=101) om).mono ?_
 rintro _ H5 ⟨s5,F5,n5⟩
 simp only[sA,sB,seval]
 exact⟨tt,tt,tt,_,_,D,o3.same (F5.old b3 om om),ok9_obj okz rfl rfl rfl rfl,s5,Nat.le_refl _,om,⟨om,fun c h1 h2 _=>F5.old c h1 h2⟩,.inr ⟨_,rfl,rfl⟩⟩
theorem liveS_ok(rb:Nat)(s:Bs):∀(f:Nat),f≤1000000→∀f',f'≤f→LiveS rb s f'
 | 0,_,f',h=>by
  obtain rfl:f'=0:=om
  exact fun H w d r _ _ _ _ hr=>by simp[pS]at hr
 | f+1,hf,f',h=>by
  have ih:=liveS_ok rb s f om
  by_cases he:f'≤f
  ·exact ih f' he
  obtain rfl:f'=f+1:=om
  exact live_stmt om ((allL_ok rb s f om f rL).rule 5 om) fun f' h=>ih f' om
open Go.Abs Go.Abs.S
def TelW{α:Type}(o:Option (Res α))(P:α→Wd→Prop):Prop:=∀a w',o=some (.ok (a,w'))→P a w'
theorem telW_onW{α:Type}{o:Except Flt Wd}{f:Wd→Option (Res α)}{P:α→Wd→Prop}(h:∀w',o=.ok w'→TelW (f w') P):TelW (onW o f) P:=by
 cases o with
 | error e=>intro a w' q; simp[onW]at q
 | ok w=>exact h w rfl
theorem telW_onR{α β:Type}{o:Option (Res α)}{f:α→Wd→Option (Res β)}{P:α→Wd→Prop}{Q:β→Wd→Prop}(ho:TelW o P)(h:∀a w',P a w'→TelW (f a w') Q):TelW (onR o f) Q:=by
 cases o with
 | none=>intro a w' q; simp[onR]at q
 | some o=>
  cases o with
  | error e=>intro a w' q; simp[onR]at q
  | ok p=>obtain⟨a,w⟩:=p; exact h a w (ho a w rfl)
theorem telW_fine{α:Type}{a:α}{w:Wd}{P:α→Wd→Prop}(h:P a w):TelW (fineR a w) P:=by
 intro a' w' q
 simp only[fineR,sJ,Except.ok.injEq,pJ]at q
 rw[← q.1,← q.2]; exact h
theorem telW_bad{α:Type}{e:Nat}{w:Wd}{P:α→Wd→Prop}:TelW (badR (α:=α) e w) P:=by intro a w' q; simp[badR]at q
theorem TelW.imp{α:Type}{o:Option (Res α)}{P Q:α→Wd→Prop}(h:TelW o P)(k:∀a w,P a w→Q a w):TelW o Q:=fun a w q=>k a w (h a w q)
theorem sizesE_snoc'(l:List Ex)(e:Ex):sizesE (l++[e])=sizesE l+e.size:=by
 induction l with
 | nil=>simp[sizesE]
 | cons x l ih=>simp only[List.cons_append,sizesE,ih]; omega
theorem sizesS_app'(l m:List St):sizesS (l++m)=sizesS l+sizesS m:=by
 induction l with
 | nil=>simp[sizesS]
 | cons x l ih=>simp only[List.cons_append,sizesS,ih]; omega
def exE:NT→Nat
 | .loop _ e=>e.size
 | .args _ out=>sizesE out+1
 | _=>0
theorem sizE(s:Bs):∀(f:Nat) (nt:NT) (g:Nat) (w:Wd),WOk s w→TelW (pE s f nt g w) fun e w'=>WOk s w'∧e.size+mW s w'≤mW s w+exE nt
 | 0,_,_,_,_=>by intro a w' q; simp[pE]at q
 | f+1,nt,g,w,hw=>by
  have ih:=sizE s f
  rw[pE_succ]
  cases nt with
  | rule k=>
   cases k with
   | zero=>
    simp only[stepE,exE]
    split
    ·exact telW_bad
    split
    ·rename_i hs
     refine telW_onW fun w1 h1=>?_
     obtain⟨k1,k2⟩:=stepW_ok h1 hw (by rw[sgn_k hs]; omega)
     refine telW_onR (ih (.rule 0) (g+1) w1 k1) fun e w2 ⟨h2,h3⟩=>telW_fine ⟨h2,?_⟩
     simp only[Ex.size,sizesE,exE]at h3 ⊢; omega
    ·exact ih .prim (g+1) w hw
   | succ k=>
    simp only[stepE,exE]
    refine telW_onR (ih (.rule k) g w hw) fun e w1 ⟨h2,h3⟩=>(ih (.loop (k+1) e) g w1 h2).imp fun a w' ⟨h4,h5⟩=>⟨h4,?_⟩
    simp only[exE]at h3 h5 ⊢; omega
  | loop k e=>
   simp only[stepE,exE]
   split
   ·rename_i hs
    refine telW_onW fun w1 h1=>?_
    obtain⟨k1,k2⟩:=stepW_ok h1 hw (by rw[sgn_k hs]; omega)
    refine telW_onR (ih (.rule (k-1)) g w1 k1) fun r w2 ⟨h2,h3⟩=>?_
    simp only[exE]at h3
    split
    ·refine telW_fine ⟨h2,?_⟩
     simp only[Ex.size,sizesE]; omega
    ·refine (ih (.loop k _) g w2 h2).imp fun a w' ⟨h4,h5⟩=>⟨h4,?_⟩
     simp only[exE,Ex.size,sizesE]at h5; omega
   ·exact telW_fine ⟨hw,om⟩
  | prim=>
   simp only[stepE,exE]
   split
   ·refine telW_onW fun w1 h1=>?_
    obtain⟨k1,k2⟩:=stepW_ok h1 hw om
    exact telW_fine ⟨k1,by simp only[Ex.size,sizesE]; omega⟩
   split
   ·refine telW_onW fun w1 h1=>?_
    obtain⟨k1,k2⟩:=stepW_ok h1 hw om
    split
    ·rename_i hs
     refine telW_onW fun w2 h2=>?_
     obtain⟨k3,k4⟩:=stepW_ok h2 k1 (by rw[sgn_k hs]; omega)
     split
     ·rename_i hs2
      refine telW_onW fun w3 h3=>?_
      obtain⟨k5,k6⟩:=stepW_ok h3 k3 (by rw[sgn_k hs2]; omega)
      exact telW_fine ⟨k5,by simp only[Ex.size,sizesE]; omega⟩
     ·refine (ih (.args _ []) g w2 k3).imp fun a w' ⟨h4,h5⟩=>⟨h4,?_⟩
      simp only[exE,sizesE]at h5; omega
    ·exact telW_fine ⟨k1,by simp only[Ex.size,sizesE]; omega⟩
   split
   ·rename_i hs
    refine telW_onW fun w1 h1=>?_
    obtain⟨k1,k2⟩:=stepW_ok h1 hw (by rw[sgn_k hs]; omega)
    refine telW_onR (ih (.rule 5) g w1 k1) fun e w2 ⟨h2,h3⟩=>telW_onW fun w3 h4=>?_
    obtain⟨_,_,k3,k4⟩:=takeW_ok h4 h2
    simp only[exE]at h3
    exact telW_fine ⟨k3,om⟩
   ·exact telW_bad
  | args S out=>
   simp only[stepE,exE]
   refine telW_onR (ih (.rule 5) g w hw) fun e w1 ⟨h2,h3⟩=>?_
   simp only[exE]at h3
   split
   ·rename_i hs
    refine telW_onW fun w2 h1=>?_
    obtain⟨k1,k2⟩:=stepW_ok h1 h2 (by rw[sgn_k hs]; omega)
    refine (ih (.args S (out++[e])) g w2 k1).imp fun a w' ⟨h4,h5⟩=>⟨h4,?_⟩
    simp only[exE,sizesE_snoc']at h5; omega
   ·refine telW_onW fun w2 h1=>?_
    obtain⟨_,_,k1,k2⟩:=takeW_ok h1 h2
    exact telW_fine ⟨k1,by simp only[Ex.size,sizesE_snoc']; omega⟩
def exS:NS→Nat
 | .more out=>sizesS out
 | _=>0
theorem sizS(s:Bs):∀(f:Nat) (nt:NS) (g:Nat) (w:Wd),WOk s w→TelW (pS s f nt g w) fun l w'=>WOk s w'∧sizesS l+mW s w'≤mW s w+exS nt
 | 0,_,_,_,_=>by intro a w' q; simp[pS]at q
 | f+1,nt,g,w,hw=>by
  have ih:=sizS s f
  have pe:∀g w1,WOk s w1→TelW (pE s f (.rule 5) g w1) fun e w'=>WOk s w'∧e.size+mW s w'≤mW s w1:=fun g w1 h=>(sizE s f (.rule 5) g w1 h).imp fun a w' ⟨h1,h2⟩=>⟨h1,by simpa[exE] using h2⟩
  rw[pS_succ]
  have named:∀k line g w1,WOk s w1→mW s w1<mW s w→TelW (namedW s (pE s f) k line g w1) fun l w'=>WOk s w'∧sizesS l+mW s w'≤mW s w:=by
   intro k line g w1 k1 k2
   unfold namedW
   split
   ·refine telW_onW fun w2 h2=>?_
    obtain⟨k3,k4⟩:=stepW_ok h2 k1 om
    refine telW_onW fun w3 h3=>?_
    obtain⟨_,_,k5,k6⟩:=takeW_ok h3 k3
    refine telW_onR (pe g w3 k5) fun e w4 ⟨l1,l2⟩=>telW_onW fun w5 h5=>?_
    obtain⟨_,_,k7,k8⟩:=takeW_ok h5 l1
    exact telW_fine ⟨k7,by simp only[sizesS,St.size]; omega⟩
   ·exact telW_bad
  have asked:∀g w1 F,WOk s w1→mW s w1<mW s w→(∀e l w4,WOk s w4→e.size+sizesS l+mW s w4<mW s w→TelW (F e l w4) fun l w'=>WOk s w'∧sizesS l+mW s w'≤mW s w)→TelW (askedW s (pE s f) (pS s f) g w1 F) fun l w'=>WOk s w'∧sizesS l+mW s w'≤mW s w:=by
   intro g w1 F k1 k2 hF
   unfold askedW
   refine telW_onW fun w2 h2=>?_
   obtain⟨_,_,k3,k4⟩:=takeW_ok h2 k1
   refine telW_onR (pe g w2 k3) fun e w3 ⟨l1,l2⟩=>telW_onW fun w4 h4=>?_
   obtain⟨_,_,k5,k6⟩:=takeW_ok h4 l1
   refine telW_onR (ih .body g w4 k5) fun l w5 ⟨m1,m2⟩=>hF e l w5 m1 ?_
   simp only[exS]at m2; omega
  cases nt with
  | stmt=>
   simp only[stepS,exS]
   split
   ·exact telW_bad
   split
   ·rename_i c
    refine telW_onW fun w1 h1=>?_
    obtain⟨k1,k2⟩:=stepW_ok h1 hw (by rw[kyw_k c]; omega)
    exact named _ _ _ w1 k1 k2
   split
   ·rename_i c
    refine telW_onW fun w1 h1=>?_
    obtain⟨k1,k2⟩:=stepW_ok h1 hw (by rw[kyw_k c]; omega)
    exact named _ _ _ w1 k1 k2
   split
   ·rename_i c
    refine telW_onW fun w1 h1=>?_
    obtain⟨k1,k2⟩:=stepW_ok h1 hw (by rw[kyw_k c]; omega)
    refine asked _ w1 _ k1 k2 fun e l w2 l1 l2=>?_
    split
    ·rename_i c
     refine telW_onW fun w3 h3=>?_
     obtain⟨k3,k4⟩:=stepW_ok h3 l1 (by rw[kyw_k c]; omega)
     refine telW_onR (ih .body _ w3 k3) fun m w4 ⟨m1,m2⟩=>telW_fine ⟨m1,?_⟩
     simp only[exS]at m2
     simp only[sizesS,St.size]; omega
    ·exact telW_fine ⟨l1,by simp only[sizesS,St.size]; omega⟩
   split
   ·rename_i c
    refine telW_onW fun w1 h1=>?_
    obtain⟨k1,k2⟩:=stepW_ok h1 hw (by rw[kyw_k c]; omega)
    exact asked _ w1 _ k1 k2 fun e l w2 l1 l2=>telW_fine ⟨l1,by simp only[sizesS,St.size]; omega⟩
   split
   ·rename_i c
    refine telW_onW fun w1 h1=>?_
    obtain⟨k1,k2⟩:=stepW_ok h1 hw (by rw[kyw_k c]; omega)
    refine telW_onR (pe _ w1 k1) fun e w2 ⟨l1,l2⟩=>telW_onW fun w3 h3=>?_
    obtain⟨_,_,k5,k6⟩:=takeW_ok h3 l1
    exact telW_fine ⟨k5,by simp only[sizesS,St.size]; omega⟩
   ·exact telW_bad
  | body=>
   simp only[stepS,exS]
   refine telW_onW fun w1 h1=>?_
   obtain⟨_,_,k1,k2⟩:=takeW_ok h1 hw
   refine (ih (.more []) g w1 k1).imp fun a w' ⟨h4,h5⟩=>⟨h4,?_⟩
   simp only[exS,sizesS]at h5; omega
  | more out=>
   simp only[stepS,exS]
   split
   ·rename_i c
    refine telW_onW fun w1 h1=>?_
    obtain⟨k1,k2⟩:=stepW_ok h1 hw (by rw[sgn_k c]; omega)
    exact telW_fine ⟨k1,om⟩
   ·refine telW_onR (ih .stmt g w hw) fun x w1 ⟨h2,h3⟩=>(ih (.more (out++x)) g w1 h2).imp fun a w' ⟨h4,h5⟩=>⟨h4,?_⟩
    simp only[exS,sizesS_app']at h3 h5; omega
theorem sizTop(s:Bs):∀(f:Nat) (out:List St) (w:Wd) (l:List St),WOk s w→pTop s f out w=some (.ok l)→sizesS l≤mW s w+sizesS out
 | 0,_,_,_,_,h=>by simp[pTop]at h
 | f+1,out,w,l,hw,h=>by
  unfold pTop at h
  by_cases c:w.k=5
  ·rw[if_pos c]at h
   simp only[sJ,Except.ok.injEq]at h
   subst h; omega
  rw[if_neg c]at h
  cases hp:pS s f .stmt 0 w with
  | none=>rw[hp]at h; simp at h
  | some r=>
   rw[hp]at h
   cases r with
   | error e=>simp at h
   | ok p=>
    obtain⟨x,w1⟩:=p
    obtain⟨h1,h2⟩:=sizS s f .stmt 0 w hw x w1 hp
    have:=sizTop s f (out++x) w1 l h1 h
    simp only[exS,sizesS_app']at h2 this
    omega
theorem top_size{s:Bs}{w:Wd}{f:Nat}{l:List St}(hn:nextW s 0=.ok w)(hp:pTop s f [] w=some (.ok l)):sizesS l≤100000:=by
 obtain⟨hw,_,_⟩:=nextW_ok hn
 have:=sizTop s f [] w l hw hp
 have h2:mW s w≤s.length+1:=by unfold mW; split <;> omega
 have:=hw.long
 simp only[sizesS]at *
 omega
open Go.Abs Go.Abs.S
theorem pf_maxN(a b:Nat):aPf (.mm true) [.int .i64 (a:Int),.int .i64 (b:Int)]=some (.int .i64 ((max a b:Nat):Int)):=by
 have:aPf (.mm true) [.int .i64 (a:Int),.int .i64 (b:Int)]=some (.int .i64 (if (a:Int)<(b:Int) then (b:Int) else a)):=by
  simp only[aPf,aMMs,aMM,aMM1,ltF_eq,cond_true]
  by_cases h:(a:Int)<b <;> simp[h]
 rw[this]
 congr 2
 split <;> omega
theorem addN(a b:Nat)(h:a+b≤1000000000):IntKind.i64.wrap ((a:Int)+(b:Int))=((a+b:Nat):Int):=w64
theorem sizeE_pos(e:Ex):1≤e.size:=by cases e; simp only[Ex.size]; omega
theorem fsizee_spec:∀(N:Nat) {e:Ex} {c:List AVal} {H:AHeap} {lv:Nat},e.size≤N→XE (·<H.next) H e c→lv≤100→e.size≤1000000 →
  ACalls Tryz.prog natT 117 [.agg c,.int .i64 (lv:Int)] H fun u H'=>(∃n d:Nat,u=.tuple [.int .i64 (n:Int),.int .i64 (d:Int)]∧n≤e.size∧d=min lv e.deep∧(e.deep≤lv→n=e.size))∧Ext H.next H H'
 | 0,e,_,_,_,h,_,_,_=>absurd (sizeE_pos e) om
 | N+1,.mk k s z kids,c,H,lv,h,hx,hl,hs=>by
  obtain⟨v,C,rfl,z1,z2⟩:=hx
  have hsz:(Ex.mk k s z kids).size=sizesE kids+1:=rfl
  have hdp:(Ex.mk k s z kids).deep=deepsE kids+1:=rfl
  refine acalls_ofN rfl za117 rfl ?_
  obtain⟨H1,m1,r1,n1,k1⟩:=row_newL H [.int .u8 (k:Int),.str s,.int .i64 z,v] (n:=4) rfl
  have E1:Ext H.next H H1:=⟨om,fun c hc=>k1 c om⟩
  by_cases hl0:lv=0
  ·subst hl0
   have hl':((0:Nat):Int)<1:=om
   simp only[c117,sA,sB,seval,cells_agg,m1,hl']
   exact⟨⟨0,0,tt,om,om,om⟩,E1⟩
  have hl':¬(lv:Int)<1:=om
  have hlw:IntKind.i64.wrap ((lv:Int)-1)=((lv-1:Nat):Int):=w64
  have l3:∀{K:AHeap},Ext H1.next H1 K→oLoad false 1 K (cellR H.next 4 3)=some v:=fun q=>row_load (r1.same (q.old _ om)) rfl rfl
  have ln:=z1.len
  simp only[c117,sA,sB,seval,cells_agg,m1,hl']
  refine aw_loop (fun m (T:Env) K=>∃i n d:Nat,m=kids.length-i∧i≤kids.length∧T 1=.int .i64 (lv:Int)∧T 2=cellR H.next 4 0∧T 6=.int .i64 (n:Int)∧T 7=.int .i64 (d:Int)∧T 8=.int .i64 (i:Int)∧Ext H1.next H1 K∧n≤1+sizesE (kids.take i)∧d=min (lv-1) (deepsE (kids.take i))∧(deepsE (kids.take i)≤lv-1→n=1+sizesE (kids.take i))) kids.length
   ⟨0,1,0,rfl,Nat.zero_le _,by simp only[sA,sB,seval]; try rfl,by simp only[sA,sB,seval],by simp only[sA,sB,seval]; try rfl,by simp only[sA,sB,seval]; try rfl,by simp only[sA,sB,seval]; try rfl,Ext.refl _ _,by simp[sizesE],by simp[deepsE],fun _=>by simp[sizesE]⟩ ?_
  rintro m T K ⟨i,n,d,rfl,hi,t1,t2,t6,t7,t8,EK,hn,hd,hnd⟩
  have eK:=EK.next
  have l3K:=l3 EK
  by_cases hlt:i<kids.length
  case neg=>
   obtain rfl:i=kids.length:=om
   have hlt':¬(kids.length:Int)<(kids.length:Int):=om
   rw[List.take_length]at hn hd hnd
   have wd:IntKind.i64.wrap ((d:Int)+1)=((d+1:Nat):Int):=addN d 1 om
   simp only[sA,sB,seval,t1,t2,t6,t7,t8,fldA,l3K,ln,hlt',wd]
   refine⟨⟨n,d+1,tt,om,om,fun q=>by rw[hnd om]; omega⟩,om,fun c hc=>by rw[EK.old c om,E1.old c hc]⟩
  have hlt':(i:Int)<(kids.length:Int):=om
  obtain⟨e,he⟩:∃e,kids[i]?=some e:=⟨_,List.getElem?_eq_getElem hlt⟩
  have hts:kids.take (i+1)=kids.take i++[e]:=by rw[List.take_add_one,he]; rfl
  have km:∀b,b<H.next→b<K.next∧K.get b=H.get b:=fun b hb=>⟨om,by rw[EK.old b om,E1.old b hb]⟩
  have z13:=z1.mono km
  have z23:=z2.mono km
  have ix:=z13.idx hlt
  have ld:=z13.load hlt
  have he3:=z23.at he
  have hsm:=size_mem (List.mem_of_getElem? he)
  have hlen:=len_sizesE kids
  have wi:IntKind.i64.wrap ((i:Int)+1)=((i+1:Nat):Int):=addN i 1 om
  simp only[sA,sB,seval,t1,t2,t6,t7,t8,fldA,l3K,ln,hlt',ix,ld,hlw]
  refine (fsizee_spec N om he3 om om).mono ?_
  rintro _ K2 ⟨⟨n2,d2,rfl,a1,a2,a3⟩,E2⟩
  have htk:sizesE (kids.take (i+1))≤sizesE kids:=by
   have:=List.take_append_drop (i+1) kids
   have h2:sizesE kids=sizesE (kids.take (i+1))+sizesE (kids.drop (i+1)):=by rw[← sizesE_app,this]
   omega
  rw[hts,sizesE_app]at htk
  simp only[sizesE]at htk
  have wn:IntKind.i64.wrap ((n:Int)+(n2:Int))=((n+n2:Nat):Int):=addN n n2 om
  simp only[sA,sB,seval,ext_0,ext_1,t1,t2,t6,t7,t8,wn,pf_maxN,wi]
  refine⟨kids.length-(i+1),om,i+1,n+n2,max d d2,rfl,om,tt,tt,tt,tt,tt,EK.trans (E2.less om),?_,?_,?_⟩
  ·rw[hts,sizesE_app]; simp only[sizesE]; omega
  ·rw[hts,deepsE_app]; simp only[deepsE]; omega
  ·rw[hts,sizesE_app,deepsE_app]; simp only[sizesE,deepsE]; intro q
   rw[hnd om,a3 om]; omega
theorem arD{lv D e b s d d1 d2 d3:Nat}(hd:d=min (lv-1) (D-1))(a2:d1=min (lv-1) e)(b2:d2=min (lv-1) b)(g2:d3=min (lv-1) s):max (max (max d d1) d2) d3=min (lv-1) (max D (max (max e (max b s)+1) 0)-1):=om
theorem arN{lv D e b s n n1 n2 n3 i L S E B Q:Nat}(hl:1≤lv)(hn:D≤lv→n+i=L+S)(a:e≤lv-1→n1=E)(b':b≤lv-1→n2=B)(g:s≤lv-1→n3=Q):max D (max (max e (max b s)+1) 0)≤lv→n+n1+n2+n3+(i+1)=L+(S+(E+B+Q+1+0)):=by
 intro q
 have h1:=hn om
 have h2:=a om
 have h3:=b' om
 have h4:=g om
 omega
set_option maxHeartbeats 1000000 in
theorem fsizes_spec:∀(N:Nat) {l:List St} {C:List AVal} {v:AVal} {H:AHeap} {lv:Nat},sizesS l≤N→SlK (·<H.next) H 9 v l.length C→XSs (·<H.next) H l C→lv≤100→sizesS l≤1000000 →
  ACalls Tryz.prog natT 81 [v,.int .i64 (lv:Int)] H fun u H'=>(∃n d:Nat,u=.tuple [.int .i64 (n:Int),.int .i64 (d:Int)]∧n≤sizesS l∧d=min lv (deepsS l)∧(deepsS l≤lv→n=sizesS l))∧Ext H.next H H':=by
 intro N
 induction N with
 | zero=>
  intro l C v H lv h z1 z2 hl hs
  have hl0:l=[]:=by
   cases l with
   | nil=>rfl
   | cons x l=>have:=sizeS_pos x; simp only[sizesS]at h; omega
  subst hl0
  have ln:=z1.len
  have h0:(([]:List St).length:Int)=0:=rfl
  refine acalls_ofN rfl za81 rfl ?_
  simp only[c81,sA,sB,seval,ln,h0]
  exact⟨⟨0,0,tt,om,by simp[deepsS],fun _=>rfl⟩,Ext.refl _ _⟩
 | succ N ih=>
  intro l C v H lv h z1 z2 hl hs
  have ln:=z1.len
  refine acalls_ofN rfl za81 rfl ?_
  by_cases hl0:l=[]
  ·subst hl0
   have h0:(([]:List St).length:Int)=0:=rfl
   simp only[c81,sA,sB,seval,ln,h0]
   exact⟨⟨0,0,tt,om,by simp[deepsS],fun _=>rfl⟩,Ext.refl _ _⟩
  have h0:¬(l.length:Int)=0:=by have:=List.length_pos_iff.2 hl0; omega
  have hdl:1≤deepsS l:=by
   cases l with
   | nil=>exact absurd rfl hl0
   | cons x l=>cases x; simp only[deepsS,St.deep]; omega
  by_cases hlv:lv=0
  ·subst hlv
   have hl':((0:Nat):Int)<1:=om
   simp only[c81,sA,sB,seval,ln,h0,hl']
   exact⟨⟨0,0,tt,om,om,om⟩,Ext.refl _ _⟩
  have hl':¬(lv:Int)<1:=om
  have hlw:IntKind.i64.wrap ((lv:Int)-1)=((lv-1:Nat):Int):=w64
  have hlen:=len_sizesS l
  simp only[c81,sA,sB,seval,ln,h0,hl']
  refine aw_loop (fun m (T:Env) K=>∃i n d:Nat,m=l.length-i∧i≤l.length∧T 0=v∧T 1=.int .i64 (lv:Int)∧T 6=.int .i64 (n:Int)∧T 7=.int .i64 (d:Int)∧T 8=.int .i64 (i:Int)∧Ext H.next H K∧n+i≤l.length+sizesS (l.take i)∧d=min (lv-1) (deepsS (l.take i)-1)∧(deepsS (l.take i)≤lv→n+i=l.length+sizesS (l.take i))) l.length
   ⟨0,l.length,0,rfl,Nat.zero_le _,by simp only[sA,sB,seval],by simp only[sA,sB,seval]; try rfl,by simp only[sA,sB,seval],by simp only[sA,sB,seval]; try rfl,by simp only[sA,sB,seval]; try rfl,Ext.refl _ _,by simp[sizesS],by simp[deepsS],fun _=>by simp[sizesS]⟩ ?_
  rintro m T K ⟨i,n,d,rfl,hi,t0,t1,t6,t7,t8,EK,hn,hd,hnd⟩
  have eK:=EK.next
  by_cases hlt:i<l.length
  case neg=>
   obtain rfl:i=l.length:=om
   have hlt':¬(l.length:Int)<(l.length:Int):=om
   rw[List.take_length]at hn hd hnd
   have wd:IntKind.i64.wrap ((d:Int)+1)=((d+1:Nat):Int):=addN d 1 om
   simp only[sA,sB,seval,t0,t1,t6,t7,t8,ln,hlt',wd]
   exact⟨⟨n,d+1,tt,om,om,fun q=>by have:=hnd q; omega⟩,EK⟩
  have hlt':(i:Int)<(l.length:Int):=om
  obtain⟨x,he⟩:∃e,l[i]?=some e:=⟨_,List.getElem?_eq_getElem hlt⟩
  have hts:l.take (i+1)=l.take i++[x]:=by rw[List.take_add_one,he]; rfl
  have km:∀{K:AHeap},Ext H.next H K→∀b,b<H.next→b<K.next∧K.get b=H.get b:=fun q b hb=>⟨by have:=q.next; omega,q.old b hb⟩
  have z13:=z1.mono (km EK)
  have ix:=z13.idx hlt
  have pt:=z13.pt hlt
  have hsm:=size_memS (List.mem_of_getElem? he)
  have wi:IntKind.i64.wrap ((i:Int)+1)=((i+1:Nat):Int):=addN i 1 om
  have htk:sizesS (l.take (i+1))≤sizesS l:=by
   have:=List.take_append_drop (i+1) l
   have h2:sizesS l=sizesS (l.take (i+1))+sizesS (l.drop (i+1)):=by rw[← sizesS_app,this]
   omega
  rw[hts,sizesS_app]at htk
  simp only[sizesS]at htk
  have hx3:=(z2.mono (km EK)).at he
  obtain⟨k,s,e,body,els,line⟩:=x
  obtain⟨ce,vb,Cb,ve,Ce,hcell,x1,y1,y2,y3,y4⟩:=hx3
  obtain⟨c0,c1,c2,c3,rfl⟩:∃a b c d,ce=[a,b,c,d]:=by
   have:=x1.len
   match ce,this with
   | [a,b,c,d],_=>exact⟨a,b,c,d,rfl⟩
  rw[hcell]at pt
  have hsz:(St.mk k s e body els line).size=e.size+sizesS body+sizesS els+1:=rfl
  have hdp:(St.mk k s e body els line).deep=max e.deep (max (deepsS body) (deepsS els))+1:=rfl
  have fl2:=pt.fld 2
  have le:oLoad true 4 K (fp (placeK 9 v i) 2)=some (.agg [c0,c1,c2,c3]):=by
   have pe:=pt.part (o:=2) (k:=4) (by simp)
   obtain⟨a,ea,hrd⟩:=pe
   rw[ea]
   simp only[oLoad]
   have hrd':rdCells K a 4=some [c0,c1,c2,c3]:=hrd
   rw[hrd']; rfl
  simp only[sA,sB,seval,t0,t1,t6,t7,t8,ln,hlt',ix,fl2,le,hlw]
  refine (fsizee_spec e.size rL x1 om om).mono ?_
  rintro _ K1 ⟨⟨n1,d1,rfl,a1,a2,a3⟩,E1⟩
  have e1:=E1.next
  have EK1:=EK.trans (E1.less om)
  have kk:∀{K':AHeap},Ext K.next K K'→∀b,b<K.next→b<K'.next∧K'.get b=K.get b:=fun q b hb=>⟨by have:=q.next; omega,q.old b hb⟩
  have pk:∀{K':AHeap},Ext H.next H K'→PtC K' (placeK 9 v i) (.int .u8 (k:Int)::.str s::([c0,c1,c2,c3]++[vb,ve,.int .i64 line])):=by
   intro K' q
   refine pt.same fun a ea=>?_
   have hb:=z1.blk hlt a ea
   rw[q.old _ hb,EK.old _ hb]
  have p6:=(pk EK1).load (o:=6) (x:=vb) rfl
  have fl6:=pt.fld 6
  have w1:IntKind.i64.wrap ((n:Int)+(n1:Int))=((n+n1:Nat):Int):=addN n n1 om
  simp only[sA,sB,seval,ext_0,ext_1,t0,t1,t6,t7,t8,w1,pf_maxN,ix,fl6,p6,hlw]
  refine (ih om (y1.mono (kk E1)) (y2.mono (kk E1)) om om).mono ?_
  rintro _ K2 ⟨⟨n2,d2,rfl,b1,b2,b3⟩,E2⟩
  have e2:=E2.next
  have EK2:=EK1.trans (E2.less om)
  have E12:=E1.trans (E2.less om)
  have p7:=(pk EK2).load (o:=7) (x:=ve) rfl
  have fl7:=pt.fld 7
  have w2:IntKind.i64.wrap (((n+n1:Nat):Int)+(n2:Int))=((n+n1+n2:Nat):Int):=addN (n+n1) n2 om
  simp only[sA,sB,seval,ext_0,ext_1,t0,t1,t6,t7,t8,w2,pf_maxN,ix,fl7,p7,hlw]
  refine (ih om (y3.mono (kk E12)) (y4.mono (kk E12)) om om).mono ?_
  rintro _ K3 ⟨⟨n3,d3,rfl,g1,g2,g3⟩,E3⟩
  have EK3:=EK2.trans (E3.less om)
  have w3:IntKind.i64.wrap (((n+n1+n2:Nat):Int)+(n3:Int))=((n+n1+n2+n3:Nat):Int):=addN (n+n1+n2) n3 om
  simp only[sA,sB,seval,ext_0,ext_1,t0,t1,t6,t7,t8,w3,pf_maxN,wi]
  refine⟨l.length-(i+1),om,i+1,n+n1+n2+n3,max (max (max d d1) d2) d3,rfl,om,tt,tt,tt,tt,tt,EK3,?_,?_,?_⟩
  ·rw[hts,sizesS_app]; simp only[sizesS]; omega
  ·rw[hts,deepsS_app]; simp only[deepsS]; rw[hdp]; exact arD hd a2 b2 g2
  ·rw[hts,sizesS_app,deepsS_app]; simp only[sizesS,deepsS]; rw[hsz,hdp]; exact arN om hnd a3 b3 g3
theorem ffits_spec{l:List St}{C:List AVal}{v:AVal}{H:AHeap}(z1:SlK (·<H.next) H 9 v l.length C)(z2:XSs (·<H.next) H l C)(hs:sizesS l≤1000000) :
  ACalls Tryz.prog natT 35 [v] H fun u H'=>u=.bool (fitsF l)∧Ext H.next H H':=by
 refine acalls_ofN rfl za35 rfl ?_
 simp only[c35,sA,sB,seval]
 refine (fsizes_spec (sizesS l) (lv:=41) rL z1 z2 om hs).mono ?_
 rintro _ H1 ⟨⟨n,d,rfl,a1,a2,a3⟩,E1⟩
 simp only[sA,sB,seval,ext_0,ext_1]
 by_cases h1:n≤1000
 ·have h1':(n:Int)≤1000:=om
  by_cases h2:d≤40
  ·have h2':(d:Int)≤40:=om
   have hf:fitsF l=true:=by
    unfold fitsF
    rw[decide_eq_true (by have:=a3 om; omega),decide_eq_true om]; rfl
   simp only[sA,sB,seval,h1',h2',hf]
   exact⟨tt,E1⟩
  ·have h2':¬(d:Int)≤40:=om
   have hf:fitsF l=false:=by
    unfold fitsF
    rw[show decide (deepsS l≤40)=false from decide_eq_false om,Bool.and_false]
   simp only[sA,sB,seval,h1',h2',hf]
   exact⟨tt,E1⟩
 ·have h1':¬(n:Int)≤1000:=om
  have hf:fitsF l=false:=by
   unfold fitsF
   rw[show decide (sizesS l≤1000)=false from decide_eq_false om]; rfl
  simp only[sA,sB,seval,h1',hf]
  exact⟨tt,E1⟩
open Go.Abs Go.Abs.S
theorem fparse_spec(s:Bs){H:AHeap}:ACalls Tryz.prog natT 10 [.str s] H fun u H'=>(match parseF s with
   | .ok l=>∃v C,u=.tuple [v,.agg (flL 0 0)]∧SlK (In H.next H'.next) H' 9 v l.length C∧XSs (In H.next H'.next) H' l C
   | .error e=>u=.tuple [nilS,.agg (flL e.1 e.2)])∧Ext H.next H H':=by
 refine acalls_ofN rfl za10 rfl ?_
 obtain⟨H1,m1,r1,n1,k1⟩:=row_newL H [.int .i64 0,.int .i64 0] (n:=2) rfl
 have bo:aBuild [.str [],.int .u8 0,.str [],.int .i64 0,.int .i64 0,.int .i64 0,.int .i64 0,.int .i64 0,.int .i64 0,.int .i64 0] [(0,1,.str s)]=some (.agg (rObj s W0 0 0 0)):=rfl
 obtain⟨H2,m2,r2,n2,k2⟩:=row_newL H1 (rObj s W0 0 0 0) (n:=10) rfl
 obtain⟨rb,hrb⟩:∃rb,rb=H1.next:=⟨_,rfl⟩
 rw[← hrb]at m2 r2 k2
 have ag:∀l:List AVal,(AVal.agg l).cells=l:=cells_agg
 have k20:∀c,c<H.next→H2.get c=H.get c:=fun c hc=>by rw[k2 c om,k1 c om]
 have t2':Row H2 H.next [.int .i64 0,.int .i64 0]:=r1.same (k2 _ om)
 have s2:Sta rb s H2 (.ok W0) 0:=r2
 simp only[c10,sW,sL,sXs,sXO,sXP,sB,seval,m1,bo,ag,m2]
 refine (rread_spec s2 om (p:=0) om).mono ?_
 rintro _ H3 ⟨s3,F3⟩
 have e3:=F3.next
 have s3':Sta rb s H3 (nextW s 0) 0:=s3
 have b0:aBuild [.int .i64 0,.int .i64 0] []=some (.agg (flL 0 0)):=rfl
 have bn:aBuild [.int .i64 0,.int .i64 0] [(0,1,.int .i64 102)]=some (.agg (flL 102 0)):=rfl
 have t3:=t2'.same (F3.old _ om om)
 have k30:∀c,c<H.next→H3.get c=H.get c:=fun c hc=>by rw[F3.old c om om,k20 c hc]
 have hpf:∃rr:Except Flt (List St),parseF s=(match rr with
   | .error e=>.error e
   | .ok l=>if fitsF l then .ok l else .error (102,0))∧(∀l,rr=.ok l→sizesS l≤100000)∧∃μ,((∃m out w8,μ=2*m+1∧0=out.length∧out.length+m≤1000000∧GS H3.next H3 nilS out∧nextW s 0=.ok w8∧WOk s w8∧0=0∧pTop s m out w8=some rr)∨∃e,μ=0∧rr=.error e∧nextW s 0=.error e):=by
  cases hn:nextW s 0 with
  | error e=>exact⟨.error e,by unfold parseF; rw[hn],fun l q=>by simp at q,0,.inr ⟨e,rfl,rfl,rfl⟩⟩
  | ok w=>
   obtain⟨hw,-,-⟩:=nextW_ok hn
   obtain⟨r,hr⟩:=fuelT_ok hn
   have hfu:fuelT s≤1000000:=by have:=hw.long; unfold fuelT; omega
   refine⟨r,?_,fun l q=>top_size hn (q ▸ hr),_,.inl ⟨fuelT s,[],w,rfl,rfl,by simpa using hfu,GS.nil _ _,rfl,hw,rfl,hr⟩⟩
   unfold parseF; rw[hn]; simp only[hr]; cases r <;> rfl
 obtain⟨rr,hp,hsz,μ0,start⟩:=hpf
 rw[hp]
 simp only[sW,sL,sXs,sXO,sXP,sB,seval]
 rw[aw_block]
 refine aw_cut (fun (T:Env) H'=>T 3=cellR H.next 2 0∧T 4=cellR rb 10 0∧Row H' H.next [.int .i64 0,.int .i64 0]∧H3.next≤H'.next∧(∀c,c<H.next→H'.get c=H.get c)∧((∃l w8 d,rr=.ok l∧T 5=T 5∧GS H3.next H' (T 5) l∧Sta rb s H' (.ok w8) d)∨∃e d,rr=.error e∧Sta rb s H' (.error e) d)) (calls_mono _ _) ?_ ?_
 rotate_left
 ·rintro T He ⟨t3',t4,re,ne,oe,⟨l,w8,d,rfl,-,G,se⟩ | ⟨e,d,rfl,se⟩⟩
  ·have l7:oLoad false 1 He (cellR rb 10 7)=some (.int .i64 0):=row_load (show Row He rb (rObj s w8 0 0 d) from se) rfl rfl
   obtain⟨C,z1,z2⟩:=G.sl
   simp only[sA,sB,seval,t3',t4,nil_cell,fldA,fld0,l7]
   refine (ffits_spec (z1.mono fun c hc=>⟨hc.2,rfl⟩) (z2.mono fun c hc=>⟨hc.2,rfl⟩) (by have:=hsz l rfl; omega)).mono ?_
   rintro _ Hf ⟨rfl,Ef⟩
   have xf:=Ef.next
   cases hfit:fitsF l with
   | true=>
    obtain⟨Hg,mg,rg,ng,kg⟩:=row_storeN (re.same (Ef.old _ om)) (n:=2) rfl (xs:=flL 0 0) rfl rfl
    have lg:=row_loadN rg (n:=2) rfl
    have km:∀c,In H3.next He.next c→In H.next Hg.next c∧Hg.get c=He.get c:=fun c hc=>by
     have h1:=hc.1
     have h2:=hc.2
     exact⟨⟨om,om⟩,by rw[kg c om,Ef.old c h2]⟩
    simp only[sA,sB,seval,t3',t4,b0,mg,fin_tc,lg,OptP_some]
    exact⟨⟨_,C,rfl,z1.mono km,z2.mono km⟩,om,fun c hc=>by rw[kg c om,Ef.old c om,oe c hc]⟩
   | false=>
    obtain⟨Hg,mg,rg,ng,kg⟩:=row_storeN (re.same (Ef.old _ om)) (n:=2) rfl (xs:=flL 102 0) rfl rfl
    have lg:=row_loadN rg (n:=2) rfl
    simp only[sA,sB,seval,t3',t4,bn,mg,fin_tc,lg,OptP_some]
    exact⟨tt,om,fun c hc=>by rw[kg c om,Ef.old c om,oe c hc]⟩
  ·obtain⟨hr,he0⟩:=se
   have l7:oLoad false 1 He (cellR rb 10 7)=some (.int .i64 (e.1:Int)):=row_load hr rfl rfl
   have lf:oLoad true 2 He (cellR rb 10 7)=some (.agg (flL e.1 e.2)):=row_loadK hr (n:=10) rfl (i:=7) (k:=2) om
   have he':¬(e.1:Int)=0:=om
   obtain⟨Hg,mg,rg,ng,kg⟩:=row_storeN re (n:=2) rfl (xs:=flL e.1 e.2) rfl rfl
   have lg:=row_loadN rg (n:=2) rfl
   simp only[sA,sB,seval,t3',t4,nil_cell,fldA,fld0,l7,he',lf,mg,fin_tc,lg,OptP_some]
   exact⟨tt,om,fun c hc=>by rw[kg c om,oe c hc]⟩
 refine aw_loop (fun μ (T:Env) K=>∃o d' v n,T 3=cellR H.next 2 0∧T 4=cellR rb 10 0∧T 5=v∧GB H3.next K v n∧Sta rb s K o d'∧d'≤200∧Fp rb H3 K∧((∃m out w8,μ=2*m+1∧n=out.length∧out.length+m≤1000000∧GS H3.next K v out∧o=.ok w8∧WOk s w8∧d'=0∧pTop s m out w8=some rr)∨∃e,μ=0∧rr=.error e∧o=.error e)) μ0
  ⟨nextW s 0,0,nilS,0,by simp only[sA,sB,seval],by simp only[sA,sB,seval],by simp only[sA,sB,seval]; rfl,(GS.nil _ _).ga,s3',om,Fp.refl _ _,start⟩ ?_
 rintro μ T K ⟨o,d',v,n,t3',t4,t5,gK,sK,y2,FK,hK⟩
 have eK:=FK.next
 have tK:=t3.same (FK.old _ om om)
 have oK:∀c,c<H.next→K.get c=H.get c:=fun c hc=>by rw[FK.old c om om,k30 c hc]
 obtain⟨e,l,hr0,he⟩:=sK.cells
 have l7:oLoad false 1 K (cellR rb 10 7)=some (.int .i64 e):=row_load hr0 rfl rfl
 have l1:oLoad false 1 K (cellR rb 10 1)=some (.int .u8 ((oW o).k:Int)):=row_load hr0 rfl rfl
 rcases hK with⟨m,out,w8,rfl,rfl,hm,gE,rfl,ok8,rfl,hp8⟩ | ⟨f',rfl,hrf,rfl⟩
 rotate_left
 ·have hne:e≠0:=fun q=>by obtain⟨w,hw⟩:=he.1 q; simp at hw
  simp only[sA,sB,seval,t3',t4,t5,nil_cell,fldA,fld0,l7,hne]
  exact⟨by simp only[sA,sB,seval,t3'],by simp only[sA,sB,seval,t4],tK,eK,oK,.inr ⟨f',d',hrf,sK⟩⟩
 obtain rfl:=he.2 ⟨w8,rfl⟩
 have l1':oLoad false 1 K (cellR rb 10 1)=some (.int .u8 (w8.k:Int)):=l1
 cases m with
 | zero=>simp[pTop]at hp8
 | succ m=>
 unfold pTop at hp8
 by_cases hk:w8.k=5
 ·rw[if_pos hk]at hp8
  simp only[sJ]at hp8
  have hk':(w8.k:Int)=5:=om
  simp only[sA,sB,seval,t3',t4,t5,nil_cell,fldA,fld0,l7,l1',hk']
  exact⟨by simp only[sA,sB,seval,t3'],by simp only[sA,sB,seval,t4],tK,eK,oK,.inl ⟨out,w8,0,hp8.symm,tt,gE,sK⟩⟩
 rw[if_neg hk]at hp8
 have hk':¬(w8.k:Int)=5:=om
 obtain⟨r0,hr0'⟩:∃r0,pS s m .stmt 0 w8=some r0:=by
  cases hq:pS s m .stmt 0 w8 with
  | none=>rw[hq]at hp8; simp at hp8
  | some r=>exact⟨r,rfl⟩
 rw[hr0']at hp8
 simp only[sA,sB,seval,t3',t4,t5,nil_cell,fldA,fld0,l7,l1',hk']
 refine (liveS_ok rb s m om m rL K w8 0 r0 sK ok8 y2 om hr0').mono ?_
 rintro _ K1 ⟨xs,d1,o1,rfl,x9,z1,z2,sK1,FK1,hx⟩
 have eK1:=FK1.next
 have bm:=buildM (z:=[.int .u8 0,.str [],.int .u8 0,.str [],.int .i64 0,.slice none 0 (.known 0),.slice none 0 (.known 0),.slice none 0 (.known 0),.int .i64 0]) (xs:=xs) (m:=9) K1 rfl x9.len
 have hbv:Blk v (In H3.next K.next):=by
  obtain⟨C,_,q,_⟩:=gE
  exact q
 have nb:∀c,c<H3.next→Blk v (c≠·):=fun c hc=>hbv.mono fun b hb=>by have:=hb.1; omega
 have GK:=gE.keep eK1 fun c hc=>FK1.old c hc.2 (by have:=hc.1; omega)
 have fin:∀K2,(∀c,c<K1.next→Blk v (c≠·)→K2.get c=K1.get c)→K1.next≤K2.next→Sta rb s K2 o1 d1∧Fp rb H3 K2:=fun K2 q hn=>⟨sK1.same (q rb om (nb rb om)),om,fun c h1 h2=>by rw[q c om (nb c h1),FK1.old c om h2,FK.old c h1 h2]⟩
 rcases hx with⟨st,w9,rfl,rfl,rfl,ok9,h4⟩ | ⟨e,rfl,rfl⟩
 ·obtain⟨v',K2,a1,a2,a3,a4⟩:=GK.push h4 om om (hbv.mono fun c hc=>hc.2) om (bytes:=136) om om
  obtain⟨q1,q2⟩:=fin K2 a4 a3
  have ag2:=a2.ga
  rw[lA,List.length_cons,List.length_nil]at ag2
  simp only[sA,sB,seval,t3',t4,t5,bm,a1]
  exact⟨2*m+1,om,_,_,v',out.length+1,by simp only[sA,sB,seval,t3'],by simp only[sA,sB,seval,t4],by simp only[sA,sB,seval],ag2,q1,z2,q2,.inl ⟨m,out++[st],w9,rfl,by simp,by simp; omega,a2,rfl,ok9,rfl,hp8⟩⟩
 ·obtain⟨v',K2,a1,a2,a3,a4⟩:=GK.ga.push x9 om om (bytes:=136) om om
  obtain⟨q1,q2⟩:=fin K2 a4 a3
  simp only[sJ]at hp8
  simp only[sA,sB,seval,t3',t4,t5,bm,a1]
  exact⟨0,om,_,_,v',out.length+1,by simp only[sA,sB,seval,t3'],by simp only[sA,sB,seval,t4],by simp only[sA,sB,seval],a2,q1,z2,q2,.inr ⟨e,rfl,hp8.symm,rfl⟩⟩
open Go.Abs Go.Abs.S
theorem eq_fl(f g:Nat):aPf (.eqS false [(0,.int),(1,.int)]) [.agg (flL f g),.agg (flL f g)]=some (.bool true):=by
 simp[aPf,flL,aEqSs,aEqFs,fEq,fEqI,fEqS,eqF_eq]
theorem lnested1_spec(s:Bs){H:AHeap}:ACalls Tryz.prog natT 18 [.str s] H fun v H'=>v=.bool true∧Ext H.next H H':=by
 refine acalls_ofN rfl za18 rfl ?_
 obtain⟨e,l,hp,hf⟩:∃e l,(∀H,ACalls Tryz.prog natT 9 [.str s] H fun u H'=>(∃v,u=.tuple [v,.agg (flL e l)])∧Ext H.next H H')∧(∀H,ACalls Tryz.prog natT 10 [.str s] H fun u H'=>(∃v,u=.tuple [v,.agg (flL e l)])∧Ext H.next H H'):=by
  cases h:parseF s with
  | ok t=>
   refine⟨0,0,fun H=>(parse_ok h).mono ?_,fun H=>?_⟩
   ·rintro _ H' ⟨⟨v,C,rfl,_⟩,E⟩; exact⟨⟨v,rfl⟩,E⟩
   ·have:=fparse_spec s (H:=H)
    rw[h]at this
    refine this.mono ?_
    rintro _ H' ⟨⟨v,C,rfl,_⟩,E⟩; exact⟨⟨v,rfl⟩,E⟩
  | error f=>
   refine⟨f.1,f.2,fun H=>(parse_bad h).mono ?_,fun H=>?_⟩
   ·rintro _ H' ⟨rfl,E⟩; exact⟨⟨_,rfl⟩,E⟩
   ·have:=fparse_spec s (H:=H)
    rw[h]at this
    refine this.mono ?_
    rintro _ H' ⟨rfl,E⟩; exact⟨⟨_,rfl⟩,E⟩
 simp only[c18,sA,sB,seval]
 refine (hp H).mono ?_
 rintro _ H1 ⟨⟨v1,rfl⟩,E1⟩
 have n1:=E1.next
 obtain⟨Ha,H2,ma,m2,r2,n2,k2⟩:=keep_fl (H:=H1) e l
 simp only[sA,sB,seval,ext_0,ext_1,ma,m2]
 refine (hf H2).mono ?_
 rintro _ H3 ⟨⟨v2,rfl⟩,E3⟩
 have n3:=E3.next
 obtain⟨Hb,H4,mb,m4,r4,n4,k4⟩:=keep_fl (H:=H3) e l
 have w2:oLoad true 2 H4 (cellR H1.next 2 0)=some (.agg (flL e l)):=row_loadN (r2.same (by rw[k4 _ om,E3.old _ om])) rfl
 have w4:oLoad true 2 H4 (cellR H3.next 2 0)=some (.agg (flL e l)):=row_loadN r4 rfl
 simp only[sA,sB,seval,ext_0,ext_1,mb,m4,w2,w4,eq_fl]
 exact⟨tt,om,fun c hc=>by rw[k4 c om,E3.old c om,k2 c om,E1.old c hc]⟩
theorem pick_spec{H:AHeap}(x:Int)(m:Nat)(h0:0<m)(hm:m≤1000000):ACalls Tryz.prog natT 17 [.int .i64 x,.int .i64 (m:Int)] H fun v H'=>(∃r:Nat,r<m∧v=.int .i64 (r:Int))∧H=H':=by
 refine acalls_ofN rfl za17 rfl ?_
 have h0':¬(m:Int)<1:=om
 have hlt:=Int.tmod_lt_of_pos x (show (0:Int)<(m:Int) by omega)
 have hgt:=Int.lt_tmod_of_pos x (show (0:Int)<(m:Int) by omega)
 have br:=bin_rem .i64 x (m:Int) om
 generalize x.tmod (m:Int)=r at *
 by_cases hr:r<0
 ·have w2:IntKind.i64.wrap (r+(m:Int))=r+(m:Int):=by rw[wrap64 om om]
  simp only[c17,sA,sB,seval,h0',br,hr,w2]
  exact⟨⟨(r+(m:Int)).toNat,om,by congr 1; omega⟩,tt⟩
 ·simp only[c17,sA,sB,seval,h0',br,hr]
  exact⟨⟨r.toNat,om,by congr 1; omega⟩,tt⟩
theorem lnested_spec{H:AHeap}(x:Int)(h1:1<H.next)(hG:Glo H 1 powL):ACalls Tryz.prog natT 4 [.int .i64 x] H fun v H'=>v=.bool true∧Ext H.next H H':=by
 refine acalls_ofN rfl za4 rfl ?_
 have c201:(201:Int)=((201:Nat):Int):=rfl
 simp only[c4,sA,sB,seval]
 rw[c201]
 refine (pick_spec x 201 om om).mono ?_
 rintro _ _ ⟨⟨r,hr,rfl⟩,rfl⟩
 have w30:IntKind.i64.wrap (30+(r:Int))=((30+r:Nat):Int):=w64
 obtain⟨n,hn⟩:∃n,n=30+r:=⟨_,rfl⟩
 rw[← hn]at w30
 simp only[sA,sB,seval,w30]
 refine aw_loop (fun m (T:Env) K=>H=K∧∃(i:Nat) (a b c d e:Bs),m=n-i∧i≤n∧T 0=.int .i64 (n:Int)∧T 3=.str a∧T 4=.str b∧T 5=.str c∧T 6=.str d∧T 7=.str e∧T 8=.int .i64 (i:Int)∧a.length≤8*i∧b.length≤8*i∧c.length≤8*i∧d.length≤8*i∧e.length≤8*i) n
  ⟨rfl,0,[],[],[],[],[],rfl,Nat.zero_le _,by simp only[sA,sB,seval],by simp only[sA,sB,seval],by simp only[sA,sB,seval],by simp only[sA,sB,seval],by simp only[sA,sB,seval],by simp only[sA,sB,seval],by simp only[sA,sB,seval]; try rfl,by simp,by simp,by simp,by simp,by simp⟩ ?_
 rintro m T _ ⟨rfl,i,a,b,c,d,e,rfl,hi,t0,t3,t4,t5,t6,t7,t8,ha,hb,hc,hd,he⟩
 have wi:IntKind.i64.wrap ((i:Int)+1)=((i+1:Nat):Int):=w64
 by_cases hlt:i<n
 ·have hlt':(i:Int)<(n:Int):=om
  have z1:aBin .add (.str a) (.str [40])=some (.str (a++[40])):=str_add (by simp; omega)
  have z2:aBin .add (.str b) (.str [45])=some (.str (b++[45])):=str_add (by simp; omega)
  have z3:aBin .add (.str c) (.str [105,102,32,40,97,41,32,123])=some (.str (c++[105,102,32,40,97,41,32,123])):=str_add (by simp; omega)
  have z4:aBin .add (.str d) (.str [125])=some (.str (d++[125])):=str_add (by simp; omega)
  have z5:aBin .add (.str e) (.str [41])=some (.str (e++[41])):=str_add (by simp; omega)
  simp only[sA,sB,seval,t0,t3,t4,t5,t6,t7,t8,hlt',z1,z2,z3,z4,z5,wi]
  exact⟨n-(i+1),om,tt,i+1,_,_,_,_,_,rfl,om,tt,rfl,rfl,rfl,rfl,rfl,tt,by simp; omega,by simp; omega,by simp; omega,by simp; omega,by simp; omega⟩
 have hlt':¬(i:Int)<(n:Int):=om
 have br:=bin_rem .i64 (n:Int) 41 om
 rw[show (n:Int).tmod 41=((n % 41:Nat):Int) from rfl]at br
 have w480:IntKind.i64.wrap (480+((n % 41:Nat):Int))=((480+n % 41:Nat):Int):=w64
 obtain⟨q,hq⟩:∃q,q=480+n % 41:=⟨_,rfl⟩
 rw[← hq]at w480
 simp only[sA,sB,seval,t0,t3,t4,t5,t6,t7,t8,hlt']
 refine aw_loop (fun m (T:Env) K=>H=K∧∃(j:Nat) (f:Bs),m=q-j∧j≤q∧T 0=.int .i64 (n:Int)∧T 3=.str a∧T 4=.str b∧T 5=.str c∧T 6=.str d∧T 7=.str e∧T 9=.str f∧T 10=.int .i64 (j:Int)∧f.length≤9*j) q
  ⟨rfl,0,[],rfl,Nat.zero_le _,by simp only[sA,sB,seval,t0],by simp only[sA,sB,seval,t3],by simp only[sA,sB,seval,t4],by simp only[sA,sB,seval,t5],by simp only[sA,sB,seval,t6],by simp only[sA,sB,seval,t7],by simp only[sA,sB,seval],by simp only[sA,sB,seval]; try rfl,by simp⟩ ?_
 rintro m T _ ⟨rfl,j,f,rfl,hj,t0,t3,t4,t5,t6,t7,t9,t10,hf⟩
 have wj:IntKind.i64.wrap ((j:Int)+1)=((j+1:Nat):Int):=w64
 by_cases hlt:j<q
 ·have hlt':(j:Int)<(q:Int):=om
  have z1:aBin .add (.str f) (.str [114,101,116,117,114,110,32,49,59])=some (.str (f++[114,101,116,117,114,110,32,49,59])):=str_add (by simp; omega)
  simp only[sA,sB,seval,t0,t3,t4,t5,t6,t7,t9,t10,br,w480,hlt',z1,wj]
  exact⟨q-(j+1),om,tt,j+1,_,rfl,om,tt,tt,tt,tt,tt,tt,rfl,tt,by simp; omega⟩
 have hlt':¬(j:Int)<(q:Int):=om
 have y1:aBin .add (.str [114,101,116,117,114,110,32]) (.str a)=some (.str ([114,101,116,117,114,110,32]++a)):=str_add (by simp; omega)
 obtain⟨A,hA⟩:∃A:Bs,A=[114,101,116,117,114,110,32]++a:=⟨_,rfl⟩
 rw[← hA]at y1
 have lA:A.length=a.length+7:=by rw[hA]; simp
 have y2:aBin .add (.str A) (.str [49])=some (.str (A++[49])):=str_add (by simp; omega)
 have y3:aBin .add (.str (A++[49])) (.str e)=some (.str (A++[49]++e)):=str_add (by simp; omega)
 have y4:aBin .add (.str (A++[49]++e)) (.str [59])=some (.str (A++[49]++e++[59])):=str_add (by simp; omega)
 have y5:aBin .add (.str [114,101,116,117,114,110,32]) (.str b)=some (.str ([114,101,116,117,114,110,32]++b)):=str_add (by simp; omega)
 obtain⟨B,hB⟩:∃B:Bs,B=[114,101,116,117,114,110,32]++b:=⟨_,rfl⟩
 rw[← hB]at y5
 have lB:B.length=b.length+7:=by rw[hB]; simp
 have y6:aBin .add (.str B) (.str [49,59])=some (.str (B++[49,59])):=str_add (by simp; omega)
 have y7:aBin .add (.str c) (.str d)=some (.str (c++d)):=str_add om
 simp only[sA,sB,seval,t0,t3,t4,t5,t6,t7,t9,t10,br,w480,hlt',y1,y2,y3,y4]
 refine (lnested1_spec _).mono ?_
 rintro _ K1 ⟨rfl,E1⟩
 simp only[sA,sB,seval,t0,t3,t4,t5,t6,t7,t9,t10,y5,y6]
 refine (lnested1_spec _).mono ?_
 rintro _ K2 ⟨rfl,E2⟩
 have E02:=E1.trans (E2.less E1.next)
 simp only[sA,sB,seval,t0,t3,t4,t5,t6,t7,t9,t10,y7]
 refine (lnested1_spec _).mono ?_
 rintro _ K3 ⟨rfl,E3⟩
 have E03:=E02.trans (E3.less E02.next)
 simp only[sA,sB,seval,t0,t3,t4,t5,t6,t7,t9,t10]
 refine (lnested1_spec _).mono ?_
 rintro _ K4 ⟨rfl,E4⟩
 have E04:=E03.trans (E4.less E03.next)
 simp only[sA,sB,seval]
 refine (awake_spec (by have:=E04.next; omega) (by unfold Glo; rw[E04.old 1 h1]; exact hG)).mono ?_
 rintro _ K5 ⟨rfl,E5⟩
 simp only[sA,sB,seval]
 exact⟨tt,E04.trans (E5.less E04.next)⟩
end Go.Proofs.Wo
namespace Go.Proofs
open Go.Shelf
def Tryz.laysM316_ren:Go.Shelf.Ren:=⟨fun | 316=>153 | n=>n,fun | 9=>9 | 3=>3 | 4=>4 | 37=>80 | 0=>0 | 127=>206 | 5=>5 | n=>n,fun | n=>n⟩
theorem Tryz.laysM316:Go.Proofs.LaysM.n316 Tryz.prog Tryz.laysM316_ren:={
 mixed:=by kernel_rfl
 f316:=Tryz.func153.trans (congrArg some (by kernel_rfl))
 t0:=Tryz.underlying0
 a0:=Tryz.isAgg0
 z0:=Tryz.sizeOf0
 v0:=Tryz.zeroValue0
 t3:=Tryz.underlying3
 a3:=Tryz.isAgg3
 z3:=Tryz.sizeOf3
 v3:=Tryz.zeroValue3
 t4:=Tryz.underlying4
 a4:=Tryz.isAgg4
 z4:=Tryz.sizeOf4
 v4:=Tryz.zeroValue4
 t9:=Tryz.underlying9
 a9:=Tryz.isAgg9
 z9:=Tryz.sizeOf9
 v9:=Tryz.zeroValue9
 t37:=Tryz.underlying80
 a37:=Tryz.isAgg80
 z37:=Tryz.sizeOf80
 v37:=Tryz.zeroValue80
 t127:=Tryz.underlying206
 a127:=Tryz.isAgg206
 z127:=Tryz.sizeOf206
 v127:=Tryz.zeroValue206
 t5:=Tryz.underlying5
 a5:=Tryz.isAgg5
 z5:=Tryz.sizeOf5
 v5:=Tryz.zeroValue5
 i0:=by kernel_rfl
 i3:=by kernel_rfl
 i4:=by kernel_rfl
 i5:=by kernel_rfl
 i9:=by kernel_rfl
 i37:=by kernel_rfl
 i127:=by kernel_rfl }
open Go.RowKit in
theorem Tryz.stringslite_Clone(s:ByteArray)(w:World)(hlim:s.size≤281474976710656) :
  Calls Tryz.prog 153 #[.string s] w fun e w'=>e=.returned (.string s)∧Below w.heap.size w w':=Any.stringslite_Clone Tryz.laysM316 s w hlim
end Go.Proofs
namespace Go.Proofs.Wo
open Go.Abs Go.Abs.S
theorem nat_ok:NatOK Tryz.prog nat:=by
 refine⟨fun f h=>?_,fun f args H v H' _ hr Prot w0 ρ w vs R hv=>?_⟩
 ·obtain rfl:f=153:=Nat.eq_of_beq_eq_true h
  kernel_rfl
 ·show Calls Tryz.prog f vs w _
  have hr2:(bif Nat.beq f 153 then aClone H args else none)=some (v,H'):=hr
  cases hb:Nat.beq f 153 with
  | false=>rw[hb]at hr2; simp at hr2
  | true=>
   obtain rfl:f=153:=Nat.eq_of_beq_eq_true hb
   rw[hb,cond_true]at hr2
   unfold aClone at hr2
   split at hr2 <;> first | (simp at hr2; done) | skip
   rename_i s
   cases hl:Nat.ble s.length 281474976710656 with
   | false=>rw[hl]at hr2; simp at hr2
   | true=>
    rw[hl]at hr2
    simp only[cond_true,sJ,pJ]at hr2
    obtain⟨rfl,rfl⟩:=hr2
    simp only[VRels,VRel]at hv
    obtain⟨v1,r1,e1,rfl,rfl⟩:=hv
    have hvs:vs=#[.string (strOf s)]:=Array.toList_inj.1 (by simpa using e1)
    subst hvs
    have hsz:(strOf s).size=s.length:=by simp[strOf,ByteArray.size]
    have:=Nat.le_of_ble_eq_true hl
    exact (Tryz.stringslite_Clone (strOf s) w (by rw[hsz]; exact this)).mono fun e w' ⟨he,hk⟩=>⟨ρ,_,Pl.le_refl _,he,R.keep hk,by simp only[VRel]⟩
theorem natT_ok:NatOK Tryz.prog natT:=natM_ok nat_ok mdT
end Go.Proofs.Wo
