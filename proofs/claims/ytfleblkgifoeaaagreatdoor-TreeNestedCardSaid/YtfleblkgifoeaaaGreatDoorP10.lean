/- Part of a proof (YP3 YP4 YP5 YP6 YP7 YP8 YP9 YC3); no condition. -/
import Derived.Test.YtfleblkgifoeaaaGreatDoorProg
import Derived.KernelRfl
import Derived.Test.YtfleblkgifoeaaaGreatDoorP7
import Derived.Test.YtfleblkgifoeaaaGreatDoorP9
set_option linter.unusedSimpArgs false
set_option linter.unusedVariables false
set_option linter.unnecessarySimpa false
namespace Go.Proofs.Wo
open Go.Abs Go.Abs.S
def Rul(n pb:Nat)(H:AHeap):Nat→AVal→Prop
 | 0,v=>v=.func (.func 30) [cellR pb 11 0] []
 | k+1,v=>∃c0 c1 c2 c3 b m vb,v=.func (.func 57) [] [cellR c0 1 0,cellR c1 1 0,cellR c2 1 0,cellR c3 1 0]∧Row H c0 [vb]∧Row H c1 [cellR pb 11 0]∧Row H c2 [slR b m (.known m)]∧Row H c3 [.bool (!Nat.beq (k+1) 3)]∧Row H b ((lvl (k+1)).map AVal.str)∧((lvl (k+1)).map AVal.str).length=m∧(∀c,c=c0∨c=c1∨c=c2∨c=c3∨c=b→c<n∧c≠pb)∧Rul n pb H k vb
theorem Rul.keep{n pb:Nat}{H H':AHeap}(q:∀c,c<n→c≠pb→H'.get c=H.get c):∀{k:Nat} {v:AVal},Rul n pb H k v→Rul n pb H' k v
 | 0,_,h=>h
 | k+1,_,h=>by
  obtain⟨c0,c1,c2,c3,b,m,vb,h1,h2,h3,h4,h5,h6,h7,h8,h9⟩:=h
  have q':∀c,c=c0∨c=c1∨c=c2∨c=c3∨c=b→H'.get c=H.get c:=fun c hc=>q c (h8 c hc).1 (h8 c hc).2
  exact⟨c0,c1,c2,c3,b,m,vb,h1,h2.same (q' _ (by simp)),h3.same (q' _ (by simp)),h4.same (q' _ (by simp)),h5.same (q' _ (by simp)),h6.same (q' _ (by simp)),h7,h8,Rul.keep q h9⟩
theorem Rul.more{n n' pb:Nat}{H:AHeap}(hn:n≤n'):∀{k:Nat} {v:AVal},Rul n pb H k v→Rul n' pb H k v
 | 0,_,h=>h
 | k+1,_,h=>by
  obtain⟨c0,c1,c2,c3,b,m,vb,h1,h2,h3,h4,h5,h6,h7,h8,h9⟩:=h
  exact⟨c0,c1,c2,c3,b,m,vb,h1,h2,h3,h4,h5,h6,h7,fun c hc=>⟨Nat.lt_of_lt_of_le (h8 c hc).1 hn,(h8 c hc).2⟩,Rul.more hn h9⟩
structure PA(n pb:Nat)(s:Bs)(H:AHeap)(w:Wd)(g:Nat)(x y:Int)(orv:AVal):Prop where
 row:Row H pb (pObj s w g x y orv)
 hpb:pb<n
 hn:n≤H.next
 or:Rul n pb H 5 orv
 ok:WOk s w
 hg:g≤200
theorem PA.fwd{n pb:Nat}{s:Bs}{H H':AHeap}{w w':Wd}{g g':Nat}{x y x' y':Int}{orv:AVal}(h:PA n pb s H w g x y orv)(f:Fp pb H H')(r:Row H' pb (pObj s w' g' x' y' orv))(hw:WOk s w')(hg:g'≤200):PA n pb s H' w' g' x' y' orv:=
 ⟨r,h.hpb,Nat.le_trans h.hn f.next,h.or.keep fun c hc hp=>f.old c (Nat.lt_of_lt_of_le hc h.hn) hp,hw,hg⟩
theorem PA.lt{n pb:Nat}{s:Bs}{H:AHeap}{w:Wd}{g:Nat}{x y:Int}{orv:AVal}(h:PA n pb s H w g x y orv):pb<H.next:=Nat.lt_of_lt_of_le h.hpb h.hn
theorem PA.en{n pb:Nat}{s:Bs}{H:AHeap}{w:Wd}{g:Nat}{x y:Int}{orv:AVal}(h:PA n pb s H w g x y orv):w.en≤9223372036854775807:=by
 have h1:=h.ok.en
 have h2:=h.ok.long
 omega
def OutE(pb:Nat)(s:Bs)(g:Nat)(x y:Int)(orv:AVal)(H:AHeap)(r:Res Ex)(u:AVal)(H':AHeap):Prop:=
 (match r with
 | .ok (e,w')=>∃xs,u=.tuple [.agg xs,.bool true]∧XE (In H.next H'.next) H' e xs∧Row H' pb (pObj s w' g x y orv)∧WOk s w'
 | .error e=>∃xs w',u=.tuple [.agg xs,.bool false]∧xs.length=4∧(xs.all AVal.one=true∧aeqs xs xs=true)∧Row H' pb (pObj s w' g e.1 e.2 orv))∧Fp pb H H'
def OutA(pb:Nat)(s:Bs)(g:Nat)(x y:Int)(orv:AVal)(S:Bs)(H:AHeap)(r:Res Ex)(u:AVal)(H':AHeap):Prop:=
 (match r with
 | .ok (e,w')=>∃kids v C,e=.mk 4 S 0 kids∧u=.tuple [v,.bool true]∧SlK (In H.next H'.next) H' 4 v kids.length C∧XEs (In H.next H'.next) H' kids C∧Row H' pb (pObj s w' g x y orv)∧WOk s w'
 | .error e=>∃v w',u=.tuple [v,.bool false]∧(v.one=true∧aeq v v=true)∧Row H' pb (pObj s w' g e.1 e.2 orv))∧Fp pb H H'
def CV(v:AVal)(H:AHeap)(K:AVal→AHeap→Prop):Prop:=callvP (ACalls Tryz.prog natT) v [] H K
theorem CV.mono{v:AVal}{H:AHeap}{K K':AVal→AHeap→Prop}(h:CV v H K)(k:∀u H',K u H'→K' u H'):CV v H K':=by
 obtain⟨g,a,b,h1,h2,h3⟩:=h
 exact⟨g,a,b,h1,h2,h3.mono k⟩
def RuleP(n pb:Nat)(s:Bs)(f k:Nat):Prop:=∀(H:AHeap) (w:Wd) (g:Nat) (x y:Int) (orv v:AVal) (r:Res Ex),PA n pb s H w g x y orv→Rul n pb H k v→pE s f (.rule k) g w=some r→CV v H (OutE pb s g x y orv H r)
def PrimP(n pb:Nat)(s:Bs)(f:Nat):Prop:=∀(H:AHeap) (w:Wd) (g:Nat) (x y:Int) (orv:AVal) (r:Res Ex),PA n pb s H w g x y orv→pE s f .prim g w=some r→ACalls Tryz.prog natT 61 [cellR pb 11 0] H (OutE pb s g x y orv H r)
def argsW(s:Bs)(pe:NT→Nat→Wd→Option (Res Ex))(S:Bs)(g:Nat)(w:Wd):Option (Res Ex):=onW (stepW s w) fun w2=>if sgn w2 [[41]] then onW (stepW s w2) fun w3=>fineR (.mk 4 S 0 []) w3 else pe (.args S []) g w2
def ArgsP(n pb:Nat)(s:Bs)(f:Nat):Prop:=∀(S:Bs) (H:AHeap) (w:Wd) (g:Nat) (x y:Int) (orv:AVal) (r:Res Ex),PA n pb s H w g x y orv→sgn w [[40]]=true→argsW s (pE s f) S g w=some r→ACalls Tryz.prog natT 100 [cellR pb 11 0] H (OutA pb s g x y orv S H r)
theorem onW_ok{α:Type}{o:Except Flt Wd}{f:Wd→Option (Res α)}{r:Res α}(h:onW o f=some r):(∃e,o=.error e∧r=.error e)∨∃w,o=.ok w∧f w=some r:=by
 cases o with
 | error e=>simp only[onW,sJ]at h; exact .inl ⟨e,rfl,h.symm⟩
 | ok w=>exact .inr ⟨w,rfl,h⟩
theorem onR_ok{α β:Type}{o:Option (Res α)}{f:α→Wd→Option (Res β)}{r:Res β}(h:onR o f=some r):(∃e,o=some (.error e)∧r=.error e)∨∃a w,o=some (.ok (a,w))∧f a w=some r:=by
 cases o with
 | none=>simp[onR]at h
 | some o=>
  cases o with
  | error e=>simp only[onR,sJ]at h; exact .inl ⟨e,rfl,h.symm⟩
  | ok p=>obtain⟨a,w⟩:=p; exact .inr ⟨a,w,rfl,h⟩
theorem pf_isU(x:AVal):aPf .isU [x]=some (.bool (isU x)):=_root_.id rfl
theorem isU_func(f:Fn)(a b:List AVal):isU (.func f a b)=false:=_root_.id rfl
theorem isU_0:isU (.tuple [])=true:=_root_.id rfl
theorem pf_isF1(g:Nat)(x:AVal):aPf (.isF g 1) [.func (.func g) [] [x]]=some (.bool true):=by
 simp[aPf,aIsF]
theorem pf_capt1(f:Fn)(x:AVal):aPf (.capt 0) [.func f [] [x]]=some x:=_root_.id rfl
theorem pf_dset(f:Nat)(a b:List AVal):aPf .dset [.tuple [],.func (.func f) a b]=some (.func (.func f) a b):=_root_.id rfl
theorem pf_tup2(x y:AVal):aPf .tup [x,y]=some (.tuple [x,y]):=_root_.id rfl
theorem dun_spec{H:AHeap}{pb c:Nat}{s:Bs}{w:Wd}{g:Nat}{x y:Int}{orv:AVal}(hc:Row H c [cellR pb 11 0])(hr:Row H pb (pObj s w ((g+1:Nat):Int) x y orv))(hg:g≤1000):ACalls Tryz.prog natT 3132 [cellR c 1 0] H fun _ H'=>Row H' pb (pObj s w (g:Int) x y orv)∧H'.next=H.next∧∀k,k≠pb→H'.get k=H.get k:=by
 refine acalls_ofE rfl za3132 rfl ?_
 have lc:oLoad false 1 H (cellR c 1 0)=some (cellR pb 11 0):=row_load hc rfl rfl
 have l7:oLoad false 1 H (cellR pb 11 7)=some (.int .i64 ((g+1:Nat):Int)):=row_load hr rfl rfl
 have wk:IntKind.i64.wrap (((g+1:Nat):Int)-1)=(g:Int):=w64
 obtain⟨H5,m5,r5,n5,k5⟩:=row_st hr (n:=11) rfl (i:=7) om (x:=.int .i64 (g:Int)) rfl (l':=pObj s w (g:Int) x y orv) rfl
 simp only[c3132,sA,sB,seval,lc,nil_cell,fldA,l7,wk,m5]
 exact⟨[],rfl,r5,n5,k5⟩
theorem cellR_cells(b n i:Nat):(cellR b n i).cells=[cellR b n i]:=_root_.id rfl
theorem bld0:aBuild [.int .u8 0,.str [],.int .i64 0,.slice none 0 (.known 0)] []=some (.agg [.int .u8 0,.str [],.int .i64 0,.slice none 0 (.known 0)]):=_root_.id rfl
theorem bldOp(S:Bs)(v:AVal)(hv:v.one=true):aBuild [.int .u8 0,.str [],.int .i64 0,.slice none 0 (.known 0)] [(0,1,.int .u8 3),(1,1,.str S),(3,1,v)]=some (.agg [.int .u8 3,.str S,.int .i64 0,v]):=by
 cases v <;> first | rfl | (simp[AVal.one]at hv)
theorem sls2(H:AHeap)(a b:Bs):aBuildSl 2 [.str []] H [(0,1,.str a),(1,1,.str b)]=some (slR H.next 2 (.known 2),H.push (.cells [.str a,.str b] 0 false)):=_root_.id rfl
theorem unary_ok{n pb:Nat}{s:Bs}{f:Nat}(ihr:RuleP n pb s f 0)(ihp:PrimP n pb s f):RuleP n pb s (f+1) 0:=by
 intro H w g x y orv v r A hv hr
 rw[show v=.func (.func 30) [cellR pb 11 0] [] from hv]
 show callvP _ _ _ _ _
 rw[callvP_func _ _ _ _ _ dD]
 refine acalls_ofE rfl za30 rfl ?_
 rw[pE_succ]at hr
 simp only[stepE]at hr
 have hlt:=A.lt
 obtain⟨H1,m1,r1,n1,k1⟩:=row_newL H [cellR pb 11 0] (n:=1) rfl
 obtain⟨H2,m2,r2,n2,k2⟩:=row_newL H1 [.int .u8 0,.str [],.int .i64 0,.slice none 0 (.known 0)] (n:=4) rfl
 have g41:argE ([cellR pb 11 0]++[]++[]) 41=.tuple []:=rfl
 have g42:argE ([cellR pb 11 0]++[]++[]) 42=.tuple []:=rfl
 have F2:Fp pb H H2:=⟨om,fun c hc _=>by rw[k2 c om,k1 c om]⟩
 have A2:=A.fwd F2 (A.row.same (by rw[k2 pb om,k1 pb om])) A.ok A.hg
 have c1:Row H2 H.next [cellR pb 11 0]:=r1.same (k2 _ om)
 have l1:∀{K:AHeap},Fp pb H2 K→oLoad false 1 K (cellR H.next 1 0)=some (cellR pb 11 0):=fun q=>row_load (c1.same (q.old _ om om)) rfl rfl
 have l1':=l1 (Fp.refl pb H2)
 have b0:=bld0
 simp only[List.nil_append,List.cons_append,List.append_nil]at g41 g42
 by_cases hg:200≤g
 ·rw[if_pos hg]at hr
  simp only[badR,sJ]at hr
  subst hr
  simp only[List.nil_append,List.cons_append,List.append_nil,c30,sA,sB,seval,cellR_cells,m1,m2,l1']
  refine (pbegin_no A2.row hg).mono ?_
  rintro _ H3 ⟨rfl,r3,F3⟩
  obtain⟨H4,m4,r4,n4,k4⟩:=row_storeN (r2.same (F3.old _ om om)) (n:=4) rfl (xs:=[.int .u8 0,.str [],.int .i64 0,.slice none 0 (.known 0)]) rfl rfl
  have l4:=row_loadN r4 (n:=4) rfl
  have f3:=F3.next
  simp only[sA,sB,seval,b0,m4,g41,g42,pf_isU,isU_0,l4,pf_tup2]
  refine⟨⟨_,w,tt,rfl,⟨rfl,rfl⟩,r3.same (k4 _ om)⟩,om,fun c hc hp=>by rw[k4 c om,F3.old c om hp,F2.old c hc hp]⟩
 rw[if_neg hg]at hr
 simp only[List.nil_append,List.cons_append,List.append_nil,c30,sA,sB,seval,cellR_cells,m1,m2,l1']
 refine (pbegin_ok A2.row hg).mono ?_
 rintro _ H3 ⟨rfl,r3,F3,n3⟩
 have A3:=A2.fwd F3 r3 A.ok om
 have l3:=l1 F3
 have F4:Fp pb H3 (H3.push (.cells [.str [45],.str [33]] 0 false)):=⟨by rw[push_next]; omega,fun c hc _=>get_push_lt hc⟩
 have A4:=A3.fwd F4 (r3.same (get_push_lt A3.lt)) A.ok om
 have c4:Cel (H3.push (.cells [.str [45],.str [33]] 0 false)).next (H3.push (.cells [.str [45],.str [33]] 0 false)) (slR H3.next 2 (.known 2)) ([[45],[33]].map AVal.str):=(row_push H3 [.str [45],.str [33]]).cel rfl (Nat.lt_succ_self _)
 simp only[sA,sB,seval,g42,pf_dset,l3,sls2]
 refine (pis_spec A4.row c4 (by simp)).mono ?_
 rintro _ _ ⟨rfl,rfl⟩
 have l4:=l1 (F3.trans F4)
 have F24:=F3.trans F4
 generalize H3.push (.cells [.str [45],.str [33]] 0 false)=H4 at *
 have e4:=F24.next
 cases hs:sgn w [[45],[33]] with
 | false=>
  rw[if_neg (by rw[hs]; simp)]at hr
  simp only[sA,sB,seval,l4]
  refine (ihp H4 w (g+1) x y orv r A4 hr).mono ?_
  rintro u H5 ⟨ho,F5⟩
  have e5:=F5.next
  have F25:=F24.trans F5
  have r2':Row H5 H1.next _:=r2.same (F25.old _ om om)
  have fin:∀(xs:List AVal),xs.length=4→xs.all AVal.one=true→∃H6,oStore 4 H5 (cellR H1.next 4 0) (.agg xs)=some H6∧Row H6 H1.next xs∧H6.next=H5.next∧∀c,c≠H1.next→H6.get c=H5.get c:=fun xs h1 h2=>row_storeN r2' (n:=4) rfl h1 h2
  cases r with
  | error e=>
   obtain⟨xs,w',rfl,x1,⟨x2,x3⟩,r5⟩:=ho
   obtain⟨H6,m6,r6,n6,k6⟩:=fin xs x1 x2
   simp only[sA,sB,seval,ext_0,ext_1,m6,pf_isU,isU_func,g41,isU_0,pf_isF1,pf_capt1]
   refine (dun_spec (c1.same (by rw[k6 _ om,F25.old _ om om])) (r5.same (k6 _ om)) om).mono ?_
   rintro _ H7 ⟨r7,n7,k7⟩
   have l7:=row_loadN (r6.same (k7 _ om)) x1
   simp only[sA,sB,seval,l7,pf_tup2]
   exact⟨⟨xs,w',tt,x1,⟨x2,x3⟩,r7⟩,om,fun c hc hp=>by rw[k7 c hp,k6 c om,F25.old c om hp,F2.old c hc hp]⟩
  | ok p=>
   obtain⟨e,w'⟩:=p
   obtain⟨xs,rfl,x1,r5,o5⟩:=ho
   obtain⟨H6,m6,r6,n6,k6⟩:=fin xs x1.len x1.one
   simp only[sA,sB,seval,ext_0,ext_1,m6,pf_isU,isU_func,g41,isU_0,pf_isF1,pf_capt1]
   refine (dun_spec (c1.same (by rw[k6 _ om,F25.old _ om om])) (r5.same (k6 _ om)) om).mono ?_
   rintro _ H7 ⟨r7,n7,k7⟩
   have l7:=row_loadN (r6.same (k7 _ om)) x1.len
   simp only[sA,sB,seval,l7,pf_tup2]
   refine⟨⟨xs,tt,x1.mono fun b hb=>?_,r7,o5⟩,om,fun c hc hp=>by rw[k7 c hp,k6 c om,F25.old c om hp,F2.old c hc hp]⟩
   have h1:=hb.1
   have h2:=hb.2
   exact⟨⟨om,om⟩,by rw[k7 b om,k6 b om]⟩
 | true=>
  rw[if_pos hs]at hr
  have l2:oLoad false 1 H4 (cellR pb 11 2)=some (.str w.S):=row_load A4.row rfl rfl
  simp only[sA,sB,seval,l4,nil_cell,fldA,l2]
  refine (pstep_spec A4.row A4.lt A4.en).mono ?_
  rintro u H5 ⟨ho,F5⟩
  have e5:=F5.next
  have F25:=F24.trans F5
  have l5:=l1 F25
  rcases onW_ok hr with⟨e,he,rfl⟩ | ⟨w1,he,hr⟩
  ·rw[he]at ho
   obtain⟨rfl,r5⟩:=ho
   obtain⟨H6,m6,r6,n6,k6⟩:=row_storeN (r2.same (F25.old _ om om)) (n:=4) rfl (xs:=[.int .u8 0,.str [],.int .i64 0,.slice none 0 (.known 0)]) rfl rfl
   simp only[sA,sB,seval,b0,m6,pf_isU,isU_func,g41,isU_0,pf_isF1,pf_capt1]
   refine (dun_spec (c1.same (by rw[k6 _ om,F25.old _ om om])) (r5.same (k6 _ om)) om).mono ?_
   rintro _ H7 ⟨r7,n7,k7⟩
   have l7:=row_loadN (r6.same (k7 _ om)) (n:=4) rfl
   simp only[sA,sB,seval,l7,pf_tup2]
   exact⟨⟨_,w,tt,rfl,⟨rfl,rfl⟩,r7⟩,om,fun c hc hp=>by rw[k7 c hp,k6 c om,F25.old c om hp,F2.old c hc hp]⟩
  rw[he]at ho
  obtain⟨rfl,r5⟩:=ho
  have A5:=A4.fwd F5 r5 (stepW_ok he A.ok (by rw[sgn_k hs]; omega)).1 om
  simp only[sA,sB,seval,l5]
  have hc:∀{r':Res Ex},pE s f (.rule 0) (g+1) w1=some r'→ACalls Tryz.prog natT 30 [cellR pb 11 0] H5 (OutE pb s ((g+1:Nat)) x y orv H5 r'):=by
   intro r' h'
   have:=ihr H5 w1 (g+1) x y orv _ r' A5 rfl h'
   rw[CV,callvP_func _ _ _ _ _ dD]at this
   exact this
  rcases onR_ok hr with⟨e,he2,rfl⟩ | ⟨e1,w2,he2,hr⟩
  ·refine (hc he2).mono ?_
   rintro u H6 ⟨⟨xs,w',rfl,x1,⟨x2,_⟩,r6⟩,F6⟩
   have e6:=F6.next
   have F26:=F25.trans F6
   obtain⟨H7,m7,r7,n7,k7⟩:=row_newL H6 [.int .u8 0,.str [],.int .i64 0,.slice none 0 (.known 0)] (n:=4) rfl
   obtain⟨H8,m8,r8,n8,k8⟩:=row_storeN r7 (n:=4) rfl x1 x2
   obtain⟨H9,m9,r9,n9,k9⟩:=row_storeN (r2.same (H':=H8) (by rw[k8 _ om,k7 _ om,F26.old _ om om])) (n:=4) rfl (xs:=[.int .u8 0,.str [],.int .i64 0,.slice none 0 (.known 0)]) rfl rfl
   have e29:∀c,c<H2.next→c≠pb→c≠H1.next→H9.get c=H2.get c:=fun c h1 h2 h3=>by rw[k9 c h3,k8 c om,k7 c om,F26.old c h1 h2]
   simp only[sA,sB,seval,ext_0,ext_1,m7,m8,b0,m9,pf_isU,isU_func,g41,isU_0,pf_isF1,pf_capt1]
   refine (dun_spec (c1.same (e29 _ om om om)) (r6.same (by rw[k9 _ om,k8 _ om,k7 _ om])) om).mono ?_
   rintro _ Ha ⟨ra,na,ka⟩
   have la:=row_loadN (r9.same (ka _ om)) (n:=4) rfl
   simp only[sA,sB,seval,la,pf_tup2]
   exact⟨⟨_,w',tt,rfl,⟨rfl,rfl⟩,ra⟩,om,fun c hc hp=>by rw[ka c hp,e29 c om hp om,F2.old c hc hp]⟩
  simp only[fineR,sJ]at hr
  subst hr
  refine (hc he2).mono ?_
  rintro u H6 ⟨⟨xs,rfl,x1,r6,o6⟩,F6⟩
  have e6:=F6.next
  have F26:=F25.trans F6
  obtain⟨H7,m7,r7,n7,k7⟩:=row_newL H6 [.int .u8 0,.str [],.int .i64 0,.slice none 0 (.known 0)] (n:=4) rfl
  obtain⟨H8,m8,r8,n8,k8⟩:=row_storeN r7 (n:=4) rfl x1.len x1.one
  have l8:=row_loadN r8 x1.len
  have bs:=buildM (z:=[.int .u8 0,.str [],.int .i64 0,.slice none 0 (.known 0)]) (m:=4) H8 rfl x1.len
  have rP:Row (H8.push (.cells xs 0 false)) H8.next xs:=row_push _ _
  obtain⟨H9,m9,r9,n9,k9⟩:=row_storeN (H:=H8.push (.cells xs 0 false)) (r2.same (by rw[get_push_lt om,k8 _ om,k7 _ om,F26.old _ om om])) (n:=4) rfl (xs:=[.int .u8 3,.str w.S,.int .i64 0,oneM H8 4]) rfl rfl
  rw[push_next]at n9
  have k9':∀c,c<H8.next→c≠H1.next→H9.get c=H8.get c:=fun c h1 h2=>by rw[k9 c h2,get_push_lt h1]
  have e29:∀c,c<H2.next→c≠pb→c≠H1.next→H9.get c=H2.get c:=fun c h1 h2 h3=>by rw[k9' c om h3,k8 c om,k7 c om,F26.old c h1 h2]
  simp only[sA,sB,seval,ext_0,ext_1,m7,m8,l8,bs,bldOp _ (oneM H8 4) rfl,m9,pf_isU,isU_func,g41,isU_0,pf_isF1,pf_capt1]
  refine (dun_spec (c1.same (e29 _ om om om)) (r6.same (by rw[k9' _ om om,k8 _ om,k7 _ om])) om).mono ?_
  rintro _ Ha ⟨ra,na,ka⟩
  have la:=row_loadN (r9.same (ka _ om)) (n:=4) rfl
  have rk:Row Ha H8.next xs:=rP.same (by rw[ka _ om,k9 _ om])
  simp only[sA,sB,seval,la,pf_tup2]
  refine⟨⟨_,tt,⟨oneM H8 4,xs,rfl,.row rk x1.len rfl ⟨om,om⟩,.sing (x1.mono fun b hb=>?_)⟩,ra,o6⟩,om,fun c hc hp=>by rw[ka c hp,e29 c om hp om,F2.old c hc hp]⟩
  have h1:=hb.1
  have h2:=hb.2
  exact⟨⟨om,om⟩,by rw[ka b om,k9' b om om,k8 b om,k7 b om]⟩
open Go.Abs Go.Abs.S
theorem fin_ct{T:Env}{H:AHeap}(g:Bool)(n i j:Nat)(K:AVal→AHeap→Prop):fin [.cell g n i,.t j] K .ret T H=OptP (oLoad g n H (T i)) fun v=>K (.tuple [v,T j]) H:=by
 rw[fin_ret]
 simp only[wRes]
 cases oLoad g n H (T i) with
 | none=>simp[OptP]
 | some v=>simp only[OptP_some]; rfl
theorem sls4(H:AHeap){xs ys:List AVal}(hx:xs.length=4)(hy:ys.length=4):aBuildSl 2 [.int .u8 0,.str [],.int .i64 0,.slice none 0 (.known 0)] H [(0,4,.agg xs),(4,4,.agg ys)]=some (.slice (some ⟨H.next,8,0⟩) 2 (.known 2),H.push (.cells (xs++ys) 0 false)):=by
 match xs,hx with
 | [a,b,c,d],_=>
  match ys,hy with
  | [e,f,g,h],_=>rfl
theorem two_ok{n pb:Nat}{s:Bs}{f k:Nat}(hk:k+1≤5)(ihr:∀f',f'≤f→RuleP n pb s f' k):RuleP n pb s (f+1) (k+1):=by
 intro H w g x y orv v r A hv hr
 obtain⟨c0,c1,c2,c3,b,m,vb,rfl,R0,R1,R2,R3,Rb,hm,hc,hvb⟩:=id hv
 show callvP _ _ _ _ _
 rw[callvP_func _ _ _ _ _ dD]
 refine acalls_ofN rfl za57 rfl ?_
 rw[pE_succ]at hr
 simp only[stepE]at hr
 have hlt:=A.lt
 have hnn:=A.hn
 obtain⟨hc0,hp0⟩:=hc c0 (by simp)
 obtain⟨hc1,hp1⟩:=hc c1 (by simp)
 obtain⟨hc2,hp2⟩:=hc c2 (by simp)
 obtain⟨hc3,hp3⟩:=hc c3 (by simp)
 obtain⟨hcb,hpb'⟩:=hc b (by simp)
 obtain⟨H1,m1,r1,n1,k1⟩:=row_newL H [.int .u8 0,.str [],.int .i64 0,.slice none 0 (.known 0)] (n:=4) rfl
 have F1:Fp pb H H1:=⟨om,fun c hc _=>k1 c om⟩
 have A1:=A.fwd F1 (A.row.same (k1 pb om)) A.ok A.hg
 have l0:∀{K:AHeap},Fp pb H K→oLoad false 1 K (cellR c0 1 0)=some vb:=fun q=>row_load (R0.same (q.old _ om hp0)) rfl rfl
 have l1:∀{K:AHeap},Fp pb H K→oLoad false 1 K (cellR c1 1 0)=some (cellR pb 11 0):=fun q=>row_load (R1.same (q.old _ om hp1)) rfl rfl
 have l2:∀{K:AHeap},Fp pb H K→oLoad false 1 K (cellR c2 1 0)=some (slR b m (.known m)):=fun q=>row_load (R2.same (q.old _ om hp2)) rfl rfl
 have l3:∀{K:AHeap},Fp pb H K→oLoad false 1 K (cellR c3 1 0)=some (.bool (!Nat.beq (k+1) 3)):=fun q=>row_load (R3.same (q.old _ om hp3)) rfl rfl
 have lb:∀{K:AHeap},Fp pb H K→Cel K.next K (slR b m (.known m)) ((lvl (k+1)).map AVal.str):=fun q=>(Rb.same (q.old _ om hpb')).cel hm (by have:=q.next; omega)
 have hlv:(lvl (k+1)).length≤1000:=by
  match k,hk with
  | 0,_ | 1,_ | 2,_ | 3,_ | 4,_=>decide
 have l01:=l0 F1
 have b0:=bld0
 simp only[List.nil_append,List.cons_append,List.append_nil,c57,sW,sL,sXs,sXO,sXP,sB,seval,m1,l01]
 obtain⟨r0,hr0⟩:∃r0,pE s f (.rule k) g w=some r0:=by
  rcases onR_ok hr with⟨e,he,rfl⟩ | ⟨e1,w2,he,_⟩
  ·exact⟨_,he⟩
  ·exact⟨_,he⟩
 refine (ihr f rL H1 w g x y orv vb r0 A1 (hvb.keep fun c h1 h2=>F1.old c om h2) hr0).mono ?_
 rintro u H2 ⟨ho,F2⟩
 have e2:=F2.next
 have start:∃xs ok,u=.tuple [.agg xs,.bool ok]∧xs.length=4∧xs.all AVal.one=true:=by
  cases r0 with
  | error e=>obtain⟨xs,w',rfl,x1,⟨x2,_⟩,_⟩:=ho; exact⟨xs,false,rfl,x1,x2⟩
  | ok p=>obtain⟨e,w'⟩:=p; obtain⟨xs,rfl,x1,_⟩:=ho; exact⟨xs,true,rfl,x1.len,x1.one⟩
 obtain⟨xs,ok,rfl,x1,x2⟩:=start
 obtain⟨H3,m3,r3,n3,k3⟩:=row_newL H2 [.int .u8 0,.str [],.int .i64 0,.slice none 0 (.known 0)] (n:=4) rfl
 obtain⟨H4,m4,r4,n4,k4⟩:=row_storeN r3 (n:=4) rfl x1 x2
 simp only[sW,sL,sXs,sXO,sXP,sB,seval,ext_0,ext_1,m3,m4]
 rw[aw_block]
 have k42:∀c,c<H2.next→H4.get c=H2.get c:=fun c hc=>by rw[k4 c om,k3 c om]
 have F4:Fp pb H H4:=⟨om,fun c hc hp=>by rw[k42 c om,F2.old c om hp,F1.old c hc hp]⟩
 have r14:Row H4 H.next _:=r1.same (by rw[k42 _ om,F2.old _ om om])
 refine aw_cut (fun (T:Env) H'=>T 4=cellR H.next 4 0∧T 6=cellR H2.next 4 0∧Row H' H.next [.int .u8 0,.str [],.int .i64 0,.slice none 0 (.known 0)]∧Fp pb H H'∧H.next<H'.next∧((∃e w' xs,r=.ok (e,w')∧T 7=.bool true∧Row H' H2.next xs∧XE (In (H.next+1) H'.next) H' e xs∧Row H' pb (pObj s w' g x y orv)∧WOk s w')∨∃e w',r=.error e∧T 7=.bool false∧Row H' pb (pObj s w' g e.1 e.2 orv))) (calls_mono _ _) ?_ ?_
 rotate_left
 ·rintro T H5 ⟨t4,t6,q4,F5,lt5,⟨e,w',xs,rfl,t7,rx,hx,rp,hw⟩ | ⟨e,w',rfl,t7,rp⟩⟩
  ·have lx:=row_loadN rx hx.len
   obtain⟨H6,m6,r6,n6,k6⟩:=row_storeN q4 (n:=4) rfl hx.len hx.one
   have l6:=row_loadN r6 hx.len
   simp only[sA,sB,seval,t4,t6,t7,lx,m6,fin_ct,l6,OptP_some]
   refine⟨⟨xs,tt,hx.mono fun c hc=>⟨⟨Nat.le_of_succ_le hc.1,by rw[n6]; exact hc.2⟩,k6 c (by have:=hc.1; omega)⟩,rp.same (k6 _ om),hw⟩,by rw[n6]; exact F5.next,fun c hc hp=>by rw[k6 c om,F5.old c hc hp]⟩
  ·obtain⟨H6,m6,r6,n6,k6⟩:=row_storeN q4 (n:=4) rfl (xs:=[.int .u8 0,.str [],.int .i64 0,.slice none 0 (.known 0)]) rfl rfl
   have l6:=row_loadN r6 (n:=4) rfl
   simp only[sA,sB,seval,t4,t6,t7,b0,m6,fin_ct,l6,OptP_some]
   exact⟨⟨_,w',tt,rfl,⟨rfl,rfl⟩,rp.same (k6 _ om)⟩,by rw[n6]; exact F5.next,fun c hc hp=>by rw[k6 c om,F5.old c hc hp]⟩
 refine aw_loop (fun m' (T:Env) H'=>m'≤f∧T 0=cellR c0 1 0∧T 1=cellR c1 1 0∧T 2=cellR c2 1 0∧T 3=cellR c3 1 0∧T 4=cellR H.next 4 0∧T 6=cellR H2.next 4 0∧Row H' H.next [.int .u8 0,.str [],.int .i64 0,.slice none 0 (.known 0)]∧Fp pb H H'∧H2.next<H'.next∧((∃e w' xs,pE s m' (.loop (k+1) e) g w'=some r∧T 7=.bool true∧Row H' H2.next xs∧XE (fun c=>In (H.next+1) H'.next c∧c≠H2.next) H' e xs∧Row H' pb (pObj s w' g x y orv)∧WOk s w')∨∃e w' xs,r=.error e∧T 7=.bool false∧Row H' H2.next xs∧Row H' pb (pObj s w' g e.1 e.2 orv))) f ?_ ?_
 ·refine⟨Nat.le_refl _,by simp only[sA,sB,seval]; try rfl,by simp only[sA,sB,seval]; try rfl,by simp only[sA,sB,seval]; try rfl,by simp only[sA,sB,seval]; try rfl,by simp only[sA,sB,seval],by simp only[sA,sB,seval],r14,F4,om,?_⟩
  rcases onR_ok hr with⟨e,he,rfl⟩ | ⟨e1,w2,he,hr'⟩
  ·rw[hr0]at he
   simp only[sJ]at he
   subst he
   obtain⟨xs',w',hu,_,_,rp⟩:=ho
   simp only[AVal.tuple.injEq,List.cons.injEq,AVal.agg.injEq,AVal.bool.injEq,and_true]at hu
   obtain⟨rfl,rfl⟩:=hu
   exact .inr ⟨e,w',xs,rfl,by simp only[sA,sB,seval],r4,rp.same (k42 _ om)⟩
  ·rw[hr0]at he
   simp only[sJ]at he
   subst he
   obtain⟨xs',hu,hx,rp,hw⟩:=ho
   simp only[AVal.tuple.injEq,List.cons.injEq,AVal.agg.injEq,AVal.bool.injEq,and_true]at hu
   obtain⟨rfl,rfl⟩:=hu
   refine .inl ⟨e1,w2,xs,hr',by simp only[sA,sB,seval],r4,hx.mono fun c hc=>?_,rp.same (k42 _ om),hw⟩
   have h1:=hc.1
   have h2:=hc.2
   exact⟨⟨⟨om,om⟩,om⟩,k42 c h2⟩
 rintro m' T H5 ⟨hm',t0,t1,t2,t3,t4,t6,q4,F5,lt5,⟨e,w',xs,hp,t7,rx,hx,rp,hw⟩ | ⟨e,w',xs,rfl,t7,rx,rp⟩⟩
 rotate_left
 ·simp only[sA,sB,seval,t7]
  exact⟨t4,t6,q4,F5,om,.inr ⟨e,w',rfl,tt,rp⟩⟩
 cases m' with
 | zero=>simp[pE]at hp
 | succ m'=>
 rw[pE_succ]at hp
 simp only[stepE,Nat.add_sub_cancel]at hp
 have A5:=A.fwd F5 rp hw A.hg
 have l15:=l1 F5
 have l25:=l2 F5
 simp only[sA,sB,seval,t0,t1,t2,t3,t4,t6,t7,l15,l25]
 refine (pis_spec rp (lb F5) hlv).mono ?_
 rintro _ _ ⟨rfl,rfl⟩
 cases hs:sgn w' (lvl (k+1)) with
 | false=>
  rw[if_neg (by rw[hs]; simp)]at hp
  simp only[fineR,sJ]at hp
  subst hp
  simp only[sA,sB,seval]
  exact⟨by simp only[sA,sB,seval,t4],by simp only[sA,sB,seval,t6],q4,F5,om,.inl ⟨e,w',xs,rfl,by simp only[sA,sB,seval,t7],rx,hx.mono fun c hc=>⟨hc.1,rfl⟩,rp,hw⟩⟩
 | true=>
 rw[if_pos hs]at hp
 have lS:oLoad false 1 H5 (cellR pb 11 2)=some (.str w'.S):=row_load rp rfl rfl
 simp only[sA,sB,seval,t0,t1,t2,t3,t4,t6,t7,l15,nil_cell,fldA,lS]
 refine (pstep_spec rp A5.lt A5.en).mono ?_
 rintro u H6 ⟨h6,F6⟩
 have e6:=F6.next
 have F56:=F5.trans F6
 rcases onW_ok hp with⟨e',he,rfl⟩ | ⟨w1,he,hp⟩
 ·rw[he]at h6
  obtain⟨rfl,r6⟩:=h6
  obtain⟨H7,m7,r7,n7,k7⟩:=row_storeN (q4.same (F6.old _ om om)) (n:=4) rfl (xs:=[.int .u8 0,.str [],.int .i64 0,.slice none 0 (.known 0)]) rfl rfl
  have l7:=row_loadN r7 (n:=4) rfl
  simp only[sA,sB,seval,t0,t1,t2,t3,t4,t6,t7,b0,m7,fin_ct,l7,OptP_some]
  exact⟨⟨_,w',tt,rfl,⟨rfl,rfl⟩,r6.same (k7 _ om)⟩,by have:=F5.next; omega,fun c hc hp=>by rw[k7 c om,F56.old c hc hp]⟩
 rw[he]at h6
 obtain⟨rfl,r6⟩:=h6
 obtain⟨hw1,-⟩:=stepW_ok he hw (by rw[sgn_k hs]; omega)
 obtain⟨H7,m7,r7,n7,k7⟩:=row_newL H6 [.int .u8 0,.str [],.int .i64 0,.slice none 0 (.known 0)] (n:=4) rfl
 have F7:Fp pb H H7:=⟨by have:=F56.next; omega,fun c hc hp=>by rw[k7 c (by have:=F56.next; omega),F56.old c hc hp]⟩
 have r67:=r6.same (k7 pb om)
 have A7:=A.fwd F7 r67 hw1 A.hg
 have l07:=l0 F7
 simp only[sA,sB,seval,t0,t1,t2,t3,t4,t6,t7,m7,l07]
 obtain⟨r2,hr2⟩:∃r2,pE s m' (.rule k) g w1=some r2:=by
  rcases onR_ok hp with⟨e,he,rfl⟩ | ⟨e1,w2,he,_⟩
  ·exact⟨_,he⟩
  ·exact⟨_,he⟩
 refine (ihr m' om H7 w1 g x y orv vb r2 A7 (hvb.keep fun c h1 h2=>F7.old c om h2) hr2).mono ?_
 rintro u H8 ⟨h8,F8⟩
 have e8:=F8.next
 have F78:=F7.trans F8
 have start:∃ys ok,u=.tuple [.agg ys,.bool ok]∧ys.length=4∧ys.all AVal.one=true:=by
  cases r2 with
  | error e=>obtain⟨xs,w',rfl,x1,⟨x2,_⟩,_⟩:=h8; exact⟨xs,false,rfl,x1,x2⟩
  | ok p=>obtain⟨e,w'⟩:=p; obtain⟨xs,rfl,x1,_⟩:=h8; exact⟨xs,true,rfl,x1.len,x1.one⟩
 obtain⟨ys,ok2,rfl,y1,y2⟩:=start
 obtain⟨H9,m9,r9,n9,k9⟩:=row_storeN (r7.same (F8.old _ om om)) (n:=4) rfl y1 y2
 have l9:=row_loadN r9 y1
 have k97:∀c,c<H6.next→c≠pb→H9.get c=H6.get c:=fun c h1 h2=>by rw[k9 c om,F8.old c om h2,k7 c om]
 have k95:∀c,c<H5.next→c≠pb→H9.get c=H5.get c:=fun c h1 h2=>by rw[k97 c om h2,F6.old c h1 h2]
 have rx9:=rx.same (k95 H2.next lt5 om)
 have lx9:=row_loadN rx9 hx.len
 have bs:=sls4 H9 hx.len y1
 have rP:Row (H9.push (.cells (xs++ys) 0 false)) H9.next (xs++ys):=row_push _ _
 obtain⟨Ha,ma,ra,na,ka⟩:=row_storeN (H:=H9.push (.cells (xs++ys) 0 false)) (rx9.same (get_push_lt om)) (n:=4) hx.len (xs:=[.int .u8 3,.str w'.S,.int .i64 0,.slice (some ⟨H9.next,8,0⟩) 2 (.known 2)]) rfl rfl
 rw[push_next]at na
 have ka9:∀c,c<H9.next→c≠H2.next→Ha.get c=H9.get c:=fun c h1 h2=>by rw[ka c h2,get_push_lt h1]
 have Fa:Fp pb H Ha:=⟨by have:=F78.next; omega,fun c hc hp=>by rw[ka9 c (by have:=F78.next; omega) om,k9 c (by have:=F7.next; omega),F78.old c hc hp]⟩
 have l3a:=l3 Fa
 have q4a:Row Ha H.next _:=q4.same (by rw[ka9 _ om om,k95 _ om om])
 have hpa:Ha.get pb=H8.get pb:=by rw[ka9 _ om om,k9 _ om]
 simp only[sA,sB,seval,ext_0,ext_1,t0,t1,t2,t3,t4,t6,t7,m9,lx9,l9,bs,bldOp w'.S (.slice (some ⟨H9.next,8,0⟩) 2 (.known 2)) rfl,ma,l3a]
 have eb:∀q:Ex×Wd,r2=.ok q→XE (fun c=>In (H.next+1) Ha.next c∧c≠H2.next) Ha (.mk 3 w'.S 0 [e,q.1]) [.int .u8 3,.str w'.S,.int .i64 0,.slice (some ⟨H9.next,8,0⟩) 2 (.known 2)]∧Row Ha pb (pObj s q.2 g x y orv)∧WOk s q.2:=by
  rintro ⟨e2,w2⟩ rfl
  obtain⟨ys',hu,hy,rp2,hw2⟩:=h8
  simp only[AVal.tuple.injEq,List.cons.injEq,AVal.agg.injEq,AVal.bool.injEq,and_true]at hu
  obtain⟨rfl,rfl⟩:=hu
  refine⟨⟨_,xs++ys,rfl,.row (rP.same (ka _ om)) (by rw[lA,hx.len,y1]) rfl ⟨⟨om,om⟩,om⟩,xs,ys,rfl,hx.mono fun c hc=>?_,.sing (hy.mono fun c hc=>?_)⟩,rp2.same hpa,hw2⟩
  ·have h1:=hc.1.1
   have h2:=hc.1.2
   exact⟨⟨⟨h1,om⟩,hc.2⟩,by rw[ka9 c om hc.2,k95 c h2 om]⟩
  ·have h1:=hc.1
   have h2:=hc.2
   exact⟨⟨⟨om,om⟩,om⟩,by rw[ka9 c om om,k9 c om]⟩
 cases hb3:Nat.beq (k+1) 3 with
 | false=>
  rw[hb3]at hp
  simp only[cond_false,Bool.false_eq_true,if_false]at hp
  simp only[sA,sB,seval,Bool.not_false]
  refine⟨m',om,om,by simp only[sA,sB,seval,t0],by simp only[sA,sB,seval,t1],by simp only[sA,sB,seval,t2],by simp only[sA,sB,seval,t3],by simp only[sA,sB,seval,t4],by simp only[sA,sB,seval,t6],q4a,Fa,om,?_⟩
  rcases onR_ok hp with⟨e',he',rfl⟩ | ⟨e1,w2,he',hp'⟩
  ·rw[hr2]at he'
   simp only[sJ]at he'
   subst he'
   obtain⟨ys',w2,hu,_,_,rp2⟩:=h8
   simp only[AVal.tuple.injEq,List.cons.injEq,AVal.agg.injEq,AVal.bool.injEq,and_true]at hu
   obtain⟨rfl,rfl⟩:=hu
   exact .inr ⟨e',w2,_,rfl,by simp only[sA,sB,seval],ra,rp2.same hpa⟩
  ·rw[hr2]at he'
   simp only[sJ]at he'
   subst he'
   obtain⟨z1,z2,z3⟩:=eb _ rfl
   obtain⟨ys',hu,_⟩:=h8
   simp only[AVal.tuple.injEq,List.cons.injEq,AVal.agg.injEq,AVal.bool.injEq,and_true]at hu
   obtain⟨rfl,rfl⟩:=hu
   exact .inl ⟨_,w2,_,hp',by simp only[sA,sB,seval],ra,z1,z2,z3⟩
 | true=>
  rw[hb3]at hp
  simp only[if_true]at hp
  simp only[sA,sB,seval,Bool.not_true]
  refine⟨by simp only[sA,sB,seval,t4],by simp only[sA,sB,seval,t6],q4a,Fa,om,?_⟩
  rcases onR_ok hp with⟨e',he',rfl⟩ | ⟨e1,w2,he',hp'⟩
  ·rw[hr2]at he'
   simp only[sJ]at he'
   subst he'
   obtain⟨ys',w2,hu,_,_,rp2⟩:=h8
   simp only[AVal.tuple.injEq,List.cons.injEq,AVal.agg.injEq,AVal.bool.injEq,and_true]at hu
   obtain⟨rfl,rfl⟩:=hu
   exact .inr ⟨e',w2,rfl,by simp only[sA,sB,seval],rp2.same hpa⟩
  ·rw[hr2]at he'
   simp only[sJ]at he'
   subst he'
   obtain⟨z1,z2,z3⟩:=eb _ rfl
   obtain⟨ys',hu,_⟩:=h8
   simp only[AVal.tuple.injEq,List.cons.injEq,AVal.agg.injEq,AVal.bool.injEq,and_true]at hu
   obtain⟨rfl,rfl⟩:=hu
   simp only[fineR,sJ]at hp'
   subst hp'
   exact .inl ⟨_,w2,_,rfl,by simp only[sA,sB,seval],ra,z1.mono fun c hc=>⟨hc.1,rfl⟩,z2,z3⟩
open Go.Abs Go.Abs.S
theorem push_fp{pb:Nat}{H:AHeap}(o:AObj):Fp pb H (H.push o):=⟨by rw[push_next]; omega,fun c hc _=>get_push_lt hc⟩
theorem PA.push{n pb:Nat}{s:Bs}{H:AHeap}{w:Wd}{g:Nat}{x y:Int}{orv:AVal}(h:PA n pb s H w g x y orv)(o:AObj):PA n pb s (H.push o) w g x y orv:=h.fwd (push_fp o) (h.row.same (get_push_lt h.lt)) h.ok h.hg
theorem PA.lor{n pb:Nat}{s:Bs}{H:AHeap}{w:Wd}{g:Nat}{x y:Int}{orv:AVal}(h:PA n pb s H w g x y orv):oLoad false 1 H (cellR pb 11 10)=some orv:=row_load h.row rfl rfl
theorem args_ok{n pb:Nat}{s:Bs}{f:Nat}(hf:f≤1000000)(ihr:∀f',f'<f→RuleP n pb s f' 5):ArgsP n pb s f:=by
 intro S H w g x y orv r A hs hr
 refine acalls_ofN rfl za100 rfl ?_
 have hlt:=A.lt
 have t1:takeW s [40] w=stepW s w:=by unfold takeW; rw[if_pos hs]
 simp only[c100,sA,sB,seval]
 refine (ptake_spec A.row hlt A.en [40]).mono ?_
 rintro u H1 ⟨ho,F1⟩
 rw[t1]at ho
 have e1:=F1.next
 unfold argsW at hr
 rcases onW_ok hr with⟨e,he,rfl⟩ | ⟨w1,he,hr⟩
 ·rw[he]at ho
  obtain⟨rfl,r1⟩:=ho
  simp only[sA,sB,seval]
  exact⟨⟨_,w,tt,⟨rfl,rfl⟩,r1⟩,F1⟩
 rw[he]at ho
 obtain⟨rfl,r1⟩:=ho
 have hw1:=(stepW_ok he A.ok (by rw[sgn_k hs]; omega)).1
 have A1:=A.fwd F1 r1 hw1 A.hg
 have bs:=build1 (.str []) H1 (x:=.str [41]) rfl
 have A2:=A1.push (.cells [.str [41]] 0 false)
 have F2:Fp pb H (H1.push (.cells [.str [41]] 0 false)):=F1.trans (push_fp _)
 simp only[sA,sB,seval,bs]
 refine (pis_spec A2.row (one_cel H1 [41]) (by simp)).mono ?_
 rintro _ _ ⟨rfl,rfl⟩
 generalize H1.push (.cells [.str [41]] 0 false)=H2 at *
 cases hs2:sgn w1 [[41]] with
 | true=>
  rw[if_pos hs2]at hr
  simp only[sA,sB,seval]
  refine (pstep_spec A2.row A2.lt A2.en).mono ?_
  rintro u H3 ⟨ho,F3⟩
  rcases onW_ok hr with⟨e,he,rfl⟩ | ⟨w2,he,hr⟩
  ·rw[he]at ho
   obtain⟨rfl,r3⟩:=ho
   simp only[sA,sB,seval]
   exact⟨⟨_,w1,tt,⟨rfl,rfl⟩,r3⟩,F2.trans F3⟩
  ·rw[he]at ho
   obtain⟨rfl,r3⟩:=ho
   simp only[fineR,sJ]at hr
   subst hr
   simp only[sA,sB,seval]
   exact⟨⟨[],nilS,[],rfl,tt,.nil _ _ _,rfl,r3,(stepW_ok he hw1 (by rw[sgn_k hs2]; omega)).1⟩,F2.trans F3⟩
 | false=>
 rw[if_neg (by rw[hs2]; simp)]at hr
 have e2:=F2.next
 simp only[sA,sB,seval]
 refine aw_loop (fun m (T:Env) H'=>∃out w' v,T 0=cellR pb 11 0∧T 4=v∧GE H.next H' v out∧out.length+m≤f∧PA n pb s H' w' g x y orv∧Fp pb H H'∧pE s m (.args S out) g w'=some r) f
  ⟨[],w1,nilS,by simp only[sA,sB,seval],by simp only[sA,sB,seval]; rfl,GE.nil _ _,by simp,A2,F2,hr⟩ ?_
 rintro m T H3 ⟨out,w',v,t0,t4,G3,hm,A3,F3,hp⟩
 cases m with
 | zero=>simp[pE]at hp
 | succ m=>
 rw[pE_succ]at hp
 simp only[stepE]at hp
 have l3:=A3.lor
 simp only[sA,sB,seval,t0,t4,nil_cell,fldA,l3]
 obtain⟨r0,hr0⟩:∃r0,pE s m (.rule 5) g w'=some r0:=by
  rcases onR_ok hp with⟨e,he,rfl⟩ | ⟨e1,w2,he,_⟩
  ·exact⟨_,he⟩
  ·exact⟨_,he⟩
 have e3:=F3.next
 refine (ihr m om H3 w' g x y orv orv r0 A3 A3.or hr0).mono ?_
 rintro u H4 ⟨ho,F4⟩
 have e4:=F4.next
 have F34:=F3.trans F4
 rcases onR_ok hp with⟨e,he,rfl⟩ | ⟨e1,w2,he,hp⟩
 ·rw[hr0]at he
  simp only[sJ]at he
  subst he
  obtain⟨xs,w2,rfl,x1,⟨x2,_⟩,r4⟩:=ho
  obtain⟨H5,m5,r5,n5,k5⟩:=row_newL H4 [.int .u8 0,.str [],.int .i64 0,.slice none 0 (.known 0)] (n:=4) rfl
  obtain⟨H6,m6,r6,n6,k6⟩:=row_storeN r5 (n:=4) rfl x1 x2
  have k64:∀c,c<H4.next→H6.get c=H4.get c:=fun c hc=>by rw[k6 c om,k5 c om]
  simp only[sA,sB,seval,ext_0,ext_1,m5,m6]
  exact⟨⟨_,w2,tt,⟨rfl,rfl⟩,r4.same (k64 _ om)⟩,om,fun c hc hp=>by rw[k64 c om,F34.old c hc hp]⟩
 rw[hr0]at he
 simp only[sJ]at he
 subst he
 obtain⟨xs,rfl,hx,r4,hw2⟩:=ho
 obtain⟨H5,m5,r5,n5,k5⟩:=row_newL H4 [.int .u8 0,.str [],.int .i64 0,.slice none 0 (.known 0)] (n:=4) rfl
 obtain⟨H6,m6,r6,n6,k6⟩:=row_storeN r5 (n:=4) rfl hx.len hx.one
 have l6:=row_loadN r6 hx.len
 have k64:∀c,c<H4.next→H6.get c=H4.get c:=fun c hc=>by rw[k6 c om,k5 c om]
 have F46:Fp pb H4 H6:=⟨om,fun c hc _=>k64 c hc⟩
 have F36:=F34.trans F46
 have bm:=buildM (z:=[.int .u8 0,.str [],.int .i64 0,.slice none 0 (.known 0)]) (m:=4) H6 rfl hx.len
 have G6:GE H.next H6 v out:=G3.keep om fun c hc=>by
  have h1:=hc.1
  have h2:=hc.2
  rw[k64 c om,F4.old c h2 om]
 have hx6:XE (In H3.next H6.next) H6 e1 xs:=hx.mono fun c hc=>⟨⟨hc.1,by have:=hc.2; omega⟩,k64 c hc.2⟩
 have hb3:Blk v (·<H3.next):=by
  obtain⟨C,_,q,_⟩:=G3
  exact q.mono fun c hc=>hc.2
 obtain⟨v',H7,a7,G7,n7,k7⟩:=G6.push hx6 e3 om hb3 om (bytes:=56) om om
 have hvp:Blk v (pb≠·):=by
  obtain⟨C,_,q,_⟩:=G3
  exact q.mono fun c hc=>by have:=hc.1; omega
 have F67:Fp pb H H7:=⟨om,fun c hc hp=>by
  rw[k7 c om (by
   obtain⟨C,_,q,_⟩:=G3
   exact q.mono fun d hd=>by have:=hd.1; omega),F36.old c hc hp]⟩
 have r7:Row H7 pb (pObj s w2 g x y orv):=r4.same (by rw[k7 pb om hvp,k64 pb om])
 have A7:=A.fwd F67 r7 hw2 A.hg
 have bs7:=build1 (.str []) H7 (x:=.str [44]) rfl
 have A8:=A7.push (.cells [.str [44]] 0 false)
 have F8:Fp pb H (H7.push (.cells [.str [44]] 0 false)):=F67.trans (push_fp _)
 have G8:GE H.next (H7.push (.cells [.str [44]] 0 false)) v' (out++[e1]):=G7.keep (by rw[push_next]; omega) fun c hc=>get_push_lt hc.2
 simp only[sA,sB,seval,ext_0,ext_1,t0,t4,m5,m6,l6,bm,a7,bs7]
 refine (pis_spec A8.row (one_cel H7 [44]) (by simp)).mono ?_
 rintro _ _ ⟨rfl,rfl⟩
 have e8:=F8.next
 generalize H7.push (.cells [.str [44]] 0 false)=H8 at *
 cases hs3:sgn w2 [[44]] with
 | false=>
  rw[if_neg (by rw[hs3]; simp)]at hp
  simp only[sA,sB,seval,t0]
  refine (ptake_spec A8.row A8.lt A8.en [41]).mono ?_
  rintro u H9 ⟨ho,F9⟩
  rcases onW_ok hp with⟨e,he,rfl⟩ | ⟨w3,he,hp⟩
  ·rw[he]at ho
   obtain⟨rfl,r9⟩:=ho
   obtain⟨C,q1,_⟩:=G8.sl
   simp only[sA,sB,seval]
   exact⟨⟨_,w2,tt,⟨q1.one,q1.aeq⟩,r9⟩,F8.trans F9⟩
  ·rw[he]at ho
   obtain⟨rfl,r9⟩:=ho
   simp only[fineR,sJ]at hp
   subst hp
   have G9:=G8.keep F9.next fun c hc=>F9.old c hc.2 (by have:=hc.1; omega)
   obtain⟨C,q1,q2⟩:=G9.sl
   simp only[sA,sB,seval]
   exact⟨⟨_,v',C,rfl,tt,q1,q2,r9,(takeW_ok he hw2).2.2.1⟩,F8.trans F9⟩
 | true=>
  rw[if_pos hs3]at hp
  simp only[sA,sB,seval,t0]
  refine (pstep_spec A8.row A8.lt A8.en).mono ?_
  rintro u H9 ⟨ho,F9⟩
  rcases onW_ok hp with⟨e,he,rfl⟩ | ⟨w3,he,hp⟩
  ·rw[he]at ho
   obtain⟨rfl,r9⟩:=ho
   simp only[sA,sB,seval]
   exact⟨⟨_,w2,tt,⟨rfl,rfl⟩,r9⟩,F8.trans F9⟩
  ·rw[he]at ho
   obtain⟨rfl,r9⟩:=ho
   have G9:=G8.keep F9.next fun c hc=>F9.old c hc.2 (by have:=hc.1; omega)
   simp only[sA,sB,seval]
   exact⟨m,om,out++[e1],w3,v',by simp only[sA,sB,seval,t0],by simp only[sA,sB,seval],G9,by simp; omega,A8.fwd F9 r9 (stepW_ok he hw2 (by rw[sgn_k hs3]; omega)).1 A.hg,F8.trans F9,hp⟩
open Go.Abs Go.Abs.S
theorem bldNum(n:AVal)(hn:n.one=true):aBuild [.int .u8 0,.str [],.int .i64 0,.slice none 0 (.known 0)] [(0,1,.int .u8 1),(2,1,n)]=some (.agg [.int .u8 1,.str [],n,.slice none 0 (.known 0)]):=by
 cases n <;> first | rfl | (simp[AVal.one]at hn)
theorem bldName(S:Bs):aBuild [.int .u8 0,.str [],.int .i64 0,.slice none 0 (.known 0)] [(0,1,.int .u8 2),(1,1,.str S)]=some (.agg [.int .u8 2,.str S,.int .i64 0,.slice none 0 (.known 0)]):=_root_.id rfl
theorem bldCall(S:Bs)(v:AVal)(hv:v.one=true):aBuild [.int .u8 0,.str [],.int .i64 0,.slice none 0 (.known 0)] [(0,1,.int .u8 4),(1,1,.str S),(3,1,v)]=some (.agg [.int .u8 4,.str S,.int .i64 0,v]):=by
 cases v <;> first | rfl | (simp[AVal.one]at hv)
theorem one4(k:Int)(S:Bs)(n:Int){v:AVal}(h:v.one=true):([.int .u8 k,.str S,.int .i64 n,v]:List AVal).all AVal.one=true:=by
 simp only[List.all_cons,List.all_nil,h]; rfl
theorem aeqs4(k:Int)(S:Bs)(n:Int){v:AVal}(h:aeq v v=true):aeqs [.int .u8 k,.str S,.int .i64 n,v] [.int .u8 k,.str S,.int .i64 n,v]=true:=by
 simp only[aeqs,aeq_int,aeq_str,h,Bool.and_self]
theorem xe_leaf(P:Nat→Prop)(H:AHeap)(k:Nat)(S:Bs)(n:Int):XE P H (.mk k S n []) [.int .u8 (k:Int),.str S,.int .i64 n,.slice none 0 (.known 0)]:=⟨nilS,[],rfl,.nil _ _ _,rfl⟩
theorem prim_ok{n pb:Nat}{s:Bs}{f:Nat}(ihr:RuleP n pb s f 5)(iha:ArgsP n pb s f):PrimP n pb s (f+1):=by
 intro H w g x y orv r A hr
 rw[pE_succ]at hr
 simp only[stepE]at hr
 refine acalls_ofN rfl za61 rfl ?_
 have hlt:=A.lt
 obtain⟨H1,m1,r1,n1,k1⟩:=row_newL H [.int .u8 0,.str [],.int .i64 0,.slice none 0 (.known 0)] (n:=4) rfl
 obtain⟨H2,m2,r2,n2,k2⟩:=row_newL H1 [.int .u8 0,.str [],.int .i64 0,.int .i64 0,.int .i64 0,.int .i64 0] (n:=6) rfl
 obtain⟨H3,m3,r3,n3,k3⟩:=row_storeN r2 (n:=6) rfl (xs:=wdL w.k w.S w.n w.line w.at_ w.en) rfl rfl
 have lw:oLoad true 6 H1 (cellR pb 11 1)=some (.agg (wdL w.k w.S w.n w.line w.at_ w.en)):=row_loadK (A.row.same (k1 pb om)) (n:=11) rfl (i:=1) (k:=6) om
 have F3:Fp pb H H3:=⟨om,fun c hc _=>by rw[k3 c om,k2 c om,k1 c om]⟩
 have A3:=A.fwd F3 (A.row.same (by rw[k3 pb om,k2 pb om,k1 pb om])) A.ok A.hg
 have q1:Row H3 H.next _:=r1.same (by rw[k3 _ om,k2 _ om])
 have f0:∀{K:AHeap},Fp pb H3 K→oLoad false 1 K (cellR H1.next 6 0)=some (.int .u8 (w.k:Int)):=fun q=>row_load (r3.same (q.old _ om om)) rfl rfl
 have f1:∀{K:AHeap},Fp pb H3 K→oLoad false 1 K (cellR H1.next 6 1)=some (.str w.S):=fun q=>row_load (r3.same (q.old _ om om)) rfl rfl
 have f2:∀{K:AHeap},Fp pb H3 K→oLoad false 1 K (cellR H1.next 6 2)=some (.int .i64 (w.n:Int)):=fun q=>row_load (r3.same (q.old _ om om)) rfl rfl
 have b0:=bld0
 have f03:=f0 (Fp.refl pb H3)
 have f23:=f2 (Fp.refl pb H3)
 have fin:∀{K:AHeap},Fp pb H3 K→∀(xs:List AVal),xs.length=4→xs.all AVal.one=true→∃K',oStore 4 K (cellR H.next 4 0) (.agg xs)=some K'∧oLoad true 4 K' (cellR H.next 4 0)=some (.agg xs)∧K'.next=K.next∧(∀c,c≠H.next→K'.get c=K.get c)∧Fp pb H K':=by
  intro K q xs h1 h2
  obtain⟨K',a1,a2,a3,a4⟩:=row_storeN (q1.same (q.old _ om om)) (n:=4) rfl h1 h2
  exact⟨K',a1,row_loadN a2 h1,a3,a4,by have:=q.next; omega,fun c hc hp=>by rw[a4 c om,q.old c om hp,F3.old c hc hp]⟩
 simp only[c61,sA,sB,seval,m1,nil_cell,fldA,fld0,lw,m2,m3,f03]
 by_cases c1:w.k=1
 ·have c1':(w.k:Int)=1:=om
  rw[if_pos c1]at hr
  simp only[sA,sB,seval,c1']
  refine aw_drawC rfl ?_
  simp only[sR,sA,sB,seval,fldA,fld0,f23,bldNum (.int .i64 (w.n:Int)) rfl]
  refine (pstep_spec A3.row A3.lt A3.en).mono ?_
  rintro u H4 ⟨ho,F4⟩
  have f24:=f2 F4
  obtain⟨H5,m5,l5,n5,k5,F5⟩:=fin F4 [.int .u8 1,.str [],.int .i64 (w.n:Int),.slice none 0 (.known 0)] rfl rfl
  have hp5:H5.get pb=H4.get pb:=k5 pb om
  simp only[sR,sA,sB,seval,m5]
  simp only[ck_nil',ck_cons,ckP_load,ckP_nil,ck_end,and_true,true_and,List.map_cons,List.map_nil,sA,sB,seval,fldA,fld0]
  refine⟨⟨_,rfl,fun _=>⟨_,f24,aeq_int _ _⟩⟩,?_⟩
  rcases onW_ok hr with⟨e,he,rfl⟩ | ⟨w1,he,hr⟩
  ·rw[he]at ho
   obtain⟨rfl,r4⟩:=ho
   simp only[sA,sB,seval,fin_ct,l5,OptP_some]
   exact⟨⟨_,w,tt,rfl,⟨rfl,by simp[aeqs,aeq_int,aeq_str]; rfl⟩,r4.same hp5⟩,F5⟩
  ·rw[he]at ho
   obtain⟨rfl,r4⟩:=ho
   simp only[fineR,sJ]at hr
   subst hr
   simp only[sA,sB,seval,fin_ct,l5,OptP_some]
   exact⟨⟨_,tt,xe_leaf _ _ 1 [] (w.n:Int),r4.same hp5,(stepW_ok he A.ok om).1⟩,F5⟩
 have c1':¬(w.k:Int)=1:=om
 rw[if_neg c1]at hr
 by_cases c2:w.k=2
 ·have c2':(w.k:Int)=2:=om
  rw[if_pos c2]at hr
  simp only[sA,sB,seval,c1',c2',fld0,f03]
  refine (pstep_spec A3.row A3.lt A3.en).mono ?_
  rintro u H4 ⟨ho,F4⟩
  rcases onW_ok hr with⟨e,he,rfl⟩ | ⟨w1,he,hr⟩
  ·rw[he]at ho
   obtain⟨rfl,r4⟩:=ho
   obtain⟨H5,m5,l5,n5,k5,F5⟩:=fin F4 [.int .u8 0,.str [],.int .i64 0,.slice none 0 (.known 0)] rfl rfl
   simp only[sA,sB,seval,b0,m5,fin_ct,l5,OptP_some]
   exact⟨⟨_,w,tt,rfl,⟨rfl,rfl⟩,r4.same (k5 pb om)⟩,F5⟩
  rw[he]at ho
  obtain⟨rfl,r4⟩:=ho
  have hw1:=(stepW_ok he A.ok om).1
  have A4:=A3.fwd F4 r4 hw1 A.hg
  have bs:=build1 (.str []) H4 (x:=.str [40]) rfl
  have A5:=A4.push (.cells [.str [40]] 0 false)
  have F5:Fp pb H3 (H4.push (.cells [.str [40]] 0 false)):=F4.trans (push_fp _)
  simp only[sA,sB,seval,bs]
  refine (pis_spec A5.row (one_cel H4 [40]) (by simp)).mono ?_
  rintro _ _ ⟨rfl,rfl⟩
  generalize H4.push (.cells [.str [40]] 0 false)=H5 at *
  have f15:=f1 F5
  cases hs:sgn w1 [[40]] with
  | false=>
   rw[if_neg (by rw[hs]; simp)]at hr
   simp only[fineR,sJ]at hr
   subst hr
   obtain⟨H6,m6,l6,n6,k6,F6⟩:=fin F5 [.int .u8 2,.str w.S,.int .i64 0,.slice none 0 (.known 0)] rfl rfl
   simp only[sA,sB,seval,fldA,f15,bldName,m6,fin_ct,l6,OptP_some]
   exact⟨⟨_,tt,xe_leaf _ _ 2 w.S 0,A5.row.same (k6 pb om),hw1⟩,F6⟩
  | true=>
   rw[if_pos hs]at hr
   simp only[sA,sB,seval]
   refine (iha w.S H5 w1 g x y orv r A5 hs hr).mono ?_
   rintro u H6 ⟨ho,F6⟩
   have F56:=F5.trans F6
   have f16:=f1 F56
   cases r with
   | error e=>
    obtain⟨v,w',rfl,⟨v1,v2⟩,r6⟩:=ho
    obtain⟨H7,m7,l7,n7,k7,F7⟩:=fin F56 [.int .u8 4,.str w.S,.int .i64 0,v] rfl (one4 _ _ _ v1)
    simp only[sA,sB,seval,ext_0,ext_1,fldA,f16,bldCall w.S v v1,m7,fin_ct,l7,OptP_some]
    exact⟨⟨_,w',tt,rfl,⟨one4 _ _ _ v1,aeqs4 _ _ _ v2⟩,r6.same (k7 pb om)⟩,F7⟩
   | ok p=>
    obtain⟨e,w'⟩:=p
    obtain⟨kids,v,C,rfl,rfl,z1,z2,r6,o6⟩:=ho
    obtain⟨H7,m7,l7,n7,k7,F7⟩:=fin F56 [.int .u8 4,.str w.S,.int .i64 0,v] rfl (one4 _ _ _ z1.one)
    simp only[sA,sB,seval,ext_0,ext_1,fldA,f16,bldCall w.S v z1.one,m7,fin_ct,l7,OptP_some]
    have e5:=F5.next
    have km:∀b,In H5.next H6.next b→In H.next H7.next b∧H7.get b=H6.get b:=fun b hb=>⟨⟨by have:=hb.1; omega,by have:=hb.2; omega⟩,k7 b (by have:=hb.1; omega)⟩
    exact⟨⟨_,tt,⟨v,C,rfl,z1.mono km,z2.mono km⟩,r6.same (k7 pb om),o6⟩,F7⟩
 have c2':¬(w.k:Int)=2:=om
 rw[if_neg c2]at hr
 have bs:=build1 (.str []) H3 (x:=.str [40]) rfl
 have A5:=A3.push (.cells [.str [40]] 0 false)
 have F5:Fp pb H3 (H3.push (.cells [.str [40]] 0 false)):=push_fp _
 simp only[sA,sB,seval,c1',c2',fld0,f03,bs]
 refine (pis_spec A5.row (one_cel H3 [40]) (by simp)).mono ?_
 rintro _ _ ⟨rfl,rfl⟩
 generalize H3.push (.cells [.str [40]] 0 false)=H5 at *
 have e5:=F5.next
 cases hs:sgn w [[40]] with
 | false=>
  rw[if_neg (by rw[hs]; simp)]at hr
  simp only[badR,sJ]at hr
  subst hr
  simp only[sA,sB,seval,b0]
  refine (pfail_spec A5.row 101).mono ?_
  rintro _ H6 ⟨rfl,r6,F6⟩
  obtain⟨H7,m7,l7,n7,k7,F7⟩:=fin (F5.trans F6) [.int .u8 0,.str [],.int .i64 0,.slice none 0 (.known 0)] rfl rfl
  simp only[sA,sB,seval,m7,fin_ct,l7,OptP_some]
  exact⟨⟨_,w,tt,rfl,⟨rfl,rfl⟩,r6.same (k7 pb om)⟩,F7⟩
 | true=>
  rw[if_pos hs]at hr
  simp only[sA,sB,seval]
  refine (pstep_spec A5.row A5.lt A5.en).mono ?_
  rintro u H6 ⟨ho,F6⟩
  have F56:=F5.trans F6
  rcases onW_ok hr with⟨e,he,rfl⟩ | ⟨w1,he,hr⟩
  ·rw[he]at ho
   obtain⟨rfl,r6⟩:=ho
   obtain⟨H7,m7,l7,n7,k7,F7⟩:=fin F56 [.int .u8 0,.str [],.int .i64 0,.slice none 0 (.known 0)] rfl rfl
   simp only[sA,sB,seval,b0,m7,fin_ct,l7,OptP_some]
   exact⟨⟨_,w,tt,rfl,⟨rfl,rfl⟩,r6.same (k7 pb om)⟩,F7⟩
  rw[he]at ho
  obtain⟨rfl,r6⟩:=ho
  have hw1:=(stepW_ok he A.ok (by rw[sgn_k hs]; omega)).1
  have A6:=A5.fwd F6 r6 hw1 A.hg
  have lo:=A6.lor
  have e6:=F6.next
  simp only[sA,sB,seval,nil_cell,fldA,lo]
  obtain⟨r0,hr0⟩:∃r0,pE s f (.rule 5) g w1=some r0:=by
   rcases onR_ok hr with⟨e,he,rfl⟩ | ⟨e1,w2,he,_⟩
   ·exact⟨_,he⟩
   ·exact⟨_,he⟩
  refine (ihr H6 w1 g x y orv orv r0 A6 A6.or hr0).mono ?_
  rintro u H7 ⟨ho,F7⟩
  have e7:=F7.next
  have F57:=F56.trans F7
  have start:∃xs ok,u=.tuple [.agg xs,.bool ok]∧xs.length=4∧xs.all AVal.one=true∧aeqs xs xs=true:=by
   cases r0 with
   | error e=>obtain⟨xs,w',rfl,x1,⟨x2,x3⟩,_⟩:=ho; exact⟨xs,false,rfl,x1,x2,x3⟩
   | ok p=>obtain⟨e,w'⟩:=p; obtain⟨xs,rfl,x1,_⟩:=ho; exact⟨xs,true,rfl,x1.len,x1.one,x1.aeqs⟩
  obtain⟨xs,ok,rfl,x1,x2,x3⟩:=start
  obtain⟨H8,m8,r8,n8,k8⟩:=row_newL H7 [.int .u8 0,.str [],.int .i64 0,.slice none 0 (.known 0)] (n:=4) rfl
  obtain⟨H9,m9,r9,n9,k9⟩:=row_storeN r8 (n:=4) rfl x1 x2
  have l9:=row_loadN r9 x1
  have k97:∀c,c<H7.next→H9.get c=H7.get c:=fun c hc=>by rw[k9 c om,k8 c om]
  have F79:Fp pb H7 H9:=⟨om,fun c hc _=>k97 c hc⟩
  have F39:=F57.trans F79
  simp only[sA,sB,seval,ext_0,ext_1,m8,m9]
  rcases onR_ok hr with⟨e,he',rfl⟩ | ⟨e1,w2,he',hr⟩
  ·rw[hr0]at he'
   simp only[sJ]at he'
   subst he'
   obtain⟨xs',w2,hu,_,_,r7⟩:=ho
   simp only[AVal.tuple.injEq,List.cons.injEq,AVal.agg.injEq,AVal.bool.injEq,and_true]at hu
   obtain⟨rfl,rfl⟩:=hu
   obtain⟨Ha,ma,la,na,ka,Fa⟩:=fin F39 xs x1 x2
   refine aw_drawC rfl ?_
   simp only[sR,sA,sB,seval,l9,ma]
   simp only[ck_nil',ck_cons,ckP_load,ckP_nil,ck_end,and_true,true_and,List.map_cons,List.map_nil,sA,sB,seval]
   refine⟨⟨_,rfl,fun _=>⟨_,l9,by simpa[aeq] using x3⟩⟩,?_⟩
   simp only[sA,sB,seval,fin_ct,la,OptP_some]
   exact⟨⟨xs,w2,tt,x1,⟨x2,x3⟩,r7.same (by rw[ka pb om,k97 pb om])⟩,Fa⟩
  rw[hr0]at he'
  simp only[sJ]at he'
  subst he'
  obtain⟨xs',hu,hx,r7,o7⟩:=ho
  simp only[AVal.tuple.injEq,List.cons.injEq,AVal.agg.injEq,AVal.bool.injEq,and_true]at hu
  obtain⟨rfl,rfl⟩:=hu
  have A9:=A6.fwd (F7.trans F79) (r7.same (k97 pb om)) o7 A.hg
  refine aw_drawC rfl ?_
  simp only[sR,sA,sB,seval,l9]
  refine (ptake_spec A9.row A9.lt A9.en [41]).mono ?_
  rintro u Ha ⟨ho,Fa⟩
  have ea:=Fa.next
  have la:=row_loadN (r9.same (Fa.old _ om om)) x1
  obtain⟨Hb,mb,lb,nb,kb,Fb⟩:=fin (F39.trans Fa) xs x1 x2
  rcases onW_ok hr with⟨e,he,rfl⟩ | ⟨w3,he,hr⟩
  ·rw[he]at ho
   obtain⟨rfl,ra⟩:=ho
   simp only[sR,sA,sB,seval,mb]
   simp only[ck_nil',ck_cons,ckP_load,ckP_nil,ck_end,and_true,true_and,List.map_cons,List.map_nil,sA,sB,seval]
   refine⟨⟨_,rfl,fun _=>⟨_,la,by simpa[aeq] using x3⟩⟩,?_⟩
   simp only[sA,sB,seval,fin_ct,lb,OptP_some]
   exact⟨⟨xs,w2,tt,x1,⟨x2,x3⟩,ra.same (kb pb om)⟩,Fb⟩
  ·rw[he]at ho
   obtain⟨rfl,ra⟩:=ho
   simp only[fineR,sJ]at hr
   subst hr
   simp only[sR,sA,sB,seval,mb]
   simp only[ck_nil',ck_cons,ckP_load,ckP_nil,ck_end,and_true,true_and,List.map_cons,List.map_nil,sA,sB,seval]
   refine⟨⟨_,rfl,fun _=>⟨_,la,by simpa[aeq] using x3⟩⟩,?_⟩
   simp only[sA,sB,seval,fin_ct,lb,OptP_some]
   refine⟨⟨xs,tt,hx.mono fun c hc=>?_,ra.same (kb pb om),(takeW_ok he o7).2.2.1⟩,Fb⟩
   have h1:=hc.1
   have h2:=hc.2
   exact⟨⟨om,om⟩,by rw[kb c om,Fa.old c om om,k97 c h2]⟩
structure AllP(n pb:Nat)(s:Bs)(f:Nat):Prop where
 rule:∀k,k≤5→RuleP n pb s f k
 prim:PrimP n pb s f
 args:ArgsP n pb s f
theorem all_ok(n pb:Nat)(s:Bs):∀(f:Nat),f≤1000000→∀f',f'≤f→AllP n pb s f'
 | 0,_,f',h=>by
  obtain rfl:f'=0:=om
  exact⟨fun k _ H w g x y orv v r _ _ hr=>by simp[pE]at hr,fun H w g x y orv r _ hr=>by simp[pE]at hr,args_ok om fun f' h=>absurd h (Nat.not_lt_zero _)⟩
 | f+1,hf,f',h=>by
  have ih:=all_ok n pb s f om
  by_cases he:f'≤f
  ·exact ih f' he
  obtain rfl:f'=f+1:=om
  refine⟨fun k hk=>?_,prim_ok ((ih f rL).rule 5 om) (ih f rL).args,args_ok hf fun f' h=>(ih f' om).rule 5 om⟩
  cases k with
  | zero=>exact unary_ok ((ih f rL).rule 0 om) (ih f rL).prim
  | succ k=>exact two_ok hk fun f' h=>(ih f' h).rule k om
open Go.Abs Go.Abs.S
abbrev Z9:List AVal:=[.int .u8 0,.str [],.int .u8 0,.str [],.int .i64 0,.slice none 0 (.known 0),.slice none 0 (.known 0),.slice none 0 (.known 0),.int .i64 0]
theorem GS.pushZ{n m:Nat}{H:AHeap}{v:AVal}{l:List St}(h:GS n H v l){e:St}{xs:List AVal}(hx:XS (In m H.next) H e xs)(hm:n≤m)(hn:n≤H.next)(hv:Blk v (·<m))(hl:l.length≤1000000) :
  ∃v' H1 H' b lim,aAppend 9 136 (H.push (.cells Z9 0 false)) v (oneM H 9)=some (v',H1)∧aIdxA 9 v' (.int .i64 (l.length:Int))=some (cellR b lim (l.length*9))∧oStore 9 H1 (cellR b lim (l.length*9)) (.agg xs)=some H'∧v'.one=true∧GS n H' v' (l++[e])∧n≤b∧H.next≤H1.next∧H1.next=H'.next∧(∀c,c<H.next→Blk v (c≠·)→H1.get c=H.get c)∧(∀c,c<H.next→Blk v (c≠·)→c≠b)∧∀c,c<H.next→Blk v (c≠·)→H'.get c=H.get c:=by
 obtain⟨C,h1,h2,h3⟩:=h
 have hlC:C.length=9*l.length:=h3.len
 obtain⟨v',H1,a1,a2,a3,a4,a5⟩:=h1.pushB (xs:=Z9) rfl rfl om (bytes:=136) om om
 have hb2:=a4 _ h2
 have hb3:=fun c (hc:Blk v (c≠·))=>a4 _ hc
 rcases a2 with⟨_,_,hk⟩ | ⟨b,low,rfl,q2,q3,q4,q5,q6,q7⟩
 ·omega
 have hbn:n≤b:=by
  rcases hb2 _ _ _ rfl with hb | hb
  ·exact hb.1
  ·exact Nat.le_trans hn hb
 have hR:Row H1 b (C++Z9):=⟨low,q5,q6⟩
 have hlz:(C++Z9).length=C.length+9:=by simp
 obtain⟨H',m1,r1,n1,k1⟩:=row_stK hR (n:=(C++Z9).length) rfl (i:=l.length*9) (k:=9) om (xs:=xs) hx.len hx.one (l':=C++xs) (by
  rw[show l.length*9=C.length by omega,List.take_left',List.drop_of_length_le om,List.append_nil]; rfl)
 have hlx:(C++xs).length=(C++Z9).length:=by simp[hx.len]
 have ne:∀c,c<H.next→Blk v (c≠·)→c≠b:=fun c hc hd=>by
  rcases hb3 c hd _ _ _ rfl with hb | hb
  ·exact hb
  ·have hb':H.next≤b:=hb
   omega
 have k:∀c,In n H.next c→Blk v (c≠·)→In n H'.next c∧Blk (AVal.slice (some ⟨b,(C++Z9).length,0⟩) (l.length+1) (.open_ 9)) (c≠·):=fun c hc hd=>
  ⟨⟨hc.1,by have:=hc.2; omega⟩,blk_some (ne c hc.2 hd)⟩
 have fr:∀c,c<H.next→Blk v (c≠·)→H'.get c=H.get c:=fun c hc hd=>by rw[k1 c (ne c hc hd),a5 c hc hd]
 refine⟨_,H1,H',b,_,a1,idxM .i64 om,m1,rfl,⟨C++xs,?_,blk_some ⟨hbn,(by omega:b<H'.next)⟩,XSs.app (XSs.sing ?_) ?_⟩,hbn,a3,om,a5,ne,fr⟩
 ·obtain⟨low',g1,g2⟩:=r1
  rw[← hlx]
  exact .inr ⟨b,low',by simp,by simp[hx.len]; omega,Nat.zero_le _,om,g1,g2,by simp⟩
 ·refine hx.mono fun c hc=>⟨?_,fr c hc.2 ?_⟩
  ·exact k c ⟨Nat.le_trans hm hc.1,hc.2⟩ (hv.mono fun d hd=>by have:=hc.1; omega)
  ·exact hv.mono fun d hd=>by have:=hc.1; omega
 ·exact h3.mono fun c hc=>⟨k c hc.1 hc.2,fr c hc.1.2 hc.2⟩
structure Fs(pb sb:Nat)(H H':AHeap):Prop where
 next:H.next≤H'.next
 old:∀c,c<H.next→c≠pb→c≠sb→H'.get c=H.get c
theorem Fs.of{pb sb:Nat}{H H':AHeap}(f:Fp pb H H'):Fs pb sb H H':=⟨f.next,fun c h1 h2 _=>f.old c h1 h2⟩
theorem Fs.trans{pb sb:Nat}{H H' H2:AHeap}(a:Fs pb sb H H')(b:Fs pb sb H' H2):Fs pb sb H H2:=
 ⟨Nat.le_trans a.next b.next,fun c h1 h2 h3=>by rw[b.old c (Nat.lt_of_lt_of_le h1 a.next) h2 h3,a.old c h1 h2 h3]⟩
theorem PA.fws{n pb sb:Nat}{s:Bs}{H H':AHeap}{w w':Wd}{g g':Nat}{x y x' y':Int}{orv:AVal}(h:PA n pb s H w g x y orv)(hs:n≤sb)(f:Fs pb sb H H')(r:Row H' pb (pObj s w' g' x' y' orv))(hw:WOk s w')(hg:g'≤200):PA n pb s H' w' g' x' y' orv:=
 ⟨r,h.hpb,Nat.le_trans h.hn f.next,h.or.keep fun c hc hp=>f.old c (Nat.lt_of_lt_of_le hc h.hn) hp om,hw,hg⟩
theorem pexpr_spec{n pb sb:Nat}{s:Bs}{f:Nat}(ihr:RuleP n pb s f 5){H:AHeap}{w:Wd}{g:Nat}{x y:Int}{orv:AVal}{r:Res Ex}(A:PA n pb s H w g x y orv)(hr:pE s f (.rule 5) g w=some r){l:List AVal}(hl:Row H sb l)(hl9:l.length=9)(hs:n≤sb)(hsb:sb<H.next){i:Nat}(hi:i+4≤9) :
  ACalls Tryz.prog natT 68 [cellR pb 11 0,cellR sb 9 i] H fun u H'=>(match r with
   | .ok (e,w')=>u=.bool true∧∃xs,Row H' sb (l.take i++(xs++l.drop (i+4)))∧XE (In H.next H'.next) H' e xs∧Row H' pb (pObj s w' g x y orv)∧WOk s w'
   | .error e=>u=.bool false∧∃w',Row H' pb (pObj s w' g e.1 e.2 orv))∧Fs pb sb H H':=by
 refine acalls_ofN rfl za68 rfl ?_
 have lo:=A.lor
 have hlt:=A.lt
 have hpn:=A.hpb
 simp only[c68,sA,sB,seval,nil_cell,fldA,lo]
 refine (ihr H w g x y orv orv r A A.or hr).mono ?_
 rintro u H1 ⟨ho,F1⟩
 have e1:=F1.next
 cases r with
 | error e=>
  obtain⟨xs,w',rfl,x1,⟨x2,_⟩,r1⟩:=ho
  obtain⟨H2,m2,r2,n2,k2⟩:=row_newL H1 [.int .u8 0,.str [],.int .i64 0,.slice none 0 (.known 0)] (n:=4) rfl
  obtain⟨H3,m3,r3,n3,k3⟩:=row_storeN r2 (n:=4) rfl x1 x2
  simp only[sA,sB,seval,ext_0,ext_1,m2,m3]
  exact⟨⟨tt,w',r1.same (by rw[k3 _ om,k2 _ om])⟩,om,fun c h1 h2 _=>by rw[k3 c om,k2 c om,F1.old c h1 h2]⟩
 | ok p=>
  obtain⟨e,w'⟩:=p
  obtain⟨xs,rfl,hx,r1,o1⟩:=ho
  obtain⟨H2,m2,r2,n2,k2⟩:=row_newL H1 [.int .u8 0,.str [],.int .i64 0,.slice none 0 (.known 0)] (n:=4) rfl
  obtain⟨H3,m3,r3,n3,k3⟩:=row_storeN r2 (n:=4) rfl hx.len hx.one
  have l3:=row_loadN r3 hx.len
  obtain⟨H4,m4,r4,n4,k4⟩:=row_stK (hl.same (H':=H3) (by rw[k3 _ om,k2 _ om,F1.old sb hsb om])) hl9 (i:=i) (k:=4) hi hx.len hx.one rfl
  simp only[sA,sB,seval,ext_0,ext_1,m2,m3,l3,nil_cell,m4]
  refine⟨⟨tt,xs,r4,hx.mono fun c hc=>?_,r1.same (by rw[k4 _ om,k3 _ om,k2 _ om]),o1⟩,om,fun c h1 h2 h3=>by rw[k4 c h3,k3 c om,k2 c om,F1.old c h1 h2]⟩
  have h1:=hc.1
  have h2:=hc.2
  exact⟨⟨h1,om⟩,by rw[k4 c om,k3 c om,k2 c om]⟩
def sObj(k:Int)(S:Bs)(xs:List AVal)(vb ve:AVal)(line:Int):List AVal:=.int .u8 k::.str S::(xs++[vb,ve,.int .i64 line])
abbrev Zx:List AVal:=[.int .u8 0,.str [],.int .i64 0,.slice none 0 (.known 0)]
theorem pnamed_spec{n pb sb:Nat}{s:Bs}{f:Nat}(ihr:RuleP n pb s f 5){H:AHeap}{w:Wd}{g:Nat}{x y:Int}{orv:AVal}{k line:Nat}{r:Res (List St)}(A:PA n pb s H w g x y orv)(hr:namedW s (pE s f) k line g w=some r)(hl:Row H sb (sObj k [] Zx nilS nilS line))(hs:n≤sb)(hsb:sb<H.next) :
  ACalls Tryz.prog natT 65 [cellR pb 11 0,cellR sb 9 0] H fun u H'=>(match r with
   | .ok (l,w')=>u=.bool true∧∃e xs,l=[.mk k w.S e [] [] line]∧Row H' sb (sObj k w.S xs nilS nilS line)∧XE (In H.next H'.next) H' e xs∧Row H' pb (pObj s w' g x y orv)∧WOk s w'
   | .error e=>u=.bool false∧∃w',Row H' pb (pObj s w' g e.1 e.2 orv))∧Fs pb sb H H':=by
 refine acalls_ofN rfl za65 rfl ?_
 unfold namedW at hr
 have hlt:=A.lt
 have hpn:=A.hpb
 have l1:oLoad false 1 H (cellR pb 11 1)=some (.int .u8 (w.k:Int)):=row_load A.row rfl rfl
 have l2:oLoad false 1 H (cellR pb 11 2)=some (.str w.S):=row_load A.row rfl rfl
 by_cases hk:w.k=2
 case neg=>
  have hk':¬(w.k:Int)=2:=om
  rw[if_neg hk]at hr
  simp only[badR,sJ]at hr
  subst hr
  simp only[c65,sA,sB,seval,nil_cell,fldA,fld0,l1,hk']
  refine (pfail_spec A.row 101).mono ?_
  rintro _ H1 ⟨rfl,r1,F1⟩
  simp only[sA,sB,seval]
  exact⟨⟨tt,w,r1⟩,.of F1⟩
 have hk':(w.k:Int)=2:=om
 rw[if_pos hk]at hr
 obtain⟨H1,m1,r1,n1,k1⟩:=row_st hl (n:=9) rfl (i:=1) om (x:=.str w.S) rfl (l':=sObj k w.S Zx nilS nilS line) rfl
 have F1:Fs pb sb H H1:=⟨om,fun c _ _ h=>k1 c h⟩
 have A1:=A.fws hs F1 (A.row.same (k1 pb om)) A.ok A.hg
 simp only[c65,sA,sB,seval,nil_cell,fldA,fld0,l1,hk',l2,m1]
 refine (pstep_spec A1.row A1.lt A1.en).mono ?_
 rintro u H2 ⟨ho,F2⟩
 have e2:=F2.next
 rcases onW_ok hr with⟨e,he,rfl⟩ | ⟨w1,he,hr⟩
 ·rw[he]at ho
  obtain⟨rfl,r2⟩:=ho
  simp only[sA,sB,seval]
  exact⟨⟨tt,w,r2⟩,F1.trans (.of F2)⟩
 rw[he]at ho
 obtain⟨rfl,r2⟩:=ho
 have A2:=A1.fwd F2 r2 (stepW_ok he A.ok om).1 A.hg
 simp only[sA,sB,seval]
 refine (ptake_spec A2.row A2.lt A2.en [61]).mono ?_
 rintro u H3 ⟨ho,F3⟩
 have e3:=F3.next
 have F13:=F2.trans F3
 rcases onW_ok hr with⟨e,he,rfl⟩ | ⟨w2,he,hr⟩
 ·rw[he]at ho
  obtain⟨rfl,r3⟩:=ho
  simp only[sA,sB,seval]
  exact⟨⟨tt,w1,r3⟩,F1.trans (.of F13)⟩
 rw[he]at ho
 obtain⟨rfl,r3⟩:=ho
 have A3:=A2.fwd F3 r3 (takeW_ok he A2.ok).2.2.1 A.hg
 have q3:=r1.same (F13.old sb om om)
 obtain⟨r0,hr0⟩:∃r0,pE s f (.rule 5) g w2=some r0:=by
  rcases onR_ok hr with⟨e,he,rfl⟩ | ⟨e1,w3,he,_⟩
  ·exact⟨_,he⟩
  ·exact⟨_,he⟩
 simp only[sA,sB,seval,nil_cell,fldA]
 refine (pexpr_spec ihr A3 hr0 q3 rfl hs om (i:=2) om).mono ?_
 rintro u H4 ⟨ho,F4⟩
 have e4:=F4.next
 have F04:=(F1.trans (.of F13)).trans F4
 rcases onR_ok hr with⟨e,he,rfl⟩ | ⟨e1,w3,he,hr⟩
 ·rw[hr0]at he
  simp only[sJ]at he
  subst he
  obtain⟨rfl,w',r4⟩:=ho
  simp only[sA,sB,seval]
  exact⟨⟨tt,w',r4⟩,F04⟩
 rw[hr0]at he
 simp only[sJ]at he
 subst he
 obtain⟨rfl,xs,q4,hx,r4,o4⟩:=ho
 have A4:=A3.fws hs F4 r4 o4 A.hg
 simp only[sA,sB,seval]
 refine (ptake_spec A4.row A4.lt A4.en [59]).mono ?_
 rintro u H5 ⟨ho,F5⟩
 rcases onW_ok hr with⟨e,he,rfl⟩ | ⟨w4,he,hr⟩
 ·rw[he]at ho
  obtain⟨rfl,r5⟩:=ho
  simp only[sA,sB,seval]
  exact⟨⟨tt,w3,r5⟩,F04.trans (.of F5)⟩
 rw[he]at ho
 obtain⟨rfl,r5⟩:=ho
 simp only[fineR,sJ]at hr
 subst hr
 have e5:=F5.next
 simp only[sA,sB,seval]
 refine⟨⟨tt,e1,xs,rfl,q4.same (F5.old _ om om),hx.mono fun c hc=>?_,r5,(takeW_ok he o4).2.2.1⟩,F04.trans (.of F5)⟩
 have h1:=hc.1
 have h2:=hc.2
 exact⟨⟨om,om⟩,F5.old c h2 om⟩
open Go.Abs Go.Abs.S
def OutS(pb:Nat)(s:Bs)(g:Nat)(x y:Int)(orv:AVal)(H:AHeap)(r:Res (List St))(u:AVal)(H':AHeap):Prop:=
 (match r with
 | .ok (l,w')=>∃st xs,l=[st]∧u=.tuple [.agg xs,.bool true]∧XS (In H.next H'.next) H' st xs∧Row H' pb (pObj s w' g x y orv)∧WOk s w'
 | .error e=>u=.tuple [.agg Z9,.bool false]∧∃w',Row H' pb (pObj s w' g e.1 e.2 orv))∧Fp pb H H'
def StmtP(n pb:Nat)(s:Bs)(f:Nat):Prop:=∀(H:AHeap) (w:Wd) (g:Nat) (x y:Int) (orv:AVal) (r:Res (List St)),PA n pb s H w g x y orv→pS s f .stmt g w=some r→ACalls Tryz.prog natT 32 [cellR pb 11 0] H (OutS pb s g x y orv H r)
def BodyP(n pb:Nat)(s:Bs)(f:Nat):Prop:=∀(H:AHeap) (w:Wd) (g:Nat) (x y:Int) (orv:AVal) (r:Res (List St)) (sb i:Nat) (l:List AVal),PA n pb s H w g x y orv→Row H sb l→l.length=9→n≤sb→sb<H.next→l[i]?=some nilS→pS s f .body g w=some r →
  ACalls Tryz.prog natT 67 [cellR pb 11 0,cellR sb 9 i] H fun u H'=>(match r with
   | .ok (out,w')=>u=.bool true∧∃v C,Row H' sb (l.set i v)∧SlK (In H.next H'.next) H' 9 v out.length C∧XSs (In H.next H'.next) H' out C∧Row H' pb (pObj s w' g x y orv)∧WOk s w'
   | .error e=>u=.bool false∧∃w',Row H' pb (pObj s w' g e.1 e.2 orv))∧Fs pb sb H H'
theorem pf_apart{a b n m i j:Nat}(h:a≠b):aPf .apart [cellR a n i,cellR b m j]=some (.bool true):=by
 show (bif apB (cellR a n i) (cellR b m j) then some (AVal.bool true) else none)=_
 have:apB (cellR a n i) (cellR b m j)=true:=by
  simp only[apB,blkOf,cellR]
  rw[show Nat.beq a b=false by rw[beq_dec]; exact decide_eq_false h]; rfl
 rw[this]; rfl
theorem GS.len{n:Nat}{H:AHeap}{v:AVal}{l:List St}(h:GS n H v l):aLenK false v=some (.int .i64 (l.length:Int)):=by
 obtain⟨C,h1,_⟩:=h; exact h1.len
theorem GS.aeq{n:Nat}{H:AHeap}{v:AVal}{l:List St}(h:GS n H v l):aeq v v=true:=by
 obtain⟨C,h1,_⟩:=h.sl; exact h1.aeq
theorem set_same{l:List AVal}{i:Nat}{x:AVal}(h:l[i]?=some x):l.set i x=l:=by
 apply List.ext_getElem?
 intro j
 rw[List.getElem?_set]
 by_cases e:i=j
 ·subst e
  have:=(List.getElem?_eq_some_iff.1 h).1
  rw[if_pos rfl,if_pos this,h]
 ·rw[if_neg e]
theorem body_ok{n pb:Nat}{s:Bs}{f:Nat}(hf:f≤1000000)(ihs:∀f',f'<f→StmtP n pb s f'):BodyP n pb s f:=by
 intro H w g x y orv r sb i l A hl hl9 hs hsb hi hr
 refine acalls_ofN rfl za67 rfl ?_
 have hlt:=A.lt
 have hpn:=A.hpb
 have hi9:i<9:=by have:=(List.getElem?_eq_some_iff.1 hi).1; omega
 cases f with
 | zero=>simp[pS]at hr
 | succ f=>
 rw[pS_succ]at hr
 simp only[stepS]at hr
 simp only[c67,sA,sB,seval]
 refine (ptake_spec A.row hlt A.en [123]).mono ?_
 rintro u H1 ⟨ho,F1⟩
 have e1:=F1.next
 rcases onW_ok hr with⟨e,he,rfl⟩ | ⟨w1,he,hr⟩
 ·rw[he]at ho
  obtain⟨rfl,r1⟩:=ho
  simp only[sA,sB,seval]
  exact⟨⟨tt,w,r1⟩,.of F1⟩
 rw[he]at ho
 obtain⟨rfl,r1⟩:=ho
 have A1:=A.fwd F1 r1 (takeW_ok he A.ok).2.2.1 A.hg
 simp only[sA,sB,seval]
 refine aw_loop (fun m (T:Env) H'=>∃out w' v,T 0=cellR pb 11 0∧T 1=cellR sb 9 i∧GS H.next H' v out∧out.length+m≤f∧PA n pb s H' w' g x y orv∧Row H' sb (l.set i v)∧Fs pb sb H H'∧pS s m (.more out) g w'=some r) f
  ⟨[],w1,nilS,by simp only[sA,sB,seval],by simp only[sA,sB,seval],GS.nil _ _,by simp,A1,by
   rw[set_same hi]; exact hl.same (F1.old sb hsb om),.of F1,hr⟩ ?_
 rintro m T H2 ⟨out,w',v,t0,t1,G2,hm,A2,q2,F2,hp⟩
 have e2:=F2.next
 cases m with
 | zero=>simp[pS]at hp
 | succ m=>
 rw[pS_succ]at hp
 simp only[stepS]at hp
 have bs:=build1 (.str []) H2 (x:=.str [125]) rfl
 have A3:=A2.push (.cells [.str [125]] 0 false)
 have F3:Fp pb H2 (H2.push (.cells [.str [125]] 0 false)):=push_fp _
 simp only[sA,sB,seval,t0,t1,bs]
 refine (pis_spec A3.row (one_cel H2 [125]) (by simp)).mono ?_
 rintro _ _ ⟨rfl,rfl⟩
 generalize H2.push (.cells [.str [125]] 0 false)=H3 at *
 have e3:=F3.next
 have F03:=F2.trans (.of F3)
 have q3:=q2.same (F3.old sb om om)
 have G3:GS H.next H3 v out:=G2.keep e3 fun c hc=>F3.old c hc.2 (by have:=hc.1; omega)
 cases hs2:sgn w' [[125]] with
 | true=>
  rw[if_pos hs2]at hp
  simp only[sA,sB,seval,t0]
  refine (pstep_spec A3.row A3.lt A3.en).mono ?_
  rintro u H4 ⟨ho,F4⟩
  have e4:=F4.next
  rcases onW_ok hp with⟨e,he,rfl⟩ | ⟨w2,he,hp⟩
  ·rw[he]at ho
   obtain⟨rfl,r4⟩:=ho
   simp only[sA,sB,seval]
   exact⟨⟨tt,w',r4⟩,F03.trans (.of F4)⟩
  ·rw[he]at ho
   obtain⟨rfl,r4⟩:=ho
   simp only[fineR,sJ]at hp
   subst hp
   have G4:=G3.keep e4 fun c hc=>F4.old c hc.2 (by have:=hc.1; omega)
   obtain⟨C,z1,z2⟩:=G4.sl
   simp only[sA,sB,seval]
   exact⟨⟨tt,v,C,q3.same (F4.old sb om om),z1,z2,r4,(stepW_ok he A3.ok (by rw[sgn_k hs2]; omega)).1⟩,F03.trans (.of F4)⟩
 | false=>
 rw[if_neg (by rw[hs2]; simp)]at hp
 obtain⟨r0,hr0⟩:∃r0,pS s m .stmt g w'=some r0:=by
  rcases onR_ok hp with⟨e,he,rfl⟩ | ⟨e1,w2,he,_⟩
  ·exact⟨_,he⟩
  ·exact⟨_,he⟩
 simp only[sA,sB,seval,t0]
 refine (ihs m om H3 w' g x y orv r0 A3 hr0).mono ?_
 rintro u H4 ⟨ho,F4⟩
 have e4:=F4.next
 have F04:=F03.trans (.of F4)
 rcases onR_ok hp with⟨e,he,rfl⟩ | ⟨st',w2,he,hp⟩
 ·rw[hr0]at he
  simp only[sJ]at he
  subst he
  obtain⟨rfl,w2,r4⟩:=ho
  obtain⟨H5,m5,r5,n5,k5⟩:=row_newL H4 [.int .u8 0,.str [],.int .u8 0,.str [],.int .i64 0,.slice none 0 (.known 0),.slice none 0 (.known 0),.slice none 0 (.known 0),.int .i64 0] (n:=9) rfl
  obtain⟨H6,m6,r6,n6,k6⟩:=row_storeN r5 (n:=9) rfl (xs:=Z9) rfl rfl
  simp only[sA,sB,seval,ext_0,ext_1,m5,m6]
  exact⟨⟨tt,w2,r4.same (by rw[k6 _ om,k5 _ om])⟩,om,fun c h1 h2 h3=>by rw[k6 c om,k5 c om,F04.old c h1 h2 h3]⟩
 rw[hr0]at he
 simp only[sJ]at he
 subst he
 obtain⟨st,xs,rfl,rfl,hx,r4,o4⟩:=ho
 obtain⟨H5,m5,r5,n5,k5⟩:=row_newL H4 [.int .u8 0,.str [],.int .u8 0,.str [],.int .i64 0,.slice none 0 (.known 0),.slice none 0 (.known 0),.slice none 0 (.known 0),.int .i64 0] (n:=9) rfl
 obtain⟨H6,m6,r6,n6,k6⟩:=row_storeN r5 (n:=9) rfl hx.len hx.one
 have k64:∀c,c<H4.next→H6.get c=H4.get c:=fun c hc=>by rw[k6 c om,k5 c om]
 have l6:=row_loadN r6 hx.len
 have F06:Fs pb sb H H6:=F04.trans ⟨om,fun c h1 _ _=>k64 c h1⟩
 have q6:=q3.same (H':=H6) (by rw[k64 sb om,F4.old sb om om])
 have lv:oLoad false 1 H6 (cellR sb 9 i)=some v:=row_load q6 (by rw[List.length_set]; exact hl9) (by rw[List.getElem?_set]; simp[hl9,hi9])
 have G6:GS H.next H6 v out:=G3.keep om fun c hc=>by
  have h1:=hc.1
  have h2:=hc.2
  rw[k64 c om,F4.old c h2 om]
 have hx6:XS (In H3.next H6.next) H6 st xs:=hx.mono fun c hc=>⟨⟨hc.1,by have:=hc.2; omega⟩,k64 c hc.2⟩
 have hbs:Blk v (In H.next H3.next):=by
  obtain⟨C,_,q,_⟩:=G3
  exact q
 have bm:=buildM (z:=[.int .u8 0,.str [],.int .u8 0,.str [],.int .i64 0,.slice none 0 (.known 0),.slice none 0 (.known 0),.slice none 0 (.known 0),.int .i64 0]) (xs:=[.int .u8 0,.str [],.int .u8 0,.str [],.int .i64 0,.slice none 0 (.known 0),.slice none 0 (.known 0),.slice none 0 (.known 0),.int .i64 0]) (m:=9) H6 rfl rfl
 obtain⟨v',H7,H8,b,lim,a7,i7,s7,o7,G8,hbn,e67,e78,fr7,neb,fr8⟩:=G6.pushZ hx6 om om (hbs.mono fun c hc=>hc.2) om
 have bsb:Blk v (sb≠·):=hbs.mono fun c hc=>by have:=hc.1; omega
 have bpb:Blk v (pb≠·):=hbs.mono fun c hc=>by have:=hc.1; omega
 have nsb:sb≠b:=om
 have npb:pb≠b:=om
 obtain⟨H9,m9,r9,n9,k9⟩:=row_st (q6.same (fr8 sb om bsb)) (n:=9) (by rw[List.length_set]; exact hl9) (i:=i) hi9 (x:=v') o7 (l':=l.set i v') (by rw[List.set_set])
 have lvP:oLoad false 1 (H6.push (.cells Z9 0 false)) (cellR sb 9 i)=some v:=row_load (q6.same (get_push_lt om)) (by rw[List.length_set]; exact hl9) (by rw[List.getElem?_set]; simp[hl9,hi9])
 have lxP:oLoad true 9 (H6.push (.cells Z9 0 false)) (cellR H4.next 9 0)=some (.agg xs):=row_loadN (r6.same (get_push_lt om)) hx.len
 simp only[Z9]at a7 lvP lxP
 have ln:=G6.len
 simp only[sA,sB,seval,ext_0,ext_1,m5,m6]
 refine aw_drawC rfl ?_
 simp only[sR,sA,sB,seval,t0,t1,nil_cell,lv,l6,ln,bm,a7,i7,s7,m9]
 simp only[ck_nil',ck_cons,ckP_load,ckP_nil,ck_end,and_true,true_and,List.map_cons,List.map_nil,sA,sB,seval,t0,t1]
 refine⟨⟨⟨_,rfl,fun _=>⟨_,lvP,G6.aeq⟩⟩,⟨_,rfl,fun _=>⟨_,lxP,by simpa[aeq] using hx.aeqs⟩⟩⟩,?_⟩
 simp only[sA,sB,seval,pf_apart nsb]
 have F9:Fs pb sb H H9:=⟨om,fun c h1 h2 h3=>by
  rw[k9 c h3,fr8 c om (hbs.mono fun d hd=>by have:=hd.1; omega),F06.old c h1 h2 h3]⟩
 refine⟨m,om,out++[st],w2,v',by simp only[sA,sB,seval,t0],by simp only[sA,sB,seval,t1],G8.keep om fun c hc=>k9 c (by have:=hc.1; omega),by simp; omega,A.fws hs F9 ?_ o4 A.hg,r9,F9,hp⟩
 exact r4.same (by rw[k9 pb om,fr8 pb om bpb,k64 pb om])
open Go.Abs Go.Abs.S
def askP(s:Bs)(pe:NT→Nat→Wd→Option (Res Ex))(rec:NS→Nat→Wd→Option (Res (List St)))(g:Nat)(w:Wd):Option (Res (Ex×List St)):=
 onW (takeW s [40] w) fun w1=>onR (pe (.rule 5) g w1) fun e w2=>onW (takeW s [41] w2) fun w3=>onR (rec .body g w3) fun l w4=>fineR (e,l) w4
theorem askedW_eq(s:Bs)(pe:NT→Nat→Wd→Option (Res Ex))(rec:NS→Nat→Wd→Option (Res (List St)))(g:Nat)(w:Wd)(f:Ex→List St→Wd→Option (Res (List St))):askedW s pe rec g w f=onR (askP s pe rec g w) fun p w4=>f p.1 p.2 w4:=by
 unfold askedW askP
 cases takeW s [40] w with
 | error e=>rfl
 | ok w1=>
  simp only[onW]
  cases pe (.rule 5) g w1 with
  | none=>rfl
  | some o=>
   cases o with
   | error e=>rfl
   | ok p=>
    obtain⟨e,w2⟩:=p
    simp only[onR]
    cases takeW s [41] w2 with
    | error e=>rfl
    | ok w3=>
     simp only[onW]
     cases rec .body g w3 with
     | none=>rfl
     | some o=>
      cases o with
      | error e=>rfl
      | ok p=>obtain⟨l,w4⟩:=p; rfl
theorem pasked_spec{n pb sb:Nat}{s:Bs}{f:Nat}(ihr:RuleP n pb s f 5)(ihb:BodyP n pb s f){H:AHeap}{w:Wd}{g:Nat}{x y:Int}{orv:AVal}{k line:Nat}{r:Res (Ex×List St)}(A:PA n pb s H w g x y orv)(hr:askP s (pE s f) (pS s f) g w=some r)(hl:Row H sb (sObj k [] Zx nilS nilS line))(hs:n≤sb)(hsb:sb<H.next) :
  ACalls Tryz.prog natT 66 [cellR pb 11 0,cellR sb 9 0] H fun u H'=>(match r with
   | .ok (p,w')=>u=.bool true∧∃xs v C,Row H' sb (sObj k [] xs v nilS line)∧XE (In H.next H'.next) H' p.1 xs∧SlK (In H.next H'.next) H' 9 v p.2.length C∧XSs (In H.next H'.next) H' p.2 C∧Row H' pb (pObj s w' g x y orv)∧WOk s w'
   | .error e=>u=.bool false∧∃w',Row H' pb (pObj s w' g e.1 e.2 orv))∧Fs pb sb H H':=by
 refine acalls_ofN rfl za66 rfl ?_
 unfold askP at hr
 have hlt:=A.lt
 have hpn:=A.hpb
 simp only[c66,sA,sB,seval]
 refine (ptake_spec A.row A.lt A.en [40]).mono ?_
 rintro u H3 ⟨ho,F3⟩
 have e3:=F3.next
 rcases onW_ok hr with⟨e,he,rfl⟩ | ⟨w2,he,hr⟩
 ·rw[he]at ho
  obtain⟨rfl,r3⟩:=ho
  simp only[sA,sB,seval]
  exact⟨⟨tt,w,r3⟩,.of F3⟩
 rw[he]at ho
 obtain⟨rfl,r3⟩:=ho
 have A3:=A.fwd F3 r3 (takeW_ok he A.ok).2.2.1 A.hg
 have q3:=hl.same (F3.old sb om om)
 obtain⟨r0,hr0⟩:∃r0,pE s f (.rule 5) g w2=some r0:=by
  rcases onR_ok hr with⟨e,he,rfl⟩ | ⟨e1,w3,he,_⟩
  ·exact⟨_,he⟩
  ·exact⟨_,he⟩
 simp only[sA,sB,seval,nil_cell,fldA]
 refine (pexpr_spec ihr A3 hr0 q3 rfl hs om (i:=2) om).mono ?_
 rintro u H4 ⟨ho,F4⟩
 have e4:=F4.next
 have F04:Fs pb sb H H4:=(Fs.of F3).trans F4
 rcases onR_ok hr with⟨e,he,rfl⟩ | ⟨e1,w3,he,hr⟩
 ·rw[hr0]at he
  simp only[sJ]at he
  subst he
  obtain⟨rfl,w',r4⟩:=ho
  simp only[sA,sB,seval]
  exact⟨⟨tt,w',r4⟩,F04⟩
 rw[hr0]at he
 simp only[sJ]at he
 subst he
 obtain⟨rfl,xs,q4,hx,r4,o4⟩:=ho
 have q4':Row H4 sb (sObj k [] xs nilS nilS line):=q4
 have A4:=A3.fws hs F4 r4 o4 A.hg
 simp only[sA,sB,seval]
 refine (ptake_spec A4.row A4.lt A4.en [41]).mono ?_
 rintro u H5 ⟨ho,F5⟩
 have e5:=F5.next
 have F05:=F04.trans (.of F5)
 rcases onW_ok hr with⟨e,he,rfl⟩ | ⟨w4,he,hr⟩
 ·rw[he]at ho
  obtain⟨rfl,r5⟩:=ho
  simp only[sA,sB,seval]
  exact⟨⟨tt,w3,r5⟩,F05⟩
 rw[he]at ho
 obtain⟨rfl,r5⟩:=ho
 have A5:=A4.fwd F5 r5 (takeW_ok he o4).2.2.1 A.hg
 have q5:=q4'.same (F5.old _ om om)
 obtain⟨r1,hr1⟩:∃r1,pS s f .body g w4=some r1:=by
  rcases onR_ok hr with⟨e,he,rfl⟩ | ⟨e1,w3,he,_⟩
  ·exact⟨_,he⟩
  ·exact⟨_,he⟩
 have l9:(sObj (k:Int) [] xs nilS nilS line).length=9:=by simp[sObj,hx.len]
 obtain⟨a,b,c,d,rfl⟩:∃a b c d,xs=[a,b,c,d]:=by
  have:=hx.len
  match xs,this with
  | [a,b,c,d],_=>exact⟨a,b,c,d,rfl⟩
 simp only[sA,sB,seval,nil_cell,fldA]
 refine (ihb H5 w4 g x y orv r1 sb 6 _ A5 q5 l9 hs om rfl hr1).mono ?_
 rintro u H6 ⟨ho,F6⟩
 have e6:=F6.next
 have F06:=F05.trans F6
 rcases onR_ok hr with⟨e,he,rfl⟩ | ⟨out,w5,he,hr⟩
 ·rw[hr1]at he
  simp only[sJ]at he
  subst he
  obtain⟨rfl,w',r6⟩:=ho
  simp only[sA,sB,seval]
  exact⟨⟨tt,w',r6⟩,F06⟩
 rw[hr1]at he
 simp only[sJ]at he
 subst he
 obtain⟨rfl,v,C,q6,z1,z2,r6,o6⟩:=ho
 simp only[fineR,sJ]at hr
 subst hr
 simp only[sA,sB,seval]
 have km:∀c,In H5.next H6.next c→In H.next H6.next c∧H6.get c=H6.get c:=fun c hc=>⟨⟨by have:=hc.1; omega,hc.2⟩,rfl⟩
 refine⟨⟨tt,[a,b,c,d],v,C,q6,hx.mono fun c hc=>?_,z1.mono km,z2.mono km,r6,o6⟩,F06⟩
 have h1:=hc.1
 have h2:=hc.2
 exact⟨⟨om,om⟩,by rw[F6.old c om om om,F5.old c h2 om]⟩
theorem dst_spec{H:AHeap}{pb c:Nat}{s:Bs}{w:Wd}{g:Nat}{x y:Int}{orv:AVal}(hc:Row H c [cellR pb 11 0])(hr:Row H pb (pObj s w ((g+1:Nat):Int) x y orv))(hg:g≤1000):ACalls Tryz.prog natT 3135 [cellR c 1 0] H fun _ H'=>Row H' pb (pObj s w (g:Int) x y orv)∧H'.next=H.next∧∀k,k≠pb→H'.get k=H.get k:=by
 refine acalls_ofE rfl za3135 rfl ?_
 have lc:oLoad false 1 H (cellR c 1 0)=some (cellR pb 11 0):=row_load hc rfl rfl
 have l7:oLoad false 1 H (cellR pb 11 7)=some (.int .i64 ((g+1:Nat):Int)):=row_load hr rfl rfl
 have wk:IntKind.i64.wrap (((g+1:Nat):Int)-1)=(g:Int):=w64
 obtain⟨H5,m5,r5,n5,k5⟩:=row_st hr (n:=11) rfl (i:=7) om (x:=.int .i64 (g:Int)) rfl (l':=pObj s w (g:Int) x y orv) rfl
 simp only[c3135,sA,sB,seval,lc,nil_cell,fldA,l7,wk,m5]
 exact⟨[],rfl,r5,n5,k5⟩
theorem bldS0:aBuild [.int .u8 0,.str [],.int .u8 0,.str [],.int .i64 0,.slice none 0 (.known 0),.slice none 0 (.known 0),.slice none 0 (.known 0),.int .i64 0] []=some (.agg [.int .u8 0,.str [],.int .u8 0,.str [],.int .i64 0,.slice none 0 (.known 0),.slice none 0 (.known 0),.slice none 0 (.known 0),.int .i64 0]):=_root_.id rfl
theorem bldSL(n:Int):aBuild [.int .u8 0,.str [],.int .u8 0,.str [],.int .i64 0,.slice none 0 (.known 0),.slice none 0 (.known 0),.slice none 0 (.known 0),.int .i64 0] [(8,1,.int .i64 n)]=some (.agg (sObj 0 [] Zx nilS nilS n)):=_root_.id rfl
theorem xs_obj{P:Nat→Prop}{H:AHeap}{k line:Nat}{S:Bs}{e:Ex}{xs:List AVal}{vb ve:AVal}{Cb Ce:List AVal}{body els:List St}(h1:XE P H e xs)(h2:SlK P H 9 vb body.length Cb)(h3:XSs P H body Cb)(h4:SlK P H 9 ve els.length Ce)(h5:XSs P H els Ce):XS P H (.mk k S e body els line) (sObj k S xs vb ve line):=
 ⟨xs,vb,Cb,ve,Ce,rfl,h1,h2,h3,h4,h5⟩
theorem stmt_ok{n pb:Nat}{s:Bs}{f:Nat}(ihr:RuleP n pb s f 5)(ihb:BodyP n pb s f):StmtP n pb s (f+1):=by
 intro H w g x y orv r A hr
 refine acalls_ofE rfl za32 rfl ?_
 rw[pS_succ]at hr
 simp only[stepS]at hr
 have hlt:=A.lt
 have hpn:=A.hpb
 have hnn:=A.hn
 obtain⟨H1,m1,r1,n1,k1⟩:=row_newL H [cellR pb 11 0] (n:=1) rfl
 obtain⟨H2,m2,r2,n2,k2⟩:=row_newL H1 [.int .u8 0,.str [],.int .u8 0,.str [],.int .i64 0,.slice none 0 (.known 0),.slice none 0 (.known 0),.slice none 0 (.known 0),.int .i64 0] (n:=9) rfl
 have g90:argE [cellR pb 11 0] 90=.tuple []:=rfl
 have g91:argE [cellR pb 11 0] 91=.tuple []:=rfl
 have F2:Fp pb H H2:=⟨om,fun c hc _=>by rw[k2 c om,k1 c om]⟩
 have A2:=A.fwd F2 (A.row.same (by rw[k2 pb om,k1 pb om])) A.ok A.hg
 have c1:Row H2 H.next [cellR pb 11 0]:=r1.same (k2 _ om)
 have l1:∀{K:AHeap},Fp pb H2 K→oLoad false 1 K (cellR H.next 1 0)=some (cellR pb 11 0):=fun q=>row_load (c1.same (q.old _ om om)) rfl rfl
 have l1':=l1 (Fp.refl pb H2)
 have b0:=bldS0
 by_cases hg:200≤g
 ·rw[if_pos hg]at hr
  simp only[badR,sJ]at hr
  subst hr
  simp only[c32,sA,sB,seval,cellR_cells,m1,m2,l1']
  refine (pbegin_no A2.row hg).mono ?_
  rintro _ H3 ⟨rfl,r3,F3⟩
  obtain⟨H4,m4,r4,n4,k4⟩:=row_storeN (r2.same (F3.old _ om om)) (n:=9) rfl (xs:=Z9) rfl rfl
  have l4:=row_loadN r4 (n:=9) rfl
  have f3:=F3.next
  simp only[sA,sB,seval,b0,m4,g90,g91,pf_isU,isU_0,l4,pf_tup2]
  exact⟨⟨tt,w,r3.same (k4 _ om)⟩,om,fun c hc hp=>by rw[k4 c om,F3.old c om hp,F2.old c hc hp]⟩
 rw[if_neg hg]at hr
 simp only[c32,sW,sL,sXs,sXO,sXP,sB,seval]
 rw[aw_block]
 simp only[sW,sL,sXs,sXO,sXP,sB,seval,cellR_cells,m1,m2,l1']
 refine (pbegin_ok A2.row hg).mono ?_
 rintro _ H3 ⟨rfl,r3,F3,n3⟩
 have A3:=A2.fwd F3 r3 A.ok om
 have l3:=l1 F3
 have ll:oLoad false 1 H3 (cellR pb 11 4)=some (.int .i64 (w.line:Int)):=row_load A3.row rfl rfl
 obtain⟨H4,m4,r4,n4,k4⟩:=row_newL H3 [.int .u8 0,.str [],.int .u8 0,.str [],.int .i64 0,.slice none 0 (.known 0),.slice none 0 (.known 0),.slice none 0 (.known 0),.int .i64 0] (n:=9) rfl
 obtain⟨H5,m5,r5,n5,k5⟩:=row_storeN r4 (n:=9) rfl (xs:=sObj 0 [] Zx nilS nilS w.line) rfl rfl
 have F35:Fp pb H3 H5:=⟨om,fun c hc _=>by rw[k5 c om,k4 c om]⟩
 have A5:=A3.fwd F35 (r3.same (by rw[k5 pb om,k4 pb om])) A.ok om
 have F25:=F3.trans F35
 obtain⟨sb,hsb⟩:∃sb,sb=H3.next:=⟨_,rfl⟩
 rw[← hsb]at m4 r4 k4 m5 r5 k5
 have bl:=bldSL (w.line:Int)
 simp only[sW,sL,sXs,sXO,sXP,sB,seval,g91,pf_dset,l3,nil_cell,fldA,ll,bl,m4,m5]
 rw[aw_block]
 have l1s:∀{K:AHeap},Fs pb sb H5 K→oLoad false 1 K (cellR H.next 1 0)=some (cellR pb 11 0):=fun q=>row_load (c1.same (by rw[q.old _ om om om,F25.old _ om om])) rfl rfl
 refine aw_cut (fun (T:Env) H'=>T 1=cellR H.next 1 0∧T 2=cellR H1.next 9 0∧T 4=cellR sb 9 0∧T 90=.tuple []∧T 91=.func (.func 63) [] [cellR H.next 1 0]∧Fs pb sb H5 H'∧((∃st w' xs,r=.ok ([st],w')∧T 5=.bool true∧Row H' sb xs∧XS (In H5.next H'.next) H' st xs∧Row H' pb (pObj s w' ((g+1:Nat):Int) x y orv)∧WOk s w')∨∃e w',r=.error e∧T 5=.bool false∧Row H' pb (pObj s w' ((g+1:Nat):Int) e.1 e.2 orv))) (calls_mono _ _) ?_ ?_
 rotate_left
 ·rintro T H6 ⟨t1,t2,t4,t90,t91,F6,⟨st,w',xs,rfl,t5,rx,hx,rp,hw⟩ | ⟨e,w',rfl,t5,rp⟩⟩
  ·have e6:=F6.next
   have lx:=row_loadN rx hx.len
   obtain⟨H7,m7,r7,n7,k7⟩:=row_storeN (H:=H6) (b:=H1.next) (r2.same (by rw[F6.old _ om om om,F25.old _ om om])) (n:=9) rfl hx.len hx.one
   simp only[sA,sB,seval,t1,t2,t4,t5,t90,t91,lx,m7,pf_isU,isU_func,isU_0,pf_isF1,pf_capt1]
   refine (dst_spec (c1.same (by rw[k7 _ om,F6.old _ om om om,F25.old _ om om])) (rp.same (k7 _ om)) om).mono ?_
   rintro _ H8 ⟨r8,n8,k8⟩
   have l8:=row_loadN (r7.same (k8 _ om)) hx.len
   simp only[sA,sB,seval,t2,l8,pf_tup2]
   refine⟨⟨st,xs,rfl,tt,hx.mono fun c hc=>?_,r8,hw⟩,om,fun c hc hp=>by rw[k8 c hp,k7 c om,F6.old c om hp om,F25.old c om hp,F2.old c hc hp]⟩
   have h1:=hc.1
   have h2:=hc.2
   exact⟨⟨om,om⟩,by rw[k8 c om,k7 c om]⟩
  ·have e6:=F6.next
   obtain⟨H7,m7,r7,n7,k7⟩:=row_storeN (H:=H6) (b:=H1.next) (r2.same (by rw[F6.old _ om om om,F25.old _ om om])) (n:=9) rfl (xs:=Z9) rfl rfl
   simp only[sA,sB,seval,t1,t2,t4,t5,t90,t91,b0,m7,pf_isU,isU_func,isU_0,pf_isF1,pf_capt1]
   refine (dst_spec (c1.same (by rw[k7 _ om,F6.old _ om om om,F25.old _ om om])) (rp.same (k7 _ om)) om).mono ?_
   rintro _ H8 ⟨r8,n8,k8⟩
   have l8:=row_loadN (r7.same (k8 _ om)) (n:=9) rfl
   simp only[sA,sB,seval,t2,l8,pf_tup2]
   exact⟨⟨tt,w',r8⟩,om,fun c hc hp=>by rw[k8 c hp,k7 c om,F6.old c om hp om,F25.old c om hp,F2.old c hc hp]⟩
 have hns:n≤sb:=om
 have l5:=l1s (Fs.of (Fp.refl pb H5))
 simp only[sA,sB,seval,l5]
 refine (pkey_spec A5.row [108,101,116]).mono ?_
 rintro _ _ ⟨rfl,rfl⟩
 cases ca:kyw w [108,101,116] with
 | true=>
  rw[if_pos ca]at hr
  obtain⟨H6,m6,r6,n6,k6⟩:=row_st r5 (n:=9) rfl (i:=0) om (x:=.int .u8 1) rfl (l':=sObj (1:Nat) [] Zx nilS nilS w.line) rfl
  have F6:Fs pb sb H5 H6:=⟨om,fun c _ _ h=>k6 c h⟩
  have A6:=A5.fws hns F6 (A5.row.same (k6 pb om)) A.ok om
  have l6:=l1s F6
  simp only[sA,sB,seval,fld0,m6,l6]
  refine (pstep_spec A6.row A6.lt A6.en).mono ?_
  rintro u H7 ⟨ho,F7⟩
  have e7:=F7.next
  have F57:=F6.trans (.of F7)
  rcases onW_ok hr with⟨e,he,rfl⟩ | ⟨w1,he,hr⟩
  ·rw[he]at ho
   obtain⟨rfl,r7⟩:=ho
   simp only[sA,sB,seval,g90]
   exact⟨tt,tt,tt,tt,tt,F57,.inr ⟨e,w,rfl,tt,r7⟩⟩
  rw[he]at ho
  obtain⟨rfl,r7⟩:=ho
  have A7:=A6.fwd F7 r7 (stepW_ok he A.ok (by rw[kyw_k ca]; omega)).1 om
  have l7:=l1s F57
  simp only[sA,sB,seval,l7]
  refine (pnamed_spec ihr A7 hr (r6.same (F7.old sb om om)) hns om).mono ?_
  rintro u H8 ⟨ho,F8⟩
  have F58:=F57.trans F8
  cases r with
  | error e=>
   obtain⟨rfl,w',r8⟩:=ho
   simp only[sA,sB,seval,g90]
   exact⟨tt,tt,tt,tt,tt,F58,.inr ⟨e,w',rfl,tt,r8⟩⟩
  | ok p=>
   obtain⟨l,w'⟩:=p
   obtain⟨rfl,e,xs,rfl,q8,hx,r8,o8⟩:=ho
   simp only[sA,sB,seval,g90]
   exact⟨tt,tt,tt,tt,tt,F58,.inl ⟨_,w',_,rfl,tt,q8,xs_obj (hx.mono fun c hc=>⟨⟨by have:=hc.1; omega,hc.2⟩,rfl⟩) (.nil _ _ _) rfl (.nil _ _ _) rfl,r8,o8⟩⟩
 | false=>
 rw[if_neg (by rw[ca]; simp)]at hr
 simp only[sA,sB,seval,l5]
 refine (pkey_spec A5.row [115,101,116]).mono ?_
 rintro _ _ ⟨rfl,rfl⟩
 cases cb:kyw w [115,101,116] with
 | true=>
  rw[if_pos cb]at hr
  obtain⟨H6,m6,r6,n6,k6⟩:=row_st r5 (n:=9) rfl (i:=0) om (x:=.int .u8 2) rfl (l':=sObj (2:Nat) [] Zx nilS nilS w.line) rfl
  have F6:Fs pb sb H5 H6:=⟨om,fun c _ _ h=>k6 c h⟩
  have A6:=A5.fws hns F6 (A5.row.same (k6 pb om)) A.ok om
  have l6:=l1s F6
  simp only[sA,sB,seval,fld0,m6,l6]
  refine (pstep_spec A6.row A6.lt A6.en).mono ?_
  rintro u H7 ⟨ho,F7⟩
  have e7:=F7.next
  have F57:=F6.trans (.of F7)
  rcases onW_ok hr with⟨e,he,rfl⟩ | ⟨w1,he,hr⟩
  ·rw[he]at ho
   obtain⟨rfl,r7⟩:=ho
   simp only[sA,sB,seval,g90]
   exact⟨tt,tt,tt,tt,tt,F57,.inr ⟨e,w,rfl,tt,r7⟩⟩
  rw[he]at ho
  obtain⟨rfl,r7⟩:=ho
  have A7:=A6.fwd F7 r7 (stepW_ok he A.ok (by rw[kyw_k cb]; omega)).1 om
  have l7:=l1s F57
  simp only[sA,sB,seval,l7]
  refine (pnamed_spec ihr A7 hr (r6.same (F7.old sb om om)) hns om).mono ?_
  rintro u H8 ⟨ho,F8⟩
  have F58:=F57.trans F8
  cases r with
  | error e=>
   obtain⟨rfl,w',r8⟩:=ho
   simp only[sA,sB,seval,g90]
   exact⟨tt,tt,tt,tt,tt,F58,.inr ⟨e,w',rfl,tt,r8⟩⟩
  | ok p=>
   obtain⟨l,w'⟩:=p
   obtain⟨rfl,e,xs,rfl,q8,hx,r8,o8⟩:=ho
   simp only[sA,sB,seval,g90]
   exact⟨tt,tt,tt,tt,tt,F58,.inl ⟨_,w',_,rfl,tt,q8,xs_obj (hx.mono fun c hc=>⟨⟨by have:=hc.1; omega,hc.2⟩,rfl⟩) (.nil _ _ _) rfl (.nil _ _ _) rfl,r8,o8⟩⟩
 | false=>
 rw[if_neg (by rw[cb]; simp)]at hr
 simp only[sA,sB,seval,l5]
 refine (pkey_spec A5.row [105,102]).mono ?_
 rintro _ _ ⟨rfl,rfl⟩
 cases cc:kyw w [105,102] with
 | true=>
  rw[if_pos cc]at hr
  obtain⟨H6,m6,r6,n6,k6⟩:=row_st r5 (n:=9) rfl (i:=0) om (x:=.int .u8 3) rfl (l':=sObj (3:Nat) [] Zx nilS nilS w.line) rfl
  have F6:Fs pb sb H5 H6:=⟨om,fun c _ _ h=>k6 c h⟩
  have A6:=A5.fws hns F6 (A5.row.same (k6 pb om)) A.ok om
  have l6:=l1s F6
  simp only[sA,sB,seval,fld0,m6,l6]
  refine (pstep_spec A6.row A6.lt A6.en).mono ?_
  rintro u H7 ⟨ho,F7⟩
  have e7:=F7.next
  have F57:=F6.trans (.of F7)
  rcases onW_ok hr with⟨e,he,rfl⟩ | ⟨w1,he,hr⟩
  ·rw[he]at ho
   obtain⟨rfl,r7⟩:=ho
   simp only[sA,sB,seval,g90]
   exact⟨tt,tt,tt,tt,tt,F57,.inr ⟨e,w,rfl,tt,r7⟩⟩
  rw[he]at ho
  obtain⟨rfl,r7⟩:=ho
  have A7:=A6.fwd F7 r7 (stepW_ok he A.ok (by rw[kyw_k cc]; omega)).1 om
  have l7:=l1s F57
  rw[askedW_eq]at hr
  obtain⟨r0,hr0⟩:∃r0,askP s (pE s f) (pS s f) (g+1) w1=some r0:=by
   rcases onR_ok hr with⟨e,he,rfl⟩ | ⟨e1,w3,he,_⟩
   ·exact⟨_,he⟩
   ·exact⟨_,he⟩
  simp only[sA,sB,seval,l7]
  refine (pasked_spec ihr ihb A7 hr0 (r6.same (F7.old sb om om)) hns om).mono ?_
  rintro u H8 ⟨ho,F8⟩
  have e8:=F8.next
  have F58:=F57.trans F8
  rcases onR_ok hr with⟨e,he,rfl⟩ | ⟨⟨e1,body⟩,w2,he,hr⟩
  ·rw[hr0]at he
   simp only[sJ]at he
   subst he
   obtain⟨rfl,w',r8⟩:=ho
   simp only[sA,sB,seval,g90]
   exact⟨tt,tt,tt,tt,tt,F58,.inr ⟨e,w',rfl,tt,r8⟩⟩
  rw[hr0]at he
  simp only[sJ]at he
  subst he
  obtain⟨rfl,xs,v,C,q8,hx,z1,z2,r8,o8⟩:=ho
  simp only at hx z1 z2 hr
  have km:∀c,In H7.next H8.next c→In H5.next H8.next c∧H8.get c=H8.get c:=fun c hc=>⟨⟨by have:=hc.1; omega,hc.2⟩,rfl⟩
  have hx5:=hx.mono km
  have z15:=z1.mono km
  have z25:=z2.mono km
  have A8:=A7.fws hns F8 r8 o8 om
  have l8:=l1s F58
  simp only[sA,sB,seval,l8]
  refine (pkey_spec A8.row [101,108,115,101]).mono ?_
  rintro _ _ ⟨rfl,rfl⟩
  cases ce:kyw w2 [101,108,115,101] with
  | false=>
   rw[if_neg (by rw[ce]; simp)]at hr
   simp only[fineR,sJ]at hr
   subst hr
   simp only[sA,sB,seval,g90]
   exact⟨tt,tt,tt,tt,tt,F58,.inl ⟨_,w2,_,rfl,tt,q8,xs_obj hx5 z15 z25 (.nil _ _ _) rfl,r8,o8⟩⟩
  | true=>
  rw[if_pos ce]at hr
  simp only[sA,sB,seval,l8]
  refine (pstep_spec A8.row A8.lt A8.en).mono ?_
  rintro u H9 ⟨ho,F9⟩
  have e9:=F9.next
  have F59:=F58.trans (.of F9)
  rcases onW_ok hr with⟨e,he,rfl⟩ | ⟨w3,he,hr⟩
  ·rw[he]at ho
   obtain⟨rfl,r9⟩:=ho
   simp only[sA,sB,seval,g90]
   exact⟨tt,tt,tt,tt,tt,F59,.inr ⟨e,w2,rfl,tt,r9⟩⟩
  rw[he]at ho
  obtain⟨rfl,r9⟩:=ho
  have A9:=A8.fwd F9 r9 (stepW_ok he o8 (by rw[kyw_k ce]; omega)).1 om
  have l9:=l1s F59
  obtain⟨r1,hr1⟩:∃r1,pS s f .body (g+1) w3=some r1:=by
   rcases onR_ok hr with⟨e,he,rfl⟩ | ⟨e1,w3,he,_⟩
   ·exact⟨_,he⟩
   ·exact⟨_,he⟩
  obtain⟨a,b,c,d,rfl⟩:∃a b c d,xs=[a,b,c,d]:=by
   have:=hx.len
   match xs,this with
   | [a,b,c,d],_=>exact⟨a,b,c,d,rfl⟩
  simp only[sA,sB,seval,l9,fldA]
  refine (ihb H9 w3 (g+1) x y orv r1 sb 7 _ A9 (q8.same (F9.old sb om om)) rfl hns om rfl hr1).mono ?_
  rintro u Ha ⟨ho,Fa⟩
  have ea:=Fa.next
  have F5a:=F59.trans Fa
  rcases onR_ok hr with⟨e,he,rfl⟩ | ⟨els,w4,he,hr⟩
  ·rw[hr1]at he
   simp only[sJ]at he
   subst he
   obtain⟨rfl,w',ra⟩:=ho
   simp only[sA,sB,seval,g90]
   exact⟨tt,tt,tt,tt,tt,F5a,.inr ⟨e,w',rfl,tt,ra⟩⟩
  rw[hr1]at he
  simp only[sJ]at he
  subst he
  obtain⟨rfl,v2,C2,qa,y1,y2,ra,oa⟩:=ho
  simp only[fineR,sJ]at hr
  subst hr
  have kn:∀c,In H7.next H8.next c→In H5.next Ha.next c∧Ha.get c=H8.get c:=fun c hc=>by
   have h1:=hc.1
   have h2:=hc.2
   exact⟨⟨om,om⟩,by rw[Fa.old c om om om,F9.old c h2 om]⟩
  have kb:∀c,In H9.next Ha.next c→In H5.next Ha.next c∧Ha.get c=Ha.get c:=fun c hc=>⟨⟨by have:=hc.1; omega,hc.2⟩,rfl⟩
  simp only[sA,sB,seval,g90]
  exact⟨tt,tt,tt,tt,tt,F5a,.inl ⟨_,w4,sObj (3:Nat) [] [a,b,c,d] v v2 w.line,rfl,tt,qa,xs_obj (hx.mono kn) (z1.mono kn) (z2.mono kn) (y1.mono kb) (y2.mono kb),ra,oa⟩⟩
 | false=>
 rw[if_neg (by rw[cc]; simp)]at hr
 simp only[sA,sB,seval,l5]
 refine (pkey_spec A5.row [119,104,105,108,101]).mono ?_
 rintro _ _ ⟨rfl,rfl⟩
 cases cd:kyw w [119,104,105,108,101] with
 | true=>
  rw[if_pos cd]at hr
  obtain⟨H6,m6,r6,n6,k6⟩:=row_st r5 (n:=9) rfl (i:=0) om (x:=.int .u8 4) rfl (l':=sObj (4:Nat) [] Zx nilS nilS w.line) rfl
  have F6:Fs pb sb H5 H6:=⟨om,fun c _ _ h=>k6 c h⟩
  have A6:=A5.fws hns F6 (A5.row.same (k6 pb om)) A.ok om
  have l6:=l1s F6
  simp only[sA,sB,seval,fld0,m6,l6]
  refine (pstep_spec A6.row A6.lt A6.en).mono ?_
  rintro u H7 ⟨ho,F7⟩
  have e7:=F7.next
  have F57:=F6.trans (.of F7)
  rcases onW_ok hr with⟨e,he,rfl⟩ | ⟨w1,he,hr⟩
  ·rw[he]at ho
   obtain⟨rfl,r7⟩:=ho
   simp only[sA,sB,seval,g90]
   exact⟨tt,tt,tt,tt,tt,F57,.inr ⟨e,w,rfl,tt,r7⟩⟩
  rw[he]at ho
  obtain⟨rfl,r7⟩:=ho
  have A7:=A6.fwd F7 r7 (stepW_ok he A.ok (by rw[kyw_k cd]; omega)).1 om
  have l7:=l1s F57
  rw[askedW_eq]at hr
  obtain⟨r0,hr0⟩:∃r0,askP s (pE s f) (pS s f) (g+1) w1=some r0:=by
   rcases onR_ok hr with⟨e,he,rfl⟩ | ⟨e1,w3,he,_⟩
   ·exact⟨_,he⟩
   ·exact⟨_,he⟩
  simp only[sA,sB,seval,l7]
  refine (pasked_spec ihr ihb A7 hr0 (r6.same (F7.old sb om om)) hns om).mono ?_
  rintro u H8 ⟨ho,F8⟩
  have e8:=F8.next
  have F58:=F57.trans F8
  rcases onR_ok hr with⟨e,he,rfl⟩ | ⟨⟨e1,body⟩,w2,he,hr⟩
  ·rw[hr0]at he
   simp only[sJ]at he
   subst he
   obtain⟨rfl,w',r8⟩:=ho
   simp only[sA,sB,seval,g90]
   exact⟨tt,tt,tt,tt,tt,F58,.inr ⟨e,w',rfl,tt,r8⟩⟩
  rw[hr0]at he
  simp only[sJ]at he
  subst he
  obtain⟨rfl,xs,v,C,q8,hx,z1,z2,r8,o8⟩:=ho
  simp only at hx z1 z2 hr
  have km:∀c,In H7.next H8.next c→In H5.next H8.next c∧H8.get c=H8.get c:=fun c hc=>⟨⟨by have:=hc.1; omega,hc.2⟩,rfl⟩
  have hx5:=hx.mono km
  have z15:=z1.mono km
  have z25:=z2.mono km
  simp only[fineR,sJ]at hr
  subst hr
  simp only[sA,sB,seval,g90]
  exact⟨tt,tt,tt,tt,tt,F58,.inl ⟨_,w2,_,rfl,tt,q8,xs_obj hx5 z15 z25 (.nil _ _ _) rfl,r8,o8⟩⟩
 | false=>
 rw[if_neg (by rw[cd]; simp)]at hr
 simp only[sA,sB,seval,l5]
 refine (pkey_spec A5.row [114,101,116,117,114,110]).mono ?_
 rintro _ _ ⟨rfl,rfl⟩
 cases c5:kyw w [114,101,116,117,114,110] with
 | true=>
  rw[if_pos c5]at hr
  obtain⟨H6,m6,r6,n6,k6⟩:=row_st r5 (n:=9) rfl (i:=0) om (x:=.int .u8 5) rfl (l':=sObj (5:Nat) [] Zx nilS nilS w.line) rfl
  have F6:Fs pb sb H5 H6:=⟨om,fun c _ _ h=>k6 c h⟩
  have A6:=A5.fws hns F6 (A5.row.same (k6 pb om)) A.ok om
  have l6:=l1s F6
  simp only[sA,sB,seval,fld0,m6,l6]
  refine (pstep_spec A6.row A6.lt A6.en).mono ?_
  rintro u H7 ⟨ho,F7⟩
  have e7:=F7.next
  have F57:=F6.trans (.of F7)
  rcases onW_ok hr with⟨e,he,rfl⟩ | ⟨w1,he,hr⟩
  ·rw[he]at ho
   obtain⟨rfl,r7⟩:=ho
   simp only[sA,sB,seval,g90]
   exact⟨tt,tt,tt,tt,tt,F57,.inr ⟨e,w,rfl,tt,r7⟩⟩
  rw[he]at ho
  obtain⟨rfl,r7⟩:=ho
  have A7:=A6.fwd F7 r7 (stepW_ok he A.ok (by rw[kyw_k c5]; omega)).1 om
  have l7:=l1s F57
  obtain⟨r0,hr0⟩:∃r0,pE s f (.rule 5) (g+1) w1=some r0:=by
   rcases onR_ok hr with⟨e,he,rfl⟩ | ⟨e1,w3,he,_⟩
   ·exact⟨_,he⟩
   ·exact⟨_,he⟩
  simp only[sA,sB,seval,l7,fldA]
  refine (pexpr_spec ihr A7 hr0 (r6.same (F7.old sb om om)) rfl hns om (i:=2) om).mono ?_
  rintro u H8 ⟨ho,F8⟩
  have e8:=F8.next
  have F58:=F57.trans F8
  rcases onR_ok hr with⟨e,he,rfl⟩ | ⟨e1,w2,he,hr⟩
  ·rw[hr0]at he
   simp only[sJ]at he
   subst he
   obtain⟨rfl,w',r8⟩:=ho
   simp only[sA,sB,seval,g90]
   exact⟨tt,tt,tt,tt,tt,F58,.inr ⟨e,w',rfl,tt,r8⟩⟩
  rw[hr0]at he
  simp only[sJ]at he
  subst he
  obtain⟨rfl,xs,q8,hx,r8,o8⟩:=ho
  have q8':Row H8 sb (sObj (5:Nat) [] xs nilS nilS w.line):=q8
  have A8:=A7.fws hns F8 r8 o8 om
  have l8:=l1s F58
  simp only[sA,sB,seval,l8]
  refine (ptake_spec A8.row A8.lt A8.en [59]).mono ?_
  rintro u H9 ⟨ho,F9⟩
  have F59:=F58.trans (.of F9)
  rcases onW_ok hr with⟨e,he,rfl⟩ | ⟨w3,he,hr⟩
  ·rw[he]at ho
   obtain⟨rfl,r9⟩:=ho
   simp only[sA,sB,seval,g90]
   exact⟨tt,tt,tt,tt,tt,F59,.inr ⟨e,w2,rfl,tt,r9⟩⟩
  rw[he]at ho
  obtain⟨rfl,r9⟩:=ho
  simp only[fineR,sJ]at hr
  subst hr
  have e9:=F9.next
  simp only[sA,sB,seval,g90]
  refine⟨tt,tt,tt,tt,tt,F59,.inl ⟨_,w3,_,rfl,tt,q8'.same (F9.old sb om om),xs_obj (hx.mono fun c hc=>?_) (.nil _ _ _) rfl (.nil _ _ _) rfl,r9,(takeW_ok he o8).2.2.1⟩⟩
  have h1:=hc.1
  have h2:=hc.2
  exact⟨⟨om,om⟩,F9.old c h2 om⟩
 | false=>
 rw[if_neg (by rw[c5]; simp)]at hr
 simp only[badR,sJ]at hr
 subst hr
 simp only[sA,sB,seval,l5]
 refine (pfail_spec A5.row 101).mono ?_
 rintro _ H6 ⟨rfl,r6,F6⟩
 simp only[sA,sB,seval,g90]
 exact⟨tt,tt,tt,tt,tt,.of F6,.inr ⟨_,w,rfl,tt,r6⟩⟩
structure AllS(n pb:Nat)(s:Bs)(f:Nat):Prop where
 stmt:StmtP n pb s f
 body:BodyP n pb s f
theorem allS_ok(n pb:Nat)(s:Bs):∀(f:Nat),f≤1000000→∀f',f'≤f→AllS n pb s f'
 | 0,_,f',h=>by
  obtain rfl:f'=0:=om
  exact⟨fun H w g x y orv r _ hr=>by simp[pS]at hr,body_ok om fun f' h=>absurd h (Nat.not_lt_zero _)⟩
 | f+1,hf,f',h=>by
  have ih:=allS_ok n pb s f om
  by_cases he:f'≤f
  ·exact ih f' he
  obtain rfl:f'=f+1:=om
  exact⟨stmt_ok ((all_ok n pb s f om f rL).rule 5 om) (ih f rL).body,body_ok hf fun f' h=>(ih f' om).stmt⟩
open Go.Abs Go.Abs.S
noncomputable section
def c15:AFn:=⟨9,zq [zo 2 (.mv (.c (.bool false)))] (zq [zo 4 (.build [zI 0] []),zo 5 (.box (.t 4)),zm 3 5] (zq [zm 6 3,zm 7 0,zx 8 40 [.t 6,.t 7,zi 1],zm 2 8] .ret)),[.t 2]⟩
theorem za15:cN Tryz.prog 15=some c15:=by kernel_rfl
def c40:AFn:=⟨21,zq [zo 6 (.mv (.c (.bool false)))] (.seq (zq [zm 8 1,zh 9 8,zo 10 (.mv (zi 0))] (.block 0 (.loop (zq [zb 11 .lss 10 9] (.seq (.cond (.t 11) .skip (.exit 0)) (.seq (.block 1 (zq [zm 12 10,zm 7 12] (zq [zm 13 0,zm 14 1,zm 15 7,zo 16 (.idxA 9 (.t 14) (.t 15)),zm 17 2,zx 18 84 [.t 13,.t 16,.t 17],zo 19 (.un .not (.t 18))] (.cond (.t 19) (zq [zo 6 (.mv (.c (.bool false)))] .ret) .skip)))) (.reg [zk 20 .add 10 1,zm 10 20]))))))) (zq [zo 6 (.mv (.c (.bool true)))] .ret)),[.t 6]⟩
theorem za40:cN Tryz.prog 40=some c40:=by kernel_rfl
def c84:AFn:=⟨112,zq [zo 6 (.mv (.c (.bool false)))] (zr [zm 7 0,zm 8 2,zx 9 123 [.t 7,.t 8],zo 10 (.un .not (.t 9))] 10 (zq [zo 6 (.mv (.c (.bool false)))] .ret) .skip (.seq (zq [zm 11 1,zc 12 11,zf 13 0 12,zl 14 13] (.block 0 (zr [zo 16 (.bin .eql (.t 14) (zu 1)),zm 15 16] 15 .skip (.reg [zo 17 (.bin .eql (.t 14) (zu 2)),zm 15 17]) (.cond (.t 15) (zq [zm 18 1,zc 19 18,zf 20 1 19,zl 21 20,zx 22 124 [.t 21],zo 23 (.un .not (.t 22)),zm 24 23,zg 25 (.mv (.t 1)) 24 false,zg 26 (.nilChk (.t 25)) 24 false,zg 27 (.fieldA 6 (.t 26)) 24 false,zg 28 (.load false 1 (.t 27)) 24 false,zg 29 (.len false (.t 28)) 24 false,zg 30 (.bin .gtr (.t 29) (zi 0)) 24 false,zo 31 (.pick (.t 24) (.c (.bool true)) (.t 30)),zm 32 31,zg 33 (.mv (.t 1)) 32 false,zg 34 (.nilChk (.t 33)) 32 false,zg 35 (.fieldA 7 (.t 34)) 32 false,zg 36 (.load false 1 (.t 35)) 32 false,zg 37 (.len false (.t 36)) 32 false,zg 38 (.bin .gtr (.t 37) (zi 0)) 32 false,zo 39 (.pick (.t 32) (.c (.bool true)) (.t 38))] (.cond (.t 39) (zq [zo 6 (.mv (.c (.bool false)))] .ret) .skip)) (zq [zo 41 (.bin .eql (.t 14) (zu 3)),zm 40 41] (.cond (.t 40) (zq [zm 42 1,zc 43 42,zf 44 1 43,zl 45 44,zo 46 (.bin .neq (.t 45) (.c (.str [])))] (.cond (.t 46) (zq [zo 6 (.mv (.c (.bool false)))] .ret) .skip)) (zq [zo 48 (.bin .eql (.t 14) (zu 4)),zm 47 48] (.cond (.t 47) (zq [zm 49 1,zc 50 49,zf 51 1 50,zl 52 51,zo 53 (.bin .neq (.t 52) (.c (.str []))),zm 54 53,zg 55 (.mv (.t 1)) 54 false,zg 56 (.nilChk (.t 55)) 54 false,zg 57 (.fieldA 7 (.t 56)) 54 false,zg 58 (.load false 1 (.t 57)) 54 false,zg 59 (.len false (.t 58)) 54 false,zg 60 (.bin .gtr (.t 59) (zi 0)) 54 false,zo 61 (.pick (.t 54) (.c (.bool true)) (.t 60))] (.cond (.t 61) (zq [zo 6 (.mv (.c (.bool false)))] .ret) .skip)) (zq [zo 63 (.bin .eql (.t 14) (zu 5)),zm 62 63] (.cond (.t 62) (zq [zm 64 1,zc 65 64,zf 66 1 65,zl 67 66,zo 68 (.bin .neq (.t 67) (.c (.str []))),zm 69 68,zg 70 (.mv (.t 1)) 69 false,zg 71 (.nilChk (.t 70)) 69 false,zg 72 (.fieldA 6 (.t 71)) 69 false,zg 73 (.load false 1 (.t 72)) 69 false,zg 74 (.len false (.t 73)) 69 false,zg 75 (.bin .gtr (.t 74) (zi 0)) 69 false,zo 76 (.pick (.t 69) (.c (.bool true)) (.t 75)),zm 77 76,zg 78 (.mv (.t 1)) 77 false,zg 79 (.nilChk (.t 78)) 77 false,zg 80 (.fieldA 7 (.t 79)) 77 false,zg 81 (.load false 1 (.t 80)) 77 false,zg 82 (.len false (.t 81)) 77 false,zg 83 (.bin .gtr (.t 82) (zi 0)) 77 false,zo 84 (.pick (.t 77) (.c (.bool true)) (.t 83))] (.cond (.t 84) (zq [zo 6 (.mv (.c (.bool false)))] .ret) .skip)) (zq [zo 6 (.mv (.c (.bool false)))] .ret))))))))))) (zq [zm 85 0,zm 86 1,zc 87 86,zf 88 2 87,zm 89 2,zk 90 .add 89 1,zx 91 125 [.t 85,.t 88,.t 90],zm 92 91,zg 93 (.mv (.t 0)) 92 true,zg 94 (.mv (.t 1)) 92 true,zg 95 (.nilChk (.t 94)) 92 true,zg 96 (.fieldA 6 (.t 95)) 92 true,zg 97 (.load false 1 (.t 96)) 92 true,zg 98 (.mv (.t 2)) 92 true,zg 99 (.bin .add (.t 98) (zi 1)) 92 true,zg 100 (.call 40 [.t 93,.t 97,.t 99]) 92 true,zo 101 (.pick (.t 92) (.t 100) (.c (.bool false))),zm 102 101,zg 103 (.mv (.t 0)) 102 true,zg 104 (.mv (.t 1)) 102 true,zg 105 (.nilChk (.t 104)) 102 true,zg 106 (.fieldA 7 (.t 105)) 102 true,zg 107 (.load false 1 (.t 106)) 102 true,zg 108 (.mv (.t 2)) 102 true,zg 109 (.bin .add (.t 108) (zi 1)) 102 true,zg 110 (.call 40 [.t 103,.t 107,.t 109]) 102 true,zo 111 (.pick (.t 102) (.t 110) (.c (.bool false))),zm 6 111] .ret))),[.t 6]⟩
theorem za84:cN Tryz.prog 84=some c84:=by kernel_rfl
def c123:AFn:=⟨21,zq [zo 4 (.mv (.c (.bool false)))] (zq [zm 5 0,zc 6 5,zf 7 0 6,zl 8 7,zk 9 .add 8 1,zc 10 5,zf 11 0 10,zs 11 9] (zq [zm 12 0,zc 13 12,zf 14 0 13,zl 15 14,zk 16 .leq 15 1000,zm 17 16,zg 18 (.mv (.t 1)) 17 true,zg 19 (.bin .leq (.t 18) (zi 40)) 17 true,zo 20 (.pick (.t 17) (.t 19) (.c (.bool false))),zm 4 20] .ret)),[.t 4]⟩
theorem za123:cN Tryz.prog 123=some c123:=by kernel_rfl
def c124:AFn:=⟨24,zq [zo 2 (.mv (.c (.bool false)))] (zq [zm 6 0,zx 7 62 [.t 6,zi 0],zm 5 7,ze 8 0 5,ze 9 1 5,zo 3 (.new [zU 0,.str [],zI 0,zI 0,zI 0,zI 0]),zo 4 (.new [zI 0,zI 0]),zp (.store 6 (.t 3) (.t 8)),zp (.store 2 (.t 4) (.t 9))] (zq [zf 10 0 4,zl 11 10,zk 12 .eql 11 0,zm 13 12,zg 14 (.fieldA 0 (.t 3)) 13 true,zg 15 (.load false 1 (.t 14)) 13 true,zg 16 (.bin .eql (.t 15) (zu 2)) 13 true,zo 17 (.pick (.t 13) (.t 16) (.c (.bool false))),zm 18 17,zg 19 (.fieldA 1 (.t 3)) 18 true,zg 20 (.load false 1 (.t 19)) 18 true,zg 21 (.mv (.t 0)) 18 true,zg 22 (.bin .eql (.t 20) (.t 21)) 18 true,zo 23 (.pick (.t 18) (.t 22) (.c (.bool false))),zm 2 23] .ret)),[.t 2]⟩
theorem za124:cN Tryz.prog 124=some c124:=by kernel_rfl
def c125:AFn:=⟨115,zq [zo 6 (.mv (.c (.bool false)))] (zr [zm 8 0,zm 9 2,zx 10 123 [.t 8,.t 9],zo 11 (.un .not (.t 10))] 11 (zq [zo 6 (.mv (.c (.bool false)))] .ret) .skip (.seq (zq [zm 12 1,zc 13 12,zf 14 0 13,zl 15 14] (.block 0 (zq [zo 17 (.bin .eql (.t 15) (zu 1)),zm 16 17] (.cond (.t 16) (zq [zm 18 1,zc 19 18,zf 20 2 19,zl 21 20,zk 22 .geq 21 0,zm 23 22,zg 24 (.mv (.t 1)) 23 true,zg 25 (.nilChk (.t 24)) 23 true,zg 26 (.fieldA 1 (.t 25)) 23 true,zg 27 (.load false 1 (.t 26)) 23 true,zg 28 (.bin .eql (.t 27) (.c (.str []))) 23 true,zo 29 (.pick (.t 23) (.t 28) (.c (.bool false))),zm 30 29,zg 31 (.mv (.t 1)) 30 true,zg 32 (.nilChk (.t 31)) 30 true,zg 33 (.fieldA 3 (.t 32)) 30 true,zg 34 (.load false 1 (.t 33)) 30 true,zg 35 (.len false (.t 34)) 30 true,zg 36 (.bin .eql (.t 35) (zi 0)) 30 true,zo 37 (.pick (.t 30) (.t 36) (.c (.bool false))),zm 6 37] .ret) (zq [zo 39 (.bin .eql (.t 15) (zu 2)),zm 38 39] (.cond (.t 38) (zq [zm 40 1,zc 41 40,zf 42 2 41,zl 43 42,zk 44 .eql 43 0,zm 45 44,zg 46 (.mv (.t 1)) 45 true,zg 47 (.nilChk (.t 46)) 45 true,zg 48 (.fieldA 1 (.t 47)) 45 true,zg 49 (.load false 1 (.t 48)) 45 true,zg 50 (.call 124 [.t 49]) 45 true,zo 51 (.pick (.t 45) (.t 50) (.c (.bool false))),zm 52 51,zg 53 (.mv (.t 1)) 52 true,zg 54 (.nilChk (.t 53)) 52 true,zg 55 (.fieldA 3 (.t 54)) 52 true,zg 56 (.load false 1 (.t 55)) 52 true,zg 57 (.len false (.t 56)) 52 true,zg 58 (.bin .eql (.t 57) (zi 0)) 52 true,zo 59 (.pick (.t 52) (.t 58) (.c (.bool false))),zm 6 59] .ret) (zq [zo 61 (.bin .eql (.t 15) (zu 3)),zm 60 61] (.cond (.t 60) (zq [zm 62 1,zc 63 62,zf 64 2 63,zl 65 64,zk 66 .neq 65 0,zm 67 66,zg 68 (.mv (.t 1)) 67 false,zg 69 (.nilChk (.t 68)) 67 false,zg 70 (.fieldA 1 (.t 69)) 67 false,zg 71 (.load false 1 (.t 70)) 67 false,zg 72 (.mv (.t 1)) 67 false,zg 73 (.nilChk (.t 72)) 67 false,zg 74 (.fieldA 3 (.t 73)) 67 false,zg 75 (.load false 1 (.t 74)) 67 false,zg 76 (.len false (.t 75)) 67 false,zg 77 (.call 164 [.t 71,.t 76]) 67 false,zg 78 (.un .not (.t 77)) 67 false,zo 79 (.pick (.t 67) (.c (.bool true)) (.t 78))] (.cond (.t 79) (zq [zo 6 (.mv (.c (.bool false)))] .ret) .skip)) (zq [zo 81 (.bin .eql (.t 15) (zu 4)),zm 80 81] (.cond (.t 80) (zq [zm 82 1,zc 83 82,zf 84 2 83,zl 85 84,zk 86 .neq 85 0,zm 87 86,zg 88 (.mv (.t 1)) 87 false,zg 89 (.nilChk (.t 88)) 87 false,zg 90 (.fieldA 1 (.t 89)) 87 false,zg 91 (.load false 1 (.t 90)) 87 false,zg 92 (.call 124 [.t 91]) 87 false,zg 93 (.un .not (.t 92)) 87 false,zo 94 (.pick (.t 87) (.c (.bool true)) (.t 93))] (.cond (.t 94) (zq [zo 6 (.mv (.c (.bool false)))] .ret) .skip)) (zq [zo 6 (.mv (.c (.bool false)))] .ret))))))))))) (.seq (zq [zm 95 1,zc 96 95,zf 97 3 96,zl 98 97,zh 99 98,zo 100 (.mv (zi 0))] (.block 1 (.loop (zq [zb 101 .lss 100 99] (.seq (.cond (.t 101) .skip (.exit 1)) (.seq (.block 2 (zq [zm 102 100,zm 7 102] (zq [zm 103 0,zm 104 1,zc 105 104,zf 106 3 105,zl 107 106,zm 108 7,zo 109 (.idxA 4 (.t 107) (.t 108)),zm 110 2,zk 111 .add 110 1,zx 112 125 [.t 103,.t 109,.t 111],zo 113 (.un .not (.t 112))] (.cond (.t 113) (zq [zo 6 (.mv (.c (.bool false)))] .ret) .skip)))) (.reg [zk 114 .add 100 1,zm 100 114]))))))) (zq [zo 6 (.mv (.c (.bool true)))] .ret)))),[.t 6]⟩
theorem za125:cN Tryz.prog 125=some c125:=by kernel_rfl
def c164:AFn:=⟨30,zq [zo 4 (.mv (.c (.bool false)))] (.seq (zq [zm 5 1] (.block 0 (zq [zk 7 .eql 5 1,zm 6 7] (.cond (.t 6) (zq [zm 8 0,zo 9 (.bin .eql (.t 8) (.c (.str [45]))),zm 10 9,zg 11 (.mv (.t 0)) 10 false,zg 12 (.bin .eql (.t 11) (.c (.str [33]))) 10 false,zo 13 (.pick (.t 10) (.c (.bool true)) (.t 12)),zm 4 13] .ret) (zq [zk 15 .eql 5 2,zm 14 15] (.cond (.t 14) (zq [zm 16 0] (.block 1 (zr [zo 18 (.bin .eql (.t 16) (.c (.str [124,124]))),zm 17 18] 17 .skip (zq [zo 19 (.bin .eql (.t 16) (.c (.str [38,38]))),zm 17 19] (.cond (.t 17) .skip (zq [zo 20 (.bin .eql (.t 16) (.c (.str [61,61]))),zm 17 20] (.cond (.t 17) .skip (zq [zo 21 (.bin .eql (.t 16) (.c (.str [33,61]))),zm 17 21] (.cond (.t 17) .skip (zq [zo 22 (.bin .eql (.t 16) (.c (.str [60,61]))),zm 17 22] (.cond (.t 17) .skip (zq [zo 23 (.bin .eql (.t 16) (.c (.str [62,61]))),zm 17 23] (.cond (.t 17) .skip (zq [zo 24 (.bin .eql (.t 16) (.c (.str [60]))),zm 17 24] (.cond (.t 17) .skip (zq [zo 25 (.bin .eql (.t 16) (.c (.str [62]))),zm 17 25] (.cond (.t 17) .skip (zq [zo 26 (.bin .eql (.t 16) (.c (.str [43]))),zm 17 26] (.cond (.t 17) .skip (zq [zo 27 (.bin .eql (.t 16) (.c (.str [45]))),zm 17 27] (.cond (.t 17) .skip (zq [zo 28 (.bin .eql (.t 16) (.c (.str [42]))),zm 17 28] (.cond (.t 17) .skip (.reg [zo 29 (.bin .eql (.t 16) (.c (.str [47]))),zm 17 29]))))))))))))))))))))) (.cond (.t 17) (zq [zo 4 (.mv (.c (.bool true)))] .ret) .skip)))) .skip)))))) (zq [zo 4 (.mv (.c (.bool false)))] .ret)),[.t 4]⟩
theorem za164:cN Tryz.prog 164=some c164:=by kernel_rfl
def c12:AFn:=⟨24,zq [zo 2 (.mv (.c (.str []))),zo 3 (.mv (zi 0))] (zr [zm 5 0,zx 6 15 [.t 5],zo 7 (.un .not (.t 6))] 7 (zq [zo 2 (.mv (.c (.str []))),zo 3 (.mv (zi 103))] .ret) .skip (zq [zo 8 (.build [zN] []),zo 9 (.box (.t 8)),zm 4 9] (zq [zm 10 4,zm 11 0,zx 12 37 [.t 10,.t 11,zi 0]] (zr [zm 13 4,zc 14 13,zf 15 0 14,zl 16 15,zh 17 16,zk 18 .gtr 17 16384] 18 (zq [zo 2 (.mv (.c (.str []))),zo 3 (.mv (zi 3))] .ret) .skip (zq [zm 19 4,zc 20 19,zf 21 0 20,zl 22 21,zo 23 (.convBS (.t 22)),zm 2 23,zo 3 (.mv (zi 0))] .ret))))),[.t 2,.t 3]⟩
theorem za12:cN Tryz.prog 12=some c12:=by kernel_rfl
def c37:AFn:=⟨25,zq [zm 7 1,zh 8 7,zo 9 (.mv (zi 0))] (.block 0 (.loop (zq [zb 10 .lss 9 8] (.seq (.cond (.t 10) .skip (.exit 0)) (.seq (.block 1 (zq [zm 11 9,zm 6 11] (zr [zm 12 0,zc 13 12,zf 14 0 13,zl 15 14,zh 16 15,zk 17 .gtr 16 16384] 17 .ret .skip (.reg [zm 18 0,zm 19 1,zm 20 6,zo 21 (.idxA 9 (.t 19) (.t 20)),zm 22 2,zx 23 82 [.t 18,.t 21,.t 22]])))) (.reg [zk 24 .add 9 1,zm 9 24])))))),[]⟩
theorem za37:cN Tryz.prog 37=some c37:=by kernel_rfl
def c82:AFn:=⟨103,zq [zm 6 0,zm 7 2,zx 8 118 [.t 6,.t 7]] (.seq (zq [zm 9 1,zc 10 9,zf 11 0 10,zl 12 11] (.block 0 (zq [zo 14 (.bin .eql (.t 12) (zu 1)),zm 13 14] (.cond (.t 13) (.reg [zm 15 0,zm 16 1,zc 17 16,zf 18 1 17,zl 19 18,zo 20 (.buildSl 3 [.str []] [(0,1,.c (.str [108,101,116,32])),(1,1,.t 19),(2,1,.c (.str [32,61,32]))]),zx 21 119 [.t 15,.t 20]]) (zq [zo 23 (.bin .eql (.t 12) (zu 2)),zm 22 23] (.cond (.t 22) (.reg [zm 24 0,zm 25 1,zc 26 25,zf 27 1 26,zl 28 27,zo 29 (.buildSl 3 [.str []] [(0,1,.c (.str [115,101,116,32])),(1,1,.t 28),(2,1,.c (.str [32,61,32]))]),zx 30 119 [.t 24,.t 29]]) (zq [zo 32 (.bin .eql (.t 12) (zu 5)),zm 31 32] (.cond (.t 31) (.reg [zm 33 0,zo 34 (.buildSl 1 [.str []] [(0,1,.c (.str [114,101,116,117,114,110,32]))]),zx 35 119 [.t 33,.t 34]]) (zq [zo 37 (.bin .eql (.t 12) (zu 3)),zm 36 37] (.cond (.t 36) (.reg [zm 38 0,zo 39 (.buildSl 1 [.str []] [(0,1,.c (.str [105,102,32,40]))]),zx 40 119 [.t 38,.t 39]]) (zq [zo 42 (.bin .eql (.t 12) (zu 4)),zm 41 42] (.cond (.t 41) (.reg [zm 43 0,zo 44 (.buildSl 1 [.str []] [(0,1,.c (.str [119,104,105,108,101,32,40]))]),zx 45 119 [.t 43,.t 44]]) .skip)))))))))))) (zq [zm 46 0,zm 47 1,zc 48 47,zf 49 2 48,zx 50 120 [.t 46,.t 49]] (zr [zm 51 1,zc 52 51,zf 53 0 52,zl 54 53,zo 55 (.bin .neq (.t 54) (zu 3)),zm 56 55,zg 57 (.mv (.t 1)) 56 true,zg 58 (.nilChk (.t 57)) 56 true,zg 59 (.fieldA 0 (.t 58)) 56 true,zg 60 (.load false 1 (.t 59)) 56 true,zg 61 (.bin .neq (.t 60) (zu 4)) 56 true,zo 62 (.pick (.t 56) (.t 61) (.c (.bool false)))] 62 (zq [zm 63 0,zo 64 (.buildSl 1 [.str []] [(0,1,.c (.str [59,10]))]),zx 65 119 [.t 63,.t 64]] .ret) .skip (zq [zm 66 0,zo 67 (.buildSl 1 [.str []] [(0,1,.c (.str [41,32,123,10]))]),zx 68 119 [.t 66,.t 67]] (zq [zm 69 0,zm 70 1,zc 71 70,zf 72 6 71,zl 73 72,zm 74 2,zk 75 .add 74 1,zx 76 37 [.t 69,.t 73,.t 75]] (zr [zm 77 1,zc 78 77,zf 79 7 78,zl 80 79,zh 81 80,zk 82 .gtr 81 0] 82 (zq [zm 83 0,zm 84 2,zx 85 118 [.t 83,.t 84]] (zq [zm 86 0,zo 87 (.buildSl 1 [.str []] [(0,1,.c (.str [125,32,101,108,115,101,32,123,10]))]),zx 88 119 [.t 86,.t 87]] (.reg [zm 89 0,zm 90 1,zc 91 90,zf 92 7 91,zl 93 92,zm 94 2,zk 95 .add 94 1,zx 96 37 [.t 89,.t 93,.t 95]]))) .skip (zq [zm 97 0,zm 98 2,zx 99 118 [.t 97,.t 98]] (.reg [zm 100 0,zo 101 (.buildSl 1 [.str []] [(0,1,.c (.str [125,10]))]),zx 102 119 [.t 100,.t 101]])))))))),[]⟩
theorem za82:cN Tryz.prog 82=some c82:=by kernel_rfl
def c118:AFn:=⟨17,zq [zm 4 1,zo 5 (.mv (zi 0))] (.block 0 (.loop (zq [zb 6 .lss 5 4] (.seq (.cond (.t 6) .skip (.exit 0)) (.seq (.block 1 (.reg [zm 7 0,zm 8 0,zc 9 8,zf 10 0 9,zl 11 10,zo 12 (.buildSl 1 [zU 0] [(0,1,zu 9)]),zy 13 11 12,zc 14 7,zf 15 0 14,zs 15 13])) (.reg [zk 16 .add 5 1,zm 5 16])))))),[]⟩
theorem za118:cN Tryz.prog 118=some c118:=by kernel_rfl
def c119:AFn:=⟨22,zq [zm 6 1,zh 7 6,zo 8 (.mv (zi 0))] (.block 0 (.loop (zq [zb 9 .lss 8 7] (.seq (.cond (.t 9) .skip (.exit 0)) (.seq (.block 1 (zq [zd 10 6 8,zl 11 10,zm 5 11] (.reg [zm 12 0,zm 13 0,zc 14 13,zf 15 0 14,zl 16 15,zm 17 5,zy 18 16 17,zc 19 12,zf 20 0 19,zs 20 18]))) (.reg [zk 21 .add 8 1,zm 8 21])))))),[]⟩
theorem za119:cN Tryz.prog 119=some c119:=by kernel_rfl
def c120:AFn:=⟨100,zq [zm 5 1,zc 6 5,zf 7 0 6,zl 8 7] (.block 0 (zq [zo 10 (.bin .eql (.t 8) (zu 1)),zm 9 10] (.cond (.t 9) (.reg [zm 11 0,zm 12 1,zc 13 12,zf 14 2 13,zl 15 14,zx 16 162 [.t 15],zo 17 (.buildSl 1 [.str []] [(0,1,.t 16)]),zx 18 119 [.t 11,.t 17]]) (zq [zo 20 (.bin .eql (.t 8) (zu 2)),zm 19 20] (.cond (.t 19) (.reg [zm 21 0,zm 22 1,zc 23 22,zf 24 1 23,zl 25 24,zo 26 (.buildSl 1 [.str []] [(0,1,.t 25)]),zx 27 119 [.t 21,.t 26]]) (zq [zo 29 (.bin .eql (.t 8) (zu 4)),zm 28 29] (.cond (.t 28) (zq [zm 30 0,zm 31 1,zc 32 31,zf 33 1 32,zl 34 33,zo 35 (.buildSl 2 [.str []] [(0,1,.t 34),(1,1,.c (.str [40]))]),zx 36 119 [.t 30,.t 35]] (.seq (zq [zm 37 1,zc 38 37,zf 39 3 38,zl 40 39,zh 41 40,zo 42 (.mv (zi 0))] (.block 1 (.loop (zq [zb 43 .lss 42 41] (.seq (.cond (.t 43) .skip (.exit 1)) (.seq (.block 2 (zq [zm 44 42,zm 4 44] (zr [zm 45 4,zk 46 .gtr 45 0] 46 (.reg [zm 47 0,zo 48 (.buildSl 1 [.str []] [(0,1,.c (.str [44,32]))]),zx 49 119 [.t 47,.t 48]]) .skip (.reg [zm 50 0,zm 51 1,zc 52 51,zf 53 3 52,zl 54 53,zm 55 4,zo 56 (.idxA 4 (.t 54) (.t 55)),zx 57 163 [.t 50,.t 56]])))) (.reg [zk 58 .add 42 1,zm 42 58]))))))) (.reg [zm 59 0,zo 60 (.buildSl 1 [.str []] [(0,1,.c (.str [41]))]),zx 61 119 [.t 59,.t 60]]))) (zq [zo 63 (.bin .eql (.t 8) (zu 3)),zm 62 63] (.cond (.t 62) (zr [zm 64 1,zc 65 64,zf 66 3 65,zl 67 66,zh 68 67,zk 69 .eql 68 2] 69 (zq [zm 70 0,zm 71 1,zc 72 71,zf 73 3 72,zl 74 73,zo 75 (.idxA 4 (.t 74) (zi 0)),zx 76 163 [.t 70,.t 75]] (.reg [zm 77 0,zo 78 (.buildSl 1 [.str []] [(0,1,.c (.str [32]))]),zx 79 119 [.t 77,.t 78]])) .skip (zq [zm 80 0,zm 81 1,zc 82 81,zf 83 1 82,zl 84 83,zo 85 (.buildSl 2 [.str []] [(0,1,.t 84),(1,1,.c (.str [32]))]),zx 86 119 [.t 80,.t 85]] (.reg [zm 87 0,zm 88 1,zc 89 88,zf 90 3 89,zl 91 90,zm 92 1,zc 93 92,zf 94 3 93,zl 95 94,zh 96 95,zk 97 .sub 96 1,zo 98 (.idxA 4 (.t 91) (.t 97)),zx 99 163 [.t 87,.t 98]]))) .skip))))))))),[]⟩
theorem za120:cN Tryz.prog 120=some c120:=by kernel_rfl
def c163:AFn:=⟨21,zr [zm 4 1,zc 5 4,zf 6 0 5,zl 7 6,zo 8 (.bin .neq (.t 7) (zu 3))] 8 (zq [zm 9 0,zm 10 1,zx 11 120 [.t 9,.t 10]] .ret) .skip (zq [zm 12 0,zo 13 (.buildSl 1 [.str []] [(0,1,.c (.str [40]))]),zx 14 119 [.t 12,.t 13]] (zq [zm 15 0,zm 16 1,zx 17 120 [.t 15,.t 16]] (.reg [zm 18 0,zo 19 (.buildSl 1 [.str []] [(0,1,.c (.str [41]))]),zx 20 119 [.t 18,.t 19]]))),[]⟩
theorem za163:cN Tryz.prog 163=some c163:=by kernel_rfl
end
end Go.Proofs.Wo
