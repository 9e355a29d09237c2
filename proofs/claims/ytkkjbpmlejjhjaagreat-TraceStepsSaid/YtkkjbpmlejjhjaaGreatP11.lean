/- Part of a proof (UJ6 UI5 UC5 UL1 UL2 UL3 UFB); no condition. -/
import Derived.Test.YtkkjbpmlejjhjaaGreatProg
import Derived.KernelRfl
import Derived.Test.YtkkjbpmlejjhjaaGreatP5
import Derived.Test.YtkkjbpmlejjhjaaGreatP7
import Derived.Test.YtkkjbpmlejjhjaaGreatP10
set_option linter.unusedSimpArgs false
set_option linter.unusedVariables false
set_option linter.defProp false
set_option linter.unnecessarySimpa false
namespace Go.Proofs.Tc
open Go.Abs Go.Abs.S
def shL(s:Cod)(vc vd:AVal):List AVal:=[vc,.int .i64 s.regs,vd]
structure CdIn(P:Nat→Prop)(H:AHeap)(vc vd:AVal)(s:Cod):Prop where
 c:SlK P H 1 vc s.consts.length (zL s.consts)
 d:SlK P H 4 vd s.code.length (izL s.code)
theorem CdIn.mono{P Q:Nat→Prop}{H H':AHeap}{s:Cod}{vc vd:AVal}(h:CdIn P H vc vd s)(q:∀b,P b→Q b∧H'.get b=H.get b):CdIn Q H' vc vd s:=⟨h.c.mono q,h.d.mono q⟩
theorem ldC{H:AHeap}{b:Nat}{s:Cod}{vc vd:AVal}(r:Row H b (shL s vc vd)):oLoad false 1 H (cellR b 3 0)=some vc∧oLoad false 1 H (cellR b 3 1)=some (.int .i64 s.regs)∧oLoad false 1 H (cellR b 3 2)=some vd∧oLoad true 3 H (cellR b 3 0)=some (.agg (shL s vc vd)):=
 ⟨row_load r rfl rfl,row_load r rfl rfl,row_load r rfl rfl,row_loadN r rfl⟩
theorem ldI{H:AHeap}{b:Nat}{i:InZ}(r:Row H b (izC i)):oLoad false 1 H (cellR b 4 0)=some (.int .u8 (i.o:Int))∧oLoad false 1 H (cellR b 4 1)=some (.int .i64 i.a)∧oLoad false 1 H (cellR b 4 2)=some (.int .i64 i.b)∧oLoad false 1 H (cellR b 4 3)=some (.int .i64 i.c):=
 ⟨row_load r rfl rfl,row_load r rfl rfl,row_load r rfl rfl,row_load r rfl rfl⟩
theorem ldK8{H:AHeap}{b:Nat}{u v:Int}{p n:V}(r:Row H b (lookC u v p n)):oLoad false 1 H (cellR b 8 0)=some (.int .i64 u)∧oLoad false 1 H (cellR b 8 1)=some (.int .i64 v)∧oLoad true 3 H (cellR b 8 2)=some (.agg p.cells)∧oLoad true 3 H (cellR b 8 5)=some (.agg n.cells):=
 ⟨row_load r rfl rfl,row_load r rfl rfl,row_loadK r (n:=8) rfl (i:=2) (k:=3) om,row_loadK r (n:=8) rfl (i:=5) (k:=3) om⟩
theorem SlK.load4{P:Nat→Prop}{H:AHeap}{v:AVal}{l:List InZ}(h:SlK P H 4 v l.length (izL l)){i:Nat}{x:InZ}(hx:l[i]?=some x):oLoad true 4 H (placeK 4 v i)=some (.agg (izC x)):=by
 rw[h.load (List.getElem?_eq_some_iff.1 hx).1,izL_at hx]
theorem zL_get{l:List Int}{i:Nat}{x:Int}(h:l[i]?=some x):(zL l)[i]?=some (.int .i64 x):=by unfold zL; rw[List.getElem?_map,h]; rfl
theorem regs4{a b c d:V}{R:Nat}(h:4≤R):((((List.replicate R V0).set 0 a).set 1 b).set 2 c).set 3 d=[a,b,c,d]++List.replicate (R-4) V0:=by
 obtain⟨n,rfl⟩:∃n,R=n+4:=⟨R-4,om⟩
 rw[show n+4-4=n by omega]
 simp[List.replicate_succ]
theorem fin_ctt{T:Env}{H:AHeap}(g:Bool)(n i j k:Nat)(K:AVal→AHeap→Prop):fin [.cell g n i,.t j,.t k] K .ret T H=OptP (oLoad g n H (T i)) fun v=>K (.tuple [v,T j,T k]) H:=by
 rw[fin_ret]
 simp only[wRes]
 cases oLoad g n H (T i) with
 | none=>simp[OptP]
 | some v=>simp only[OptP_some]; rfl
set_option maxHeartbeats 4000000 in
theorem run_spec{s:Cod}(hs:okCode s.regs s.consts.length s.code=0)(hc1:∀x∈s.consts,J64 x)(hl1:s.code.length≤100000){u v:Int}{p nv:V}(hu:J64 u)(hv:J64 v)(hp:p.j)(hn:nv.j){t:Tex}{vc vd vp:AVal}{H:AHeap}(I:CdIn (·<H.next) H vc vd s)(S:SlK (·<H.next) H 1 vp t.pix.length (byts t.pix)) :
  ACalls Tryz.prog noNat 58 [.agg (shL s vc vd),.agg (lookC u v p nv),.agg (texL t vp),.int .i64 200] H fun r H'=>(∃e:Int,r=.tuple [.agg (shadeF s t u v p nv).1.cells,.int .i64 ((shadeF s t u v p nv).2:Int),.int .i64 e]∧(e=0∨(shadeF s t u v p nv).1=V0))∧Ext H.next H H'∧(shadeF s t u v p nv).1.j∧(shadeF s t u v p nv).2≤200:=by
 have ok:=okCode_ok hs
 obtain⟨R,hR⟩:∃R:Nat,s.regs=R:=⟨s.regs.toNat,by have:=ok.r1; omega⟩
 have hR4:4≤R:=by have:=ok.r1; omega
 have hR250:R≤250:=by have:=ok.r2; omega
 obtain⟨H1,m1,r1,n1,k1⟩:=row_newL H (shL s vc vd) (n:=3) rfl
 obtain⟨H2,m2,r2,n2,k2⟩:=row_newL H1 (lookC u v p nv) (n:=8) rfl
 obtain⟨H3,m3,r3,n3,k3⟩:=row_newL H2 (texL t vp) (n:=3) rfl
 obtain⟨H4,m4,r4,n4,k4⟩:=row_newL H3 (v3 0 0 0) (n:=3) rfl
 have E4:Ext H.next H H4:=⟨om,fun c hc=>by rw[k4 c om,k3 c om,k2 c om,k1 c om]⟩
 have l4:=(ldC (r1.same (H':=H4) (by rw[k4 _ om,k3 _ om,k2 _ om]))).2.2.2
 have I4:CdIn (·<H4.next) H4 vc vd s:=I.mono fun b hb=>⟨Nat.lt_of_lt_of_le hb E4.next,E4.old b hb⟩
 refine acalls_ofN rfl za58 rfl ?_
 simp only[c58,sA,sB,seval,cells_agg,m1,m2,m3,m4,l4]
 refine (kcheck_spec (l:=s.code) (R:=s.regs) I4.c.len I4.d rL I4.c.one om).mono ?_
 rintro _ H5 ⟨rfl,E5⟩
 have e5:=E5.next
 rw[hs]
 obtain⟨H6,m6,r6,n6,k6⟩:=rg_make H5 hR250
 have s1:Row H5 H.next (shL s vc vd):=r1.same (by rw[E5.old _ om,k4 _ om,k3 _ om,k2 _ om])
 have s2:Row H5 H1.next (lookC u v p nv):=r2.same (by rw[E5.old _ om,k4 _ om,k3 _ om])
 have s3:Row H5 H2.next (texL t vp):=r3.same (by rw[E5.old _ om,k4 _ om])
 have s4:Row H5 H3.next (v3 0 0 0):=r4.same (E5.old _ om)
 have E45:=E4.trans (E5.less E4.next)
 obtain⟨_,l51,_,_⟩:=ldC s1
 rw[hR]at l51
 have c0:((0:Nat):Int)=0:=rfl
 simp only[sA,sB,seval,c0,fldA,l51,m6]
 obtain⟨a0,ha0⟩:∃n,n=H.next:=⟨_,rfl⟩
 have e1:H1.next=a0+1:=om
 have e2:H2.next=a0+2:=om
 have e3:H3.next=a0+3:=om
 have h4n:H4.next=a0+4:=om
 obtain⟨rb,hrb⟩:∃n,n=H5.next:=⟨_,rfl⟩
 rw[← hrb]at r6 k6 m6
 rw[← ha0]at s1
 rw[e1]at s2
 rw[e2]at s3
 rw[e3]at s4
 rw[← ha0,e1,e2,e3,← hrb]
 have ll:∀{K:AHeap},K.get (a0+1)=H5.get (a0+1)→oLoad false 1 K (cellR (a0+1) 8 0)=some (.int .i64 u)∧oLoad false 1 K (cellR (a0+1) 8 1)=some (.int .i64 v)∧oLoad true 3 K (cellR (a0+1) 8 2)=some (.agg p.cells)∧oLoad true 3 K (cellR (a0+1) 8 5)=some (.agg nv.cells):=fun e=>ldK8 (s2.same e)
 refine aw_drawC rfl ?_
 obtain⟨q1,q2,q3,q4⟩:=ll (K:=H6) (k6 _ om)
 simp only[sR,sA,sB,seval,fld0,fldA,q1]
 refine number_spec.mono ?_
 rintro _ H7 ⟨rfl,E7⟩
 have e7:=E7.next
 obtain⟨w1,w2,w3,w4⟩:=ll (K:=H7) (by rw[E7.old _ om,k6 _ om])
 simp only[sR,sA,sB,seval,fld0,fldA,w2]
 refine number_spec.mono ?_
 rintro _ H8 ⟨rfl,E8⟩
 have e8:=E8.next
 obtain⟨x1,x2,x3,x4⟩:=ll (K:=H8) (by rw[E8.old _ om,E7.old _ om,k6 _ om])
 have rg0:Row H8 rb ((List.replicate R V0).flatMap V.cells):=r6.same (by rw[E8.old _ om,E7.old _ om])
 have lr:(List.replicate R V0).length=R:=List.length_replicate
 obtain⟨H9,m9,r9,n9,k9⟩:=rg_st (v:=numV u) rg0 lr (i:=0) om
 obtain⟨Ha,ma,ra,na,ka⟩:=rg_st (R:=R) (v:=numV v) r9 (by simp) (i:=1) om
 obtain⟨Hb,mb,rb2,nb,kb⟩:=rg_st (R:=R) (v:=p) ra (by simp) (i:=2) om
 obtain⟨Hc,mc,rc,nc,kc⟩:=rg_st (R:=R) (v:=nv) rb2 (by simp) (i:=3) om
 rw[regs4 hR4]at rc
 have i0:=rg_idx (b:=rb) (R:=R) (i:=0) om
 have i1:=rg_idx (b:=rb) (R:=R) (i:=1) om
 have i2:=rg_idx (b:=rb) (R:=R) (i:=2) om
 have i3:=rg_idx (b:=rb) (R:=R) (i:=3) om
 simp only[Int.cast_ofNat_Int,Nat.reduceMul]at i0 i1 i2 i3 m9 ma mb mc
 obtain⟨y1,y2,y3,y4⟩:=ll (K:=H9) (by rw[k9 _ om,E8.old _ om,E7.old _ om,k6 _ om])
 obtain⟨z1,z2,z3,z4⟩:=ll (K:=Ha) (by rw[ka _ om,k9 _ om,E8.old _ om,E7.old _ om,k6 _ om])
 obtain⟨v1,v2,v3',v4⟩:=ll (K:=Hb) (by rw[kb _ om,ka _ om,k9 _ om,E8.old _ om,E7.old _ om,k6 _ om])
 simp only[sR,sA,sB,seval,fldA,x3,x4,i0,i1,i2,i3,m9,ma,mb,mc]
 simp only[ck_nil',ck_cons,ckP_load,ckP_nil,ck_end,and_true,true_and,List.map_cons,List.map_nil,sA,sB,seval,fld0,fldA]
 refine⟨?_,?_⟩
 ·and_intros <;> first | rfl | exact⟨_,rfl,fun _=>⟨_,by first | assumption | (simp only[sA,sB,seval,fld0,fldA]; assumption),by first | exact aeq_int _ _ | exact aeq_V _⟩⟩
 obtain⟨Hd,md,rd,nd,kd⟩:=row_newL Hc (v3 0 0 0) (n:=3) rfl
 simp only[sA,sB,seval,md]
 obtain⟨ob,hob⟩:∃n,n=Hc.next:=⟨_,rfl⟩
 rw[← hob]at rd kd ⊢
 have oldD:∀c,c<H5.next→Hd.get c=H5.get c:=fun c hc=>by rw[kd c om,kc c om,kb c om,ka c om,k9 c om,E8.old c om,E7.old c om,k6 c om]
 have rgD:Row Hd rb (([numV u,numV v,p,nv]++List.replicate (R-4) V0).flatMap V.cells):=rc.same (kd _ om)
 have shE:shadeF s t u v p nv=vmF s t 200 0 ([numV u,numV v,p,nv]++List.replicate (R-4) V0) 0:=by
  unfold shadeF lookRegs; rw[hR]; rfl
 rw[shE]
 obtain⟨rg0s,hrg0⟩:∃l,l=[numV u,numV v,p,nv]++List.replicate (R-4) V0:=⟨_,rfl⟩
 rw[← hrg0]at rgD ⊢
 have lrg0:rg0s.length=R:=by rw[hrg0]; simp; omega
 have jrg0:∀q∈rg0s,q.j:=fun q hq=>by
  rw[hrg0]at hq
  simp only[List.cons_append,List.nil_append,List.mem_cons,List.mem_replicate]at hq
  rcases hq with rfl | rfl | rfl | rfl | ⟨_,rfl⟩
  ·exact numV_j hu
  ·exact numV_j hv
  ·exact hp
  ·exact hn
  ·exact V0_j
 have s1D:=s1.same (H':=Hd) (oldD _ om)
 have s3D:=s3.same (H':=Hd) (oldD _ om)
 have s4D:=s4.same (H':=Hd) (oldD _ om)
 have ID:CdIn (·<H.next) Hd vc vd s:=I.mono fun b hb=>⟨hb,by have hb':b<H.next:=hb; rw[oldD b om,E45.old b hb']⟩
 have SD:SlK (·<H.next) Hd 1 vp t.pix.length (byts t.pix):=S.mono fun b hb=>⟨hb,by have hb':b<H.next:=hb; rw[oldD b om,E45.old b hb']⟩
 have oD:∀c,c<H.next→Hd.get c=H.get c:=fun c hc=>by rw[oldD c om,E45.old c hc]
 refine aw_loop (fun m (T:Env) K=>∃(steps pc:Nat) (regs:List V),m=200-steps∧steps≤200∧pc<s.code.length∧regs.length=R∧(∀q∈regs,q.j)∧vmF s t 200 0 rg0s 0=vmF s t (200-steps) pc regs steps∧Hd.next≤K.next∧(∀c,c<Hd.next→c≠rb→K.get c=Hd.get c)∧Row K rb (regs.flatMap V.cells) ∧
   T 3=.int .i64 200∧T 4=cellR a0 3 0∧T 6=cellR (a0+2) 3 0∧T 8=cellR (a0+3) 3 0∧T 12=rgS rb R∧T 13=.int .i64 (steps:Int)∧T 14=.int .i64 (pc:Int)∧T 15=cellR ob 3 0) 200
  ⟨0,0,rg0s,rfl,om,ok.l1,lrg0,jrg0,rfl,Nat.le_refl _,fun _ _ _=>rfl,rgD,tt,tt,tt,tt,tt,tt,tt,tt⟩ ?_
 rintro m T K ⟨steps,pc,regs,rfl,hst,hpc,lrg,jrg,ev,kn,kg,rr,t3,t4,t6,t8,t12,t13,t14,t15⟩
 by_cases hf:steps<200
 case neg=>
  obtain rfl:steps=200:=om
  have cge:(200:Int)≤((200:Nat):Int):=om
  obtain⟨K2,m2',r2',n2',k2'⟩:=row_storeN (s4D.same (H':=K) (kg _ om om)) (n:=3) rfl (xs:=v3 0 0 0) rfl rfl
  have l2':=row_loadN r2' (n:=3) rfl
  rw[ev,show 200-200=0 from rfl]
  simp only[sA,sB,seval,t13,t3,cge,t8,bl30,m2',fin_ctt,OptP_some,l2']
  exact⟨⟨_,rfl,.inr rfl⟩,⟨om,fun c hc=>by rw[k2' c om,kg c om om,oD c om]⟩,V0_j,Nat.le_refl _⟩
 have cge:¬(200:Int)≤(steps:Int):=om
 obtain⟨x,hx⟩:=isSome_of_lt hpc
 have hok:=ok.i x (List.mem_of_getElem? hx)
 rw[hR]at hok
 have hnl:x.o≠32→x.o≠34→pc+1<s.code.length:=fun h1 h2=>by
  by_cases he:pc=s.code.length-1
  ·have:=ok.l x (by rw[← he]; exact hx)
   omega
  ·omega
 have s1K:=s1D.same (H':=K) (kg _ om om)
 obtain⟨_,_,lvd,_⟩:=ldC s1K
 have IK:CdIn (·<H.next) K vc vd s:=ID.mono fun b hb=>⟨hb,by have hb':b<H.next:=hb; exact kg b om om⟩
 have ix:=IK.d.idx hpc
 have l4x:=IK.d.load4 hx
 obtain⟨K1,mk1,rk1,nk1,kk1⟩:=row_newL K [.int .u8 0,.int .i64 0,.int .i64 0,.int .i64 0] (n:=4) rfl
 obtain⟨K2,mk2,rk2,nk2,kk2⟩:=row_storeN rk1 (n:=4) rfl (xs:=izC x) rfl rfl
 obtain⟨ib,hib⟩:∃b,b=K.next:=⟨_,rfl⟩
 rw[← hib]at mk1 rk1 kk1 mk2 rk2 kk2
 have old2:∀c,c<K.next→K2.get c=K.get c:=fun c hc=>by rw[kk2 c om,kk1 c om]
 have kg2:∀c,c<Hd.next→c≠rb→K2.get c=Hd.get c:=fun c h1 h2=>by rw[old2 c om,kg c h1 h2]
 have rr2:Row K2 rb (regs.flatMap V.cells):=rr.same (old2 _ om)
 have ws:IntKind.i64.wrap ((steps:Int)+1)=((steps+1:Nat):Int):=w64
 have wp1:IntKind.i64.wrap ((pc:Int)+1)=((pc+1:Nat):Int):=w64
 have hm:200-(steps+1)<200-steps:=om
 have e200:200-steps=(200-(steps+1))+1:=om
 have kn2:Hd.next≤K2.next:=om
 obtain⟨li0,li1,li2,li3⟩:=ldI rk2
 have I2:CdIn (·<H.next) K2 vc vd s:=ID.mono fun b hb=>⟨hb,by have hb':b<H.next:=hb; exact kg2 b om om⟩
 obtain⟨lvc2,_,_,_⟩:=ldC (s1D.same (H':=K2) (kg2 _ om om))
 have nrb:∀{c:Nat},c<Hd.next→c≠rb→c≠ib:=fun h _=>om
 by_cases h1:x.o=1
 ·obtain⟨⟨ha0',ha1⟩,hb0,hb1⟩:=ok_con hok h1
  obtain⟨na,hna⟩:∃n:Nat,x.a=n:=⟨x.a.toNat,om⟩
  obtain⟨nb',hnb⟩:∃n:Nat,x.b=n:=⟨x.b.toNat,om⟩
  obtain⟨y,hy⟩:=isSome_of_lt (l:=s.consts) (i:=nb') om
  have jy:=hc1 y (List.mem_of_getElem? hy)
  have iy:=I2.c.idx (i:=nb') om
  have ly:=I2.c.load1 (i:=nb') om (zL_get hy)
  have hpn:=hnl om om
  have evm:=vm_con (t:=t) (k:=200-(steps+1)) (regs:=regs) (steps:=steps) hx h1
  rw[hna,hnb]at evm
  simp only[Int.toNat_natCast,hy,Option.getD_some]at evm
  rw[h1]at li0
  simp only[Int.cast_ofNat_Int]at li0
  rw[hna]at li1
  rw[hnb]at li2
  simp only[sA,sB,seval,t13,t3,cge,t4,fldA,lvd,t14,ix,l4x,mk1,mk2,ws,wp1,fld0,li0]
  refine aw_drawC rfl ?_
  simp only[sR,sA,sB,seval,t4,t12,fld0,fldA,li1,li2,lvc2,iy,ly]
  refine number_spec.mono ?_
  rintro _ K3 ⟨rfl,E3⟩
  have e3':=E3.next
  have li13:oLoad false 1 K3 (cellR ib 4 1)=some (.int .i64 (na:Int)):=by rw[← hna]; exact (ldI (rk2.same (E3.old _ om))).2.1
  have ia:=rg_idx (b:=rb) (R:=R) (i:=na) om
  obtain⟨K4,m44,r44,n44,k44⟩:=rg_st (v:=numV y) (rr2.same (E3.old _ om)) lrg (i:=na) om
  simp only[sR,sA,sB,seval,ia,m44]
  simp only[ck_nil',ck_cons,ckP_load,ckP_nil,ck_end,and_true,true_and,List.map_cons,List.map_nil,sA,sB,seval,fld0,fldA]
  refine⟨⟨_,rfl,fun _=>⟨_,li13,aeq_int _ _⟩⟩,?_⟩
  exact⟨_,hm,steps+1,pc+1,_,rfl,om,hpn,by rw[List.length_set]; exact lrg,set_j jrg na (numV_j jy),by rw[ev,e200,evm],om,fun c q1 q2=>by rw[k44 c q2,E3.old c om,kg2 c q1 q2],r44,by simp only[t3,t4,t6,t8,t12,t15,and_true,true_and]⟩
 by_cases h17:x.o=17
 ·obtain⟨⟨ha0',ha1⟩,hb0,hb1⟩:=ok_vec hok h17
  obtain⟨na,hna⟩:∃n:Nat,x.a=n:=⟨x.a.toNat,om⟩
  obtain⟨nb',hnb⟩:∃n:Nat,x.b=n:=⟨x.b.toNat,om⟩
  have hpn:=hnl om om
  have evm:=vm_vec (t:=t) (k:=200-(steps+1)) (regs:=regs) (steps:=steps) hx h17
  rw[hna,hnb]at evm
  have g0:regs[nb']?=some (rg regs (nb':Int)):=by unfold rg; rw[Int.toNat_natCast,List.getElem?_eq_getElem om]; rfl
  have g1:regs[nb'+1]?=some (rg regs ((nb':Int)+1)):=by unfold rg; rw[show ((nb':Int)+1).toNat=nb'+1 by omega,List.getElem?_eq_getElem om]; rfl
  have g2:regs[nb'+2]?=some (rg regs ((nb':Int)+2)):=by unfold rg; rw[show ((nb':Int)+2).toNat=nb'+2 by omega,List.getElem?_eq_getElem om]; rfl
  have x0:=rg_ldx rr2 lrg g0
  have x1:=rg_ldx rr2 lrg g1
  have x2:=rg_ldx rr2 lrg g2
  have ib0:=rg_idx (b:=rb) (R:=R) (i:=nb') om
  have ib1:=rg_idx (b:=rb) (R:=R) (i:=nb'+1) om
  have ib2:=rg_idx (b:=rb) (R:=R) (i:=nb'+2) om
  have wb1:IntKind.i64.wrap ((nb':Int)+1)=((nb'+1:Nat):Int):=w64
  have wb2:IntKind.i64.wrap ((nb':Int)+2)=((nb'+2:Nat):Int):=w64
  have ia:=rg_idx (b:=rb) (R:=R) (i:=na) om
  obtain⟨w,hw⟩:∃w:V,w=⟨(rg regs (nb':Int)).x,(rg regs ((nb':Int)+1)).x,(rg regs ((nb':Int)+2)).x⟩:=⟨_,rfl⟩
  rw[← hw]at evm
  obtain⟨K4,m44,r44,n44,k44⟩:=rg_st (v:=w) rr2 lrg (i:=na) om
  have bw:aBuild [.int .i64 0,.int .i64 0,.int .i64 0] [(0,1,.int .i64 (rg regs (nb':Int)).x),(1,1,.int .i64 (rg regs ((nb':Int)+1)).x),(2,1,.int .i64 (rg regs ((nb':Int)+2)).x)]=some (.agg w.cells):=by rw[hw]; rfl
  rw[h17]at li0
  simp only[Int.cast_ofNat_Int]at li0
  rw[hna]at li1
  rw[hnb]at li2
  simp only[sA,sB,seval,t13,t3,cge,t4,fldA,lvd,t14,ix,l4x,mk1,mk2,ws,wp1,fld0,li0,t12,li1,li2,ib0,nil_cell,Nat.add_zero,x0,wb1,ib1,x1,wb2,ib2,x2,bw,ia,m44]
  exact⟨_,hm,steps+1,pc+1,_,rfl,om,hpn,by rw[List.length_set]; exact lrg,set_j jrg na (by rw[hw]; exact mk_j (rg_j jrg _).1 (rg_j jrg _).1 (rg_j jrg _).1),by rw[ev,e200,evm]; rfl,om,fun c q1 q2=>by rw[k44 c q2,kg2 c q1 q2],r44,by simp only[t3,t4,t6,t8,t12,t15,and_true,true_and]⟩
 by_cases h32:x.o=32
 ·obtain⟨hc0,hc1'⟩:=ok_jmp hok h32
  obtain⟨nc',hnc'⟩:∃n:Nat,x.c=n:=⟨x.c.toNat,om⟩
  rw[h32]at li0
  simp only[Int.cast_ofNat_Int]at li0
  rw[hnc']at li3
  simp only[sA,sB,seval,t13,t3,cge,t4,fldA,lvd,t14,ix,l4x,mk1,mk2,ws,wp1,fld0,li0,li3]
  exact⟨_,hm,steps+1,nc',regs,rfl,om,om,lrg,jrg,by rw[ev,e200,vm_jmp hx h32,hnc']; rfl,kn2,kg2,rr2,by simp only[t3,t4,t6,t8,t12,t15,and_true,true_and]⟩
 by_cases h33:x.o=33
 ·obtain⟨⟨ha0',ha1⟩,hc0,hc1'⟩:=ok_unl hok h33
  obtain⟨na,hna⟩:∃n:Nat,x.a=n:=⟨x.a.toNat,om⟩
  obtain⟨nc',hnc'⟩:∃n:Nat,x.c=n:=⟨x.c.toNat,om⟩
  have hpn:=hnl om om
  have evm:=vm_unl (t:=t) (k:=200-(steps+1)) (regs:=regs) (steps:=steps) hx h33
  rw[hna,hnc']at evm
  have g0:regs[na]?=some (rg regs (na:Int)):=by unfold rg; rw[Int.toNat_natCast,List.getElem?_eq_getElem om]; rfl
  have x0:=rg_ldx rr2 lrg g0
  have ia:=rg_idx (b:=rb) (R:=R) (i:=na) om
  rw[h33]at li0
  simp only[Int.cast_ofNat_Int]at li0
  rw[hna]at li1
  rw[hnc']at li3
  by_cases hz:(rg regs (na:Int)).x=0
  ·rw[if_pos hz,Int.toNat_natCast]at evm
   rw[hz]at x0
   simp only[sA,sB,seval,t13,t3,cge,t4,fldA,lvd,t14,ix,l4x,mk1,mk2,ws,wp1,fld0,li0,t12,li1,ia,nil_cell,Nat.add_zero,x0,li3]
   exact⟨_,hm,steps+1,nc',regs,rfl,om,om,lrg,jrg,by rw[ev,e200,evm],kn2,kg2,rr2,by simp only[t3,t4,t6,t8,t12,t15,and_true,true_and]⟩
  ·rw[if_neg hz]at evm
   simp only[sA,sB,seval,t13,t3,cge,t4,fldA,lvd,t14,ix,l4x,mk1,mk2,ws,wp1,fld0,li0,t12,li1,ia,nil_cell,Nat.add_zero,x0,hz]
   exact⟨_,hm,steps+1,pc+1,regs,rfl,om,hpn,lrg,jrg,by rw[ev,e200,evm],kn2,kg2,rr2,by simp only[t3,t4,t6,t8,t12,t15,and_true,true_and]⟩
 by_cases h34:x.o=34
 ·obtain⟨ha0',ha1⟩:=ok_ret hok h34
  obtain⟨na,hna⟩:∃n:Nat,x.a=n:=⟨x.a.toNat,om⟩
  have evm:=vm_ret (t:=t) (k:=200-(steps+1)) (regs:=regs) (steps:=steps) hx h34
  rw[hna]at evm
  have g0:regs[na]?=some (rg regs (na:Int)):=by unfold rg; rw[Int.toNat_natCast,List.getElem?_eq_getElem om]; rfl
  have x0:=rg_ld3 rr2 lrg g0
  have ia:=rg_idx (b:=rb) (R:=R) (i:=na) om
  rw[h34]at li0
  simp only[Int.cast_ofNat_Int]at li0
  rw[hna]at li1
  obtain⟨K3,m33,r33,n33,k33⟩:=row_storeN (rd.same (H':=K2) (kg2 _ om om)) (n:=3) rfl (xs:=(rg regs (na:Int)).cells) rfl rfl
  have l33:=row_loadN r33 (n:=3) rfl
  obtain⟨K4,m44,r44,n44,k44⟩:=row_storeN (s4D.same (H':=K3) (by rw[k33 _ om,kg2 _ om om])) (n:=3) rfl (xs:=(rg regs (na:Int)).cells) rfl rfl
  have l44:=row_loadN r44 (n:=3) rfl
  rw[ev,e200,evm]
  simp only[sA,sB,seval,t13,t3,cge,t4,fldA,lvd,t14,ix,l4x,mk1,mk2,ws,wp1,fld0,li0,t12,li1,ia,x0,t15,m33,l33,t8,m44,fin_ctt,OptP_some,l44]
  exact⟨⟨_,rfl,.inl rfl⟩,⟨om,fun c hc=>by rw[k44 c om,k33 c om,kg2 c om om,oD c om]⟩,rg_j jrg _,by first | omega | (show steps+1≤200; omega)⟩
 obtain⟨⟨ha0',ha1⟩,⟨hb0,hb1⟩,hc0,hc1'⟩:=ok_gen om hok h1 h17 h32 h33 h34
 obtain⟨na,hna⟩:∃n:Nat,x.a=n:=⟨x.a.toNat,om⟩
 obtain⟨nb',hnb⟩:∃n:Nat,x.b=n:=⟨x.b.toNat,om⟩
 obtain⟨nc',hnc'⟩:∃n:Nat,x.c=n:=⟨x.c.toNat,om⟩
 have hpn:=hnl h32 h34
 have evm:=vm_gen (t:=t) (k:=200-(steps+1)) (regs:=regs) (steps:=steps) hx h1 h17 h32 h33 h34
 rw[hna,hnb,hnc',Int.toNat_natCast]at evm
 have gb:regs[nb']?=some (rg regs (nb':Int)):=by unfold rg; rw[Int.toNat_natCast,List.getElem?_eq_getElem om]; rfl
 have gc:regs[nc']?=some (rg regs (nc':Int)):=by unfold rg; rw[Int.toNat_natCast,List.getElem?_eq_getElem om]; rfl
 have xb:=rg_ld3 rr2 lrg gb
 have xc:=rg_ld3 rr2 lrg gc
 have ia:=rg_idx (b:=rb) (R:=R) (i:=na) om
 have iib:=rg_idx (b:=rb) (R:=R) (i:=nb') om
 have iic:=rg_idx (b:=rb) (R:=R) (i:=nc') om
 rw[hna]at li1
 rw[hnb]at li2
 rw[hnc']at li3
 have q1:¬(x.o:Int)=1:=om
 have q17:¬(x.o:Int)=17:=om
 have q32:¬(x.o:Int)=32:=om
 have q33:¬(x.o:Int)=33:=om
 have q34:¬(x.o:Int)=34:=om
 have lx2:=(ldX (s3D.same (H':=K2) (kg2 _ om om))).2.2.2
 have S2:SlK (·<K2.next) K2 1 vp t.pix.length (byts t.pix):=SD.mono fun b hb=>by
  have hb':b<H.next:=hb
  exact⟨om,kg2 b om om⟩
 simp only[sA,sB,seval,t13,t3,cge,t4,fldA,lvd,t14,ix,l4x,mk1,mk2,ws,wp1,fld0,li0,q1,q17,q32,q33,q34]
 refine aw_drawC rfl ?_
 simp only[sR,sA,sB,seval,t6,t12,fld0,fldA,li0,li1,li2,li3,iib,xb,iic,xc,lx2]
 refine (apply_spec (o:=x.o) (rg_j jrg _) (rg_j jrg _) S2).mono ?_
 rintro _ K3 ⟨rfl,E3⟩
 have e3':=E3.next
 have li13:oLoad false 1 K3 (cellR ib 4 1)=some (.int .i64 (na:Int)):=by rw[← hna]; exact (ldI (rk2.same (E3.old _ om))).2.1
 obtain⟨K4,m44,r44,n44,k44⟩:=rg_st (v:=applyF x.o (rg regs (nb':Int)) (rg regs (nc':Int)) t) (rr2.same (E3.old _ om)) lrg (i:=na) om
 simp only[sR,sA,sB,seval,ia,m44]
 simp only[ck_nil',ck_cons,ckP_load,ckP_nil,ck_end,and_true,true_and,List.map_cons,List.map_nil,sA,sB,seval,fld0,fldA]
 refine⟨⟨_,rfl,fun _=>⟨_,li13,aeq_int _ _⟩⟩,?_⟩
 exact⟨_,hm,steps+1,pc+1,_,rfl,om,hpn,by rw[List.length_set]; exact lrg,set_j jrg na (applyF_j (rg_j jrg _) (rg_j jrg _) t),by rw[ev,e200,evm],om,fun c q1 q2=>by rw[k44 c q2,E3.old c om,kg2 c q1 q2],r44,by simp only[t3,t4,t6,t8,t12,t15,and_true,true_and]⟩
open Go.Abs Go.Abs.S
abbrev z32:List AVal:=List.replicate 32 (.int .i64 0)
theorem loop_wt{ns:List Nod}{i:Nat}{x y z:Nod}{a b:Nat}{st:List Nat}(hx:ns[i]?=some x)(hy:ns[a]?=some y)(hz:ns[b]?=some z)(e:(y.to_-y.from_)+(z.to_-z.from_)=x.to_-x.from_):wtS ns (a::b::st)=wtS ns (i::st):=by
 rw[wtS_cons,wtS_cons,wtS_cons,wt_some hx,wt_some hy,wt_some hz]; omega
set_option maxHeartbeats 2000000 in
theorem near_spec'{t:Tre}(ht:t.ok){r:Ray}(hr:r.j){least:Int}{p:AVal}{H:AHeap}(K0:TrK (·<H.next) H p t) :
  ACalls Tryz.prog noNat 48 [p,.agg r.cells,.int .i64 least] H fun v H'=>v=.tuple [.agg (treeF t r least).1.cells,.int .i64 ((treeF t r least).2:Int)]∧Ext H.next H H'∧(treeF t r least).1.in t.msh.n∧(treeF t r least).2≤1000:=by
 obtain⟨tb,vp,vt,vb,vN,vO,dp,rfl,tlt,rt,MS,SN,oO,hO⟩:=K0
 replace tlt:tb<H.next:=tlt
 have hnb:t.msh.n≤8192:=by unfold Msh.n; have:=ht.m.nt; have:=ht.m.nb; omega
 obtain⟨H1,m1,r1,n1,k1⟩:=row_newL H r.cells (n:=6) rfl
 obtain⟨H2,m2,r2,n2,k2⟩:=row_newL H1 (h4 0 0 0 0) (n:=4) rfl
 obtain⟨H3,m3,r3,n3,k3⟩:=row_newL H2 (h4 0 0 0 0) (n:=4) rfl
 obtain⟨H4,m4,r4,n4,k4⟩:=row_storeN r3 (n:=4) rfl (xs:=noHit.cells) rfl rfl
 have cneg:(Int.negSucc 0)=-1:=rfl
 have bN:aBuild [.int .i64 0,.int .i64 0,.int .i64 0,.int .i64 0] [(1,1,.int .i64 (-1))]=some (.agg noHit.cells):=rfl
 have eqp:=eq_ptr_nil tb 7 0
 obtain⟨a0,a4,_⟩:=ldTr (rt.same (H':=H4) (by rw[k4 _ om,k3 _ om,k2 _ om,k1 _ om]))
 have lN:=SN.len
 refine acalls_ofN rfl za48 rfl ?_
 by_cases h0:t.nods.length=0
 ·have e0:t.nods=[]:=List.length_eq_zero_iff.1 h0
  have h0':(t.nods.length:Int)=0:=om
  have eF:treeF t r least=(noHit,0):=by unfold treeF; rw[e0]; rfl
  have l4:=row_loadN r4 (n:=4) rfl
  obtain⟨H5,m5,r5,n5,k5⟩:=row_storeN (r2.same (H':=H4) (by rw[k4 _ om,k3 _ om])) (n:=4) rfl (xs:=noHit.cells) rfl rfl
  have l5:=row_loadN r5 (n:=4) rfl
  rw[eF]
  simp only[c48,sA,sB,seval,cells_agg,m1,m2,m3,cneg,bN,m4,eqp,nil_cell,fld0,fldA,a0,a4,lN,h0',l4,m5,fin_ct,OptP_some,l5]
  exact⟨tt,⟨om,fun c hc=>by rw[k5 c om,k4 c om,k3 c om,k2 c om,k1 c om]⟩,noHit_in _,by first | trivial | exact Nat.zero_le _⟩
 have h0':¬(t.nods.length:Int)=0:=om
 have eF:treeF t r least=walkF t r least 1000 [0] (noHit,0):=by
  unfold treeF
  cases hn:t.nods with
  | nil=>rw[hn]at h0; simp at h0
  | cons a l=>rfl
 rw[eF]
 obtain⟨H5,m5,r5,n5,k5⟩:=row_newL H4 z32 (n:=32) rfl
 have z32e:z32=[.int .i64 0,.int .i64 0,.int .i64 0,.int .i64 0,.int .i64 0,.int .i64 0,.int .i64 0,.int .i64 0,.int .i64 0,.int .i64 0,.int .i64 0,.int .i64 0,.int .i64 0,.int .i64 0,.int .i64 0,.int .i64 0,.int .i64 0,.int .i64 0,.int .i64 0,.int .i64 0,.int .i64 0,.int .i64 0,.int .i64 0,.int .i64 0,.int .i64 0,.int .i64 0,.int .i64 0,.int .i64 0,.int .i64 0,.int .i64 0,.int .i64 0,.int .i64 0]:=rfl
 have m5':=m5
 rw[z32e]at m5'
 simp only[c48,sA,sB,seval,cells_agg,m1,m2,m3,cneg,bN,m4,eqp,nil_cell,fld0,fldA,a0,a4,lN,h0',m5']
 obtain⟨n,hn⟩:∃n,n=H.next:=⟨_,rfl⟩
 have e1:H1.next=n+1:=om
 have e2:H2.next=n+2:=om
 have e4:H4.next=n+3:=om
 rw[← hn,e1,e2,e4]
 rw[e2]at r4
 rw[e4]at r5
 have old5:∀c,c<n→H5.get c=H.get c:=fun c hc=>by rw[k5 c om,k4 c om,k3 c om,k2 c om,k1 c om]
 have kit:∀{K:AHeap},n+4≤K.next→(∀c,c<n+2→K.get c=H5.get c)→Row K tb (treL vp vt vb vN vO dp)∧MsIn (·<K.next) K vp vt vb t.msh∧SlK (·<K.next) K 10 vN t.nods.length (t.nods.flatMap Nod.cells)∧Row K n r.cells∧(t.nods=[]∨∃bo,vO=ordS bo t.order.length∧Row K bo (nats t.order)):=fun {K} kn kg=>by
  have q:∀b,b<H.next→b<K.next∧K.get b=H.get b:=fun b hb=>⟨om,by rw[kg b om,old5 b om]⟩
  refine⟨rt.same (q _ tlt).2,MS.mono q,SN.mono q,?_,?_⟩
  ·rw[hn]; exact r1.same (by rw[kg _ om,k5 _ om,k4 _ om,k3 _ om,k2 _ om])
  ·rcases hO with h | ⟨bo,g1,g2,g3⟩
   ·exact .inl h
   ·exact .inr ⟨bo,g1,g3.same (q _ g2).2⟩
 have hne:t.nods≠[]:=fun h=>h0 (by rw[h]; rfl)
 obtain⟨y0,hy0,hw0⟩:∃x,t.nods[0]?=some x∧x.to_-x.from_≤t.order.length:=by
  rcases ht.r with h | h
  ·exact absurd h hne
  ·exact h
 have hos:=ht.s
 have w0:wtS t.nods [0]=y0.to_-y0.from_:=by rw[wtS_cons,wt_some hy0]; rfl
 have w0p:=(ht.g 0 y0 hy0).1.1
 refine aw_loop (fun q (T:Env) K=>∃(st:List Nat) (best:Hit) (cost k:Nat) (S R:List AVal),q=2*wtS t.nods st-st.length∧(∀i∈st,i<t.nods.length)∧wtS t.nods st≤12∧best.in t.msh.n∧cost+20*(2*wtS t.nods st-st.length)≤500∧2*wtS t.nods st-st.length<k∧walkF t r least 1000 [0] (noHit,0)=walkF t r least k st (best,cost) ∧
   n+4≤K.next∧(∀c,c<n+2→K.get c=H5.get c)∧Row K (n+2) best.cells∧Row K (n+3) S∧S=nats st.reverse++R∧S.length=32 ∧
   T 0=cellR tb 7 0∧T 2=.int .i64 least∧T 4=cellR n 6 0∧T 6=cellR (n+1) 4 0∧T 8=cellR (n+2) 4 0∧T 9=.int .i64 (cost:Int)∧T 10=cellR (n+3) 32 0∧T 11=.int .i64 (st.length:Int)) (2*wtS t.nods [0]-1)
  ⟨[0],noHit,0,1000,z32,List.replicate 31 (.int .i64 0),rfl,(fun i hi=>by simp at hi; omega),om,noHit_in _,by simp only[List.length_singleton]; omega,by simp only[List.length_singleton]; omega,rfl,om,fun c _=>rfl,r4.same (k5 _ om),r5,rfl,rfl,tt,tt,tt,tt,tt,tt,tt,tt⟩ ?_
 rintro q T K ⟨st,best,cost,k,S,R,rfl,hst,hwt,hin,hcost,hk,ew,kn,kg,rb,rs,eS,lS,t0,t2,t4,t6,t8,t9,t10,t11⟩
 cases st with
 | nil=>
  have c0:¬(0:Int)<(([]:List Nat).length:Int):=by simp
  obtain⟨k',rfl⟩:∃k',k=k'+1:=⟨k-1,om⟩
  have ew':walkF t r least 1000 [0] (noHit,0)=(best,cost):=by rw[ew]; rfl
  have lb:=row_loadN rb (n:=4) rfl
  obtain⟨K2,m6,r6,n6,k6⟩:=row_storeN (r2.same (H':=K) (by rw[kg _ om,k5 _ om,k4 _ om,k3 _ om])) (n:=4) rfl (xs:=best.cells) rfl rfl
  rw[e1]at m6 r6 k6
  have l6:=row_loadN r6 (n:=4) rfl
  simp only[sA,sB,seval,t11,c0,t8,t9,t6,lb,m6,fin_ct,OptP_some,l6]
  rw[ew']
  refine⟨tt,⟨om,fun c hc=>by rw[k6 c om,kg c om,old5 c om]⟩,hin,?_⟩
  show cost≤1000
  omega
 | cons i st=>
  have c0:(0:Int)<((i::st).length:Int):=by rw[List.length_cons]; omega
  obtain⟨x,hx⟩:=isSome_of_lt (hst i (List.mem_cons_self ..))
  have hil:i<t.nods.length:=hst i (List.mem_cons_self ..)
  obtain⟨⟨g1,g2,g3⟩,gj⟩:=ht.g i x hx
  have hw1:1≤x.to_-x.from_:=om
  have hst':∀i∈st,i<t.nods.length:=fun j hj=>hst j (List.mem_cons_of_mem _ hj)
  have hl1:=ht.len hst'
  rw[wtS_cons,wt_some hx]at hwt
  rw[wtS_cons,wt_some hx,List.length_cons]at hcost hk
  obtain⟨k',rfl⟩:∃k',k=k'+1:=⟨k-1,om⟩
  obtain⟨sTop,eS'⟩:=stk_top eS
  have w1:IntKind.i64.wrap (((i::st).length:Int)-1)=(st.length:Int):=by rw[List.length_cons,IntKind.wrap_i64]; omega
  have wc:IntKind.i64.wrap ((cost:Int)+1)=((cost+1:Nat):Int):=w64
  obtain⟨rtK,MK,SK,rrK,oK⟩:=kit kn kg
  obtain⟨_,b4,b5,_,bm⟩:=ldTr rtK
  have ai:=arr_idx (b:=n+3) (n:=32) (i:=st.length) om .i64
  have si:oLoad false 1 K (cellR (n+3) 32 st.length)=some (.int .i64 (i:Int)):=row_load rs lS sTop
  have ix:=SK.idx hil
  have nc:=SK.nilchk hil
  have f0:=SK.fld hil
  have lbx:=SK.loadJ hil (j:=6) om
  have ebx:((t.nods.flatMap Nod.cells).drop (i*10)).take 6=x.box.cells:=by
   have:=flat_at N_len hx
   have e:((t.nods.flatMap Nod.cells).drop (i*10)).take 6=(((t.nods.flatMap Nod.cells).drop (i*10)).take 10).take 6:=by rw[List.take_take]; rfl
   rw[e,this]; rfl
  rw[ebx]at lbx
  have lr6:=row_loadN rrK (n:=6) rfl
  simp only[sA,sB,seval,t11,c0,t0,nil_cell,fldA,fld0,b4,w1,t10,ai,si,ix,t9,wc,t4,lr6,nc,f0,lbx]
  refine (box_spec hr gj).mono ?_
  rintro _ K2 ⟨rfl,E2⟩
  have e2n:=E2.next
  have kn2:n+4≤K2.next:=om
  have kg2:∀c,c<n+2→K2.get c=H5.get c:=fun c hc=>by rw[E2.old c om,kg c hc]
  have rb2:Row K2 (n+2) best.cells:=rb.same (E2.old _ om)
  have rs2:Row K2 (n+3) S:=rs.same (E2.old _ om)
  obtain⟨q0,q1,q2⟩:=ldHt (x:=best) rb2
  obtain⟨rtK2,MK2,SK2,rrK2,oK2⟩:=kit kn2 kg2
  cases hb:boxF r x.box with
  | none=>
   simp only[sA,sB,seval,oI,ext_0,ext_1]
   exact⟨_,by rw[wtS_cons,wt_some hx,List.length_cons]; omega,st,best,cost+1,k',S,_,rfl,hst',om,hin,om,om,by rw[ew,walk_none hx hb],kn2,kg2,rb2,rs2,eS',lS,tt,tt,tt,tt,tt,tt,tt,tt⟩
  | some near=>
   by_cases hf:0≤best.i∧best.t<near
   ·simp only[sA,sB,seval,oI,ext_0,ext_1,t8,fldA,fld0,q1,hf.1,q0,hf.2]
    exact⟨_,by rw[wtS_cons,wt_some hx,List.length_cons]; omega,st,best,cost+1,k',S,_,rfl,hst',om,hin,om,om,by rw[ew,walk_far hx hb hf],kn2,kg2,rb2,rs2,eS',lS,tt,tt,tt,tt,tt,tt,tt,tt⟩
   have F9:=SK2.fldO hil 9
   have F8:=SK2.fldO hil 8
   have F6:=SK2.fldO hil 6
   have F7:=SK2.fldO hil 7
   have L9:=SK2.loadO N_len hx (o:=9) om (y:=.int .i64 x.second) rfl
   have L8:=SK2.loadO N_len hx (o:=8) om (y:=.int .i64 x.first) rfl
   have L6:=SK2.loadO N_len hx (o:=6) om (y:=.int .i64 x.from_) rfl
   have L7:=SK2.loadO N_len hx (o:=7) om (y:=.int .i64 x.to_) rfl
   have nc2:=SK2.nilchk hil
   have f1:x.first=-1∨0≤x.first:=by
    rcases g3 with h | ⟨a,b,_,_,h,_⟩
    ·exact .inl h
    ·exact .inr om
   by_cases hfk:0≤x.first
   ·obtain⟨a,b,y,z,ea,eb,ia,ib,ya,zb,ewt⟩:∃(a b:Nat) (y z:Nod),x.first=a∧x.second=b∧i<a∧i<b∧t.nods[a]?=some y∧t.nods[b]?=some z∧(y.to_-y.from_)+(z.to_-z.from_)=x.to_-x.from_:=by
     rcases g3 with h | h
     ·omega
     ·exact h
    obtain⟨v,R',hR⟩:∃v R',R=v::R':=by
     cases R with
     | nil=>
      rw[eS']at lS
      simp[nats]at lS; omega
     | cons v R'=>exact⟨v,R',rfl⟩
    rw[hR]at eS'
    obtain⟨K3,m7,r7,n7,k7⟩:=row_st rs2 lS (i:=st.length) om (x:=.int .i64 (b:Int)) rfl rfl
    obtain⟨K4,m8,r8,n8,k8⟩:=row_st r7 (n:=32) (by rw[List.length_set]; exact lS) (i:=st.length+1) om (x:=.int .i64 (a:Int)) rfl rfl
    rw[stk_push eS']at r8
    obtain⟨_,_,SK3,_,_⟩:=kit (K:=K3) om (fun c hc=>by rw[k7 c om,kg2 c hc])
    have L83:=SK3.loadO N_len hx (o:=8) om (y:=.int .i64 x.first) rfl
    have w3:IntKind.i64.wrap ((st.length:Int)+1)=((st.length+1:Nat):Int):=w64
    have w4:IntKind.i64.wrap ((st.length:Int)+2)=((a::b::st).length:Int):=by rw[List.length_cons,List.length_cons,IntKind.wrap_i64]; omega
    have ai1:=arr_idx (b:=n+3) (n:=32) (i:=st.length+1) om .i64
    rw[ea]at L8 L83
    rw[eb]at L9
    have hfa:(0:Int)≤(a:Int):=om
    have efk:walkF t r least (k'+1) (i::st) (best,cost)=walkF t r least k' (a::b::st) (best,cost+1):=by
     rw[walk_fork hx hb hf hfk,ea,eb]; rfl
    have hst2:∀j∈a::b::st,j<t.nods.length:=fun j hj=>by
     rcases List.mem_cons.1 hj with h | h
     ·rw[h]; exact (List.getElem?_eq_some_iff.1 ya).1
     rcases List.mem_cons.1 h with h | h
     ·rw[h]; exact (List.getElem?_eq_some_iff.1 zb).1
     ·exact hst' j h
    have ewt2:=loop_wt (st:=st) hx ya zb ewt
    have hl2:=ht.len hst2
    have ewc:wtS t.nods (i::st)=x.to_-x.from_+wtS t.nods st:=by rw[wtS_cons,wt_some hx]
    have lls:(a::b::st).length=st.length+2:=rfl
    have lls1:(i::st).length=st.length+1:=rfl
    obtain⟨u1,u2,u3⟩:=ms_fork (w:=x.to_-x.from_) (W:=wtS t.nods st) (l:=st.length) (k:=k') (c:=cost) hw1 (by rw[← ewc,← ewt2]; exact hl2) hcost hk
    have hwt2:wtS t.nods (a::b::st)≤12:=by rw[ewt2,ewc]; exact hwt
    have kn4:n+4≤K4.next:=om
    have kg4:∀c,c<n+2→K4.get c=H5.get c:=fun c hc=>by rw[k8 c om,k7 c om,kg2 c hc]
    have rb4:Row K4 (n+2) best.cells:=rb2.same (by rw[k8 _ om,k7 _ om])
    have lS4:(nats (a::b::st).reverse++R').length=32:=by rw[← stk_push eS',List.length_set,List.length_set,lS]
    by_cases h1:0≤best.i
    case' pos=>
     have h2:¬best.t<near:=fun h=>hf ⟨h1,h⟩
     simp only[sA,sB,seval,oI,ext_0,ext_1,t8,fldA,fld0,q1,h1,q0,h2,nc2,F8,L8,hfa]
    case' neg=>
     simp only[sA,sB,seval,oI,ext_0,ext_1,t8,fldA,fld0,q1,h1,nc2,F8,L8,hfa]
    all_goals
     refine aw_drawC rfl ?_
     simp only[sR,sA,sB,seval,t8,t10,t11,nc2,F9,F8,L9,L8,ai,w3,ai1,m7,m8]
     simp only[ck_nil',ck_cons,ckP_load,ckP_nil,ck_end,and_true,true_and,List.map_cons,List.map_nil,sA,sB,seval,t8,t10,t11,nc2,F9,F8,ai,w3,ai1]
     refine⟨?_,?_⟩
     ·and_intros <;> first | rfl | exact⟨_,rfl,fun _=>⟨_,by first | assumption | (simp only[sA,sB,seval,nc2,F8,F9]; assumption),aeq_int _ _⟩⟩
     simp only[sA,sB,seval,w4]
     exact⟨_,(by rw[lls,lls1,ewt2,ewc]; exact u1),a::b::st,best,cost+1,k',_,R',rfl,hst2,hwt2,hin,(by rw[ewt2,ewc,lls]; exact u2),(by rw[ewt2,ewc,lls]; exact u3),(by rw[ew,efk]),kn4,kg4,rb4,r8,rfl,lS4,tt,tt,tt,tt,tt,tt⟩
   obtain⟨bo,eO,ro2⟩:∃bo,vO=ordS bo t.order.length∧Row K2 bo (nats t.order):=by
    rcases oK2 with h | h
    ·exact absurd h hne
    ·exact h
   obtain⟨L,hL⟩:∃L,L=cutL t.order x.from_ x.to_:=⟨_,rfl⟩
   have lL:L.length=x.to_-x.from_:=by rw[hL]; exact cut_len g2
   have sl:=sl_sub (b:=bo) (n:=t.order.length) (lo:=x.from_) (hi:=x.to_) om g2
   obtain⟨_,b4',b5',_,bm'⟩:=ldTr rtK2
   rw[eO]at b5'
   have sl':aSl 1 (ordS bo t.order.length) (some (.int .i64 (x.from_:Int))) (some (.int .i64 (x.to_:Int))) none=some (.slice (some ⟨bo,t.order.length,x.from_⟩) (x.to_-x.from_) (.open_ 1)):=sl
   have ln2:aLenK false (.slice (some ⟨bo,t.order.length,x.from_⟩) (x.to_-x.from_) (.open_ 1))=some (.int .i64 (L.length:Int)):=by rw[lL]; rfl
   obtain⟨v1,v2,v3⟩:=ms_pop (w:=x.to_-x.from_) (W:=wtS t.nods st) (l:=st.length) (k:=k') (c:=cost) (d:=L.length) hw1 hl1 (by rw[lL]; exact Nat.le_refl _) hcost hk
   have elf:=walk_leaf (k:=k') (st:=st) (cost:=cost) (least:=least) hx hb hf hfk
   rw[← hL]at elf
   by_cases h1:0≤best.i
   case' pos=>
    have h2:¬best.t<near:=fun h=>hf ⟨h1,h⟩
    simp only[sA,sB,seval,oI,ext_0,ext_1,t8,t0,nil_cell,fldA,fld0,q1,h1,q0,h2,nc2,F8,L8,hfk,b5',F6,L6,F7,L7,sl',ln2]
   case' neg=>
    simp only[sA,sB,seval,oI,ext_0,ext_1,t8,t0,nil_cell,fldA,fld0,q1,h1,nc2,F8,L8,hfk,b5',F6,L6,F7,L7,sl',ln2]
   all_goals
    refine aw_loop (fun q (T:Env) K=>∃(j:Nat) (be:Hit) ,q=L.length-j∧j≤L.length∧leafF t.msh r least L (best,cost+1)=leafF t.msh r least (L.drop j) (be,cost+1+j)∧be.in t.msh.n∧n+4≤K.next∧(∀c,c<n+2→K.get c=H5.get c)∧Row K (n+2) be.cells∧Row K (n+3) S ∧
     T 0=cellR tb 7 0∧T 2=.int .i64 least∧T 4=cellR n 6 0∧T 6=cellR (n+1) 4 0∧T 8=cellR (n+2) 4 0∧T 9=.int .i64 ((cost+1+j:Nat):Int)∧T 10=cellR (n+3) 32 0∧T 11=.int .i64 (st.length:Int)∧T 106=.slice (some ⟨bo,t.order.length,x.from_⟩) (x.to_-x.from_) (.open_ 1)∧T 107=.int .i64 (L.length:Int)∧T 108=.int .i64 (j:Int)) L.length
     ⟨0,best,rfl,Nat.zero_le _,rfl,hin,kn2,kg2,rb2,rs2,by simp only[sA,sB,seval,t0,t2,t4,t6,t8,t10,t11,Nat.add_zero,and_true]⟩ ?_
    rintro q T K3 ⟨j,be,rfl,hj,el,bin,kn3,kg3,rb3,rs3,t0,t2,t4,t6,t8,t9,t10,t11,t106,t107,t108⟩
    by_cases hjl:j<L.length
    ·have hjl':(j:Int)<(L.length:Int):=om
     obtain⟨y,hy⟩:=isSome_of_lt hjl
     have hyo:t.order[x.from_+j]?=some y:=by rw[← cut_get (a:=x.from_) (b:=x.to_) om,← hL]; exact hy
     have hym:=ht.o y (List.mem_of_getElem? hyo)
     obtain⟨rtK3,MK3,_,rrK3,oK3⟩:=kit kn3 kg3
     obtain⟨_,_,_,_,bm3⟩:=ldTr rtK3
     have ro3:Row K3 bo (nats t.order):=by
      rcases oK3 with h | ⟨bo',h1,h2⟩
      ·exact absurd h hne
      ·rw[eO]at h1
       have:bo=bo':=by simpa[ordS] using h1
       rw[this]; exact h2
     have sx:=sub_idx (b:=bo) (n:=t.order.length) (lo:=x.from_) (r:=.open_ 1) (k:=x.to_-x.from_) (j:=j) om
     have ly:oLoad false 1 K3 (cellR bo t.order.length (x.from_+j))=some (.int .i64 (y:Int)):=row_load ro3 (nats_len _) (nats_get hyo)
     have lr3:=row_loadN rrK3 (n:=6) rfl
     have wj:IntKind.i64.wrap (((cost+1+j:Nat):Int)+1)=((cost+1+(j+1):Nat):Int):=w64
     have wk:=wrap1 j om
     have el2:leafF t.msh r least L (best,cost+1)=leafF t.msh r least (L.drop (j+1)) (match shapeF t.msh y r least with
  | some h=>bif better h be then h else be
  | none=>be,cost+1+(j+1)):=by rw[el,drop_cons hy,leaf_cons]; rfl
     simp only[sA,sB,seval,t106,t107,t108,hjl',sx,ly,t9,wj]
     refine aw_drawN ?_
     simp only[claims,newOf,reserves,resO_0,clOp_new]
     obtain⟨Hp,hHp⟩:∃K,K=K3.push (.cells (h4 0 0 0 0) 0 false):=⟨_,rfl⟩
     rw[← hHp]
     have np:Hp.next=K3.next+1:=by rw[hHp]; rfl
     have gp:Hp.get K3.next=some (.cells (h4 0 0 0 0) 0 false):=by rw[hHp,AHeap.get_push,if_pos rfl]
     have op:∀c,c<K3.next→Hp.get c=K3.get c:=fun c hc=>by rw[hHp]; exact get_push_lt hc
     have d1:aClaim Hp K3.next (h4 0 0 0 0) none=some (cellR K3.next 4 0):=claim_ok (z:=h4 0 0 0 0) gp rfl
     have bmp:oLoad true 3 Hp (cellR tb 7 1)=some (.agg (mshL vp vt vb)):=(ldTr (rtK3.same (op _ om))).2.2.2.2
     have lrp:oLoad true 6 Hp (cellR n 6 0)=some (.agg r.cells):=row_loadN (rrK3.same (op _ om)) (n:=6) rfl
     simp only[sR,sA,sB,seval,t0,t2,t4,nil_cell,fldA,bmp,lrp]
     refine (shape_spec ht.m hym hr (least:=least) (MK3.mono fun b hb=>⟨by have:b<K3.next:=hb; omega,op b hb⟩)).mono ?_
     rintro _ K4 ⟨rfl,E4⟩
     have e4n:=E4.next
     obtain⟨h,bb,eoS,hc⟩:=oS_cases (shapeF t.msh y r least)
     replace eoS:oS (shapeF t.msh y r least)=.tuple [.agg h.cells,.bool bb]:=eoS
     rw[eoS]
     have gp4:K4.get K3.next=some (.cells (h4 0 0 0 0) 0 false):=by rw[E4.old _ om]; exact gp
     have d4:aClaim K4 K3.next (h4 0 0 0 0) none=some (cellR K3.next 4 0):=claim_ok (z:=h4 0 0 0 0) gp4 rfl
     obtain⟨K5,m6,r6,n6,k6⟩:=row_storeN (H:=K4) (b:=K3.next) (l:=h4 0 0 0 0) ⟨0,gp4,Nat.zero_le _⟩ (n:=4) rfl (xs:=h.cells) rfl rfl
     simp only[sR,sA,sB,seval,ext_0,ext_1,tr_claim,d4,m6]
     simp only[ck_nil',ck_cons,ckP_load,ckP_claim,ckP_nil,ck_end,and_true,true_and,List.map_cons,List.map_nil]
     have old5':∀c,c<K3.next→K5.get c=K3.get c:=fun c hc=>by rw[k6 c om,E4.old c om,op c hc]
     have rb5:Row K5 (n+2) be.cells:=rb3.same (old5' _ om)
     have rs5:Row K5 (n+3) S:=rs3.same (old5' _ om)
     have kg5:∀c,c<n+2→K5.get c=H5.get c:=fun c hc=>by rw[old5' c om,kg3 c hc]
     have l6:=row_loadN r6 (n:=4) rfl
     have l8:=row_loadN rb5 (n:=4) rfl
     refine⟨⟨_,rfl,fun _=>⟨_,d1,aeq_cellR ..⟩⟩,?_⟩
     have hlt:L.length-(j+1)<L.length-j:=om
     rcases hc with⟨hs,rfl⟩ | ⟨hs,rfl,rfl⟩
     ·rw[hs]at el2
      simp only at el2
      have hin2:=shapeF_in hym om hs
      simp only[sA,sB,seval,l6,l8,t8]
      refine better_spec.mono ?_
      rintro _ K6 ⟨rfl,E6⟩
      have e6n:=E6.next
      have rb6:Row K6 (n+2) be.cells:=rb5.same (E6.old _ om)
      have rs6:Row K6 (n+3) S:=rs5.same (E6.old _ om)
      have kg6:∀c,c<n+2→K6.get c=H5.get c:=fun c hc=>by rw[E6.old c om,kg5 c hc]
      cases hbt:better h be with
      | true=>
       rw[hbt]at el2
       simp only[cond_true]at el2
       have l66:=row_loadN (r6.same (H':=K6) (E6.old _ om)) (n:=4) rfl
       obtain⟨K7,m7,r7,n7,k7⟩:=row_storeN rb6 (n:=4) rfl (xs:=h.cells) rfl rfl
       simp only[sA,sB,seval,l66,t8,m7,t108,wk]
       exact⟨_,hlt,j+1,h,rfl,om,el2,hin2,om,fun c hc=>by rw[k7 c om,kg6 c hc],r7,rs6.same (k7 _ om),by simp only[sA,sB,seval,t0,t2,t4,t6,t8,t10,t11,t106,t107,and_true]⟩
      | false=>
       rw[hbt]at el2
       simp only[cond_false]at el2
       simp only[sA,sB,seval,t108,wk]
       exact⟨_,hlt,j+1,be,rfl,om,el2,bin,om,kg6,rb6,rs6,by simp only[sA,sB,seval,t0,t2,t4,t6,t8,t10,t11,t106,t107,and_true]⟩
     ·rw[hs]at el2
      simp only at el2
      simp only[sA,sB,seval,t108,wk]
      exact⟨_,hlt,j+1,be,rfl,om,el2,bin,om,kg5,rb5,rs5,by simp only[sA,sB,seval,t0,t2,t4,t6,t8,t10,t11,t106,t107,and_true]⟩
    ·obtain rfl:j=L.length:=om
     have hjl':¬(L.length:Int)<(L.length:Int):=om
     rw[List.drop_length]at el
     simp only[sA,sB,seval,t107,t108,hjl']
     exact⟨_,(by rw[wtS_cons,wt_some hx,List.length_cons]; exact v1),st,be,cost+1+L.length,k',S,_,rfl,hst',om,bin,v2,v3,(by rw[ew,elf,el]; rfl),kn3,kg3,rb3,rs3,eS',lS,by simp only[sA,sB,seval,t0,t2,t4,t6,t8,t9,t10,t11,and_true]⟩
open Go.Abs Go.Abs.S
noncomputable section
def c3:AFn:=⟨187,zq [zo 3 (.box (.t 0)),zo 4 (.box (.t 1)),zo 6 (.mv (.c (.bool false)))] (zr [zt 29 24 3,zx 30 4 [.t 29]] 30 (zq [zx 31 5 [],zm 6 31] .ret) .skip (zq [zf 33 0 3,zt 34 21 33,zf 35 21 3,zl 36 35,zf 37 22 3,zl 38 37,zf 39 23 3,zl 40 39,zx 41 6 [.t 34,.t 36,.t 38,.t 40],zm 32 41,ze 42 0 32,ze 43 1 32,ze 44 2 32,zm 7 42,zm 8 43,zm 9 44] (zq [zf 46 0 3,zt 47 21 46,zf 48 21 3,zl 49 48,zf 50 22 3,zl 51 50,zf 52 23 3,zl 53 52,zx 54 6 [.t 47,.t 49,.t 51,.t 53],zm 45 54,ze 55 0 45,ze 56 1 45,ze 57 2 45,zm 10 55,zm 11 56,zm 12 57] (zr [zm 58 9,zk 59 .neq 58 0] 59 (zq [zx 60 5 [],zm 6 60] .ret) .skip (zq [zf 61 0 3,zf 62 0 61,zl 63 62,zf 64 0 3,zf 65 1 64,zl 66 65,zb 67 .mul 63 66,zm 13 67] (zq [zo 68 (.idxArr 2 1 (.t 4) (zi 0)),zl 69 68,zm 70 13,zb 71 .rem 69 70,zm 72 13,zb 73 .add 71 72,zm 74 13,zb 75 .rem 73 74,zo 76 (.idxArr 2 1 (.t 4) (zi 1)),zl 77 76,zm 78 13,zb 79 .rem 77 78,zm 80 13,zb 81 .add 79 80,zm 82 13,zb 83 .rem 81 82,zm 14 75,zm 15 83] (zq [zm 85 7,zm 86 14,zx 87 7 [.t 85,.t 86],zm 84 87,ze 88 0 84,ze 89 1 84,zm 16 88,zm 17 89] (zq [zm 91 7,zm 92 15,zx 93 7 [.t 91,.t 92],zm 90 93,ze 94 0 90,ze 95 1 90,zm 18 94,zm 19 95] (zq [zm 97 10,zm 98 14,zx 99 7 [.t 97,.t 98],zm 96 99,ze 100 0 96,ze 101 1 96,zm 20 100,zm 21 101] (zr [zm 102 17,zk 103 .neq 102 0,zm 104 103,zg 105 (.mv (.t 19)) 104 false,zg 106 (.bin .neq (.t 105) (zi 0)) 104 false,zo 107 (.pick (.t 104) (.c (.bool true)) (.t 106)),zm 108 107,zg 109 (.mv (.t 21)) 108 false,zg 110 (.bin .neq (.t 109) (zi 0)) 108 false,zo 111 (.pick (.t 108) (.c (.bool true)) (.t 110))] 111 (zq [zo 6 (.mv (.c (.bool false)))] .ret) .skip (zq [zf 112 0 3,zf 113 2 112,zl 114 113,zf 115 0 3,zf 116 3 115,zl 117 116,zk 118 .add 117 1,zb 119 .mul 114 118,zm 22 119] (zq [zo 23 (.mv (zi 0)),zo 24 (.mv (.c (.bool false)))] (.seq (zq [zo 25 (.mv (zi 0))] (.block 0 (.loop (zr [zm 120 24,zo 121 (.un .not (.t 120)),zm 122 121,zg 123 (.mv (.t 23)) 122 true,zg 124 (.mv (.t 22)) 122 true,zg 125 (.bin .leq (.t 123) (.t 124)) 122 true,zo 126 (.pick (.t 122) (.t 125) (.c (.bool false)))] 126 .skip (.exit 0) (.seq (.block 1 (zr [zm 129 25,zm 130 2,zh 131 130,zb 132 .lss 129 131,zm 133 132,zg 134 (.mv (.t 2)) 133 true,zg 135 (.mv (.t 25)) 133 true,zg 136 (.idxA 1 (.t 134) (.t 135)) 133 true,zg 137 (.load false 1 (.t 136)) 133 true,zo 138 (.pick (.t 133) (.t 137) (.c (.bool false)))] 138 (zq [zm 139 18,zx 140 8 [.t 139]] (.exit 1)) .skip (zq [zo 26 (.mv (zi 0))] (zq [zm 142 16,zx 143 8 [.t 142],zm 141 143,ze 144 0 141,ze 145 1 141,zm 26 144,zm 24 145] (zq [zm 147 20,zx 148 8 [.t 147],zm 146 148,ze 149 0 146,ze 150 1 146,zm 27 149,zm 28 150] (zq [zm 151 23,zk 152 .add 151 1,zm 23 152] (zq [zm 153 26,zk 154 .lss 153 1,zm 155 154,zg 156 (.mv (.t 27)) 155 false,zg 157 (.mv (.t 26)) 155 false,zg 158 (.bin .neq (.t 156) (.t 157)) 155 false,zo 159 (.pick (.t 155) (.c (.bool true)) (.t 158)),zm 160 159,zg 161 (.mv (.t 28)) 160 false,zg 162 (.mv (.t 24)) 160 false,zg 163 (.pf (.eqv true .bool) [.t 161,.t 162]) 160 false,zo 164 (.pick (.t 160) (.c (.bool true)) (.t 163))] (.cond (.t 164) (zq [zo 6 (.mv (.c (.bool false)))] .ret) .skip)))))))) (.reg [zm 127 25,zk 128 .add 127 1,zm 25 128])))))) (zq [zm 165 24,zm 166 165,zg 167 (.mv (.t 23)) 166 true,zg 168 (.mv (.t 22)) 166 true,zg 169 (.bin .leq (.t 167) (.t 168)) 166 true,zo 170 (.pick (.t 166) (.t 169) (.c (.bool false))),zm 171 170,zg 172 (.mv (.t 16)) 171 true,zg 173 (.call 9 [.t 172]) 171 true,zg 174 (.mv (.t 20)) 171 true,zg 175 (.call 9 [.t 174]) 171 true,zg 176 (.pf (.eqS false [(0,.int),(1,.int),(2,.int),(3,.int)]) [.t 173,.t 175]) 171 true,zo 177 (.pick (.t 171) (.t 176) (.c (.bool false))),zm 178 177,zg 179 (.mv (.t 16)) 178 true,zg 180 (.call 9 [.t 179]) 178 true,zg 181 (.idx 4 1 false (.t 180) (zi 3)) 178 true,zg 182 (.bin .eql (.t 181) (zu 255)) 178 true,zo 183 (.pick (.t 178) (.t 182) (.c (.bool false))),zm 184 183,zg 185 (.call 5 []) 184 true,zo 186 (.pick (.t 184) (.t 185) (.c (.bool false))),zm 6 186] .ret)))))))))))))),[.t 6]⟩
theorem za3:cN Tryz.prog 3=some c3:=by kernel_rfl
def c4:AFn:=⟨128,zq [zo 1 (.box (.t 0)),zo 2 (.mv (.c (.bool false)))] (zq [zf 7 0 1,zf 8 19 7,zl 9 8,zh 10 9,zm 3 10] (.seq (zq [zo 4 (.mv (zi 0))] (.block 0 (.loop (zr [zm 11 4,zf 12 21 1,zl 13 12,zh 14 13,zb 15 .lss 11 14] 15 .skip (.exit 0) (.seq (.block 1 (.reg [zm 18 3,zf 19 21 1,zl 20 19,zm 21 4,zo 22 (.idxA 3 (.t 20) (.t 21)),zf 23 1 22,zl 24 23,zh 25 24,zf 26 21 1,zl 27 26,zm 28 4,zo 29 (.idxA 3 (.t 27) (.t 28)),zf 30 2 29,zl 31 30,zh 32 31,zb 33 .add 25 32,zf 34 21 1,zl 35 34,zm 36 4,zo 37 (.idxA 3 (.t 35) (.t 36)),zf 38 0 37,zl 39 38,zh 40 39,zk 41 .quo 40 8,zb 42 .add 33 41,zb 43 .add 18 42,zm 3 43])) (.reg [zm 16 4,zk 17 .add 16 1,zm 4 17])))))) (.seq (zq [zo 5 (.mv (zi 0))] (.block 2 (.loop (zr [zm 44 5,zf 45 22 1,zl 46 45,zh 47 46,zb 48 .lss 44 47] 48 .skip (.exit 2) (.seq (.block 3 (zq [zf 51 22 1,zl 52 51,zm 53 5,zo 54 (.idxA 3 (.t 52) (.t 53)),zf 55 2 54,zl 56 55,zh 57 56,zf 58 22 1,zl 59 58,zm 60 5,zo 61 (.idxA 3 (.t 59) (.t 60)),zf 62 0 61,zl 63 62,zh 64 63,zb 65 .add 57 64,zk 66 .gtr 65 200] (.cond (.t 66) (zq [zo 2 (.mv (.c (.bool true)))] .ret) .skip))) (.reg [zm 49 5,zk 50 .add 49 1,zm 5 50])))))) (.seq (zq [zo 6 (.mv (zi 0))] (.block 4 (.loop (zr [zm 67 6,zf 68 23 1,zl 69 68,zh 70 69,zb 71 .lss 67 70] 71 .skip (.exit 4) (.seq (.block 5 (zq [zf 74 23 1,zl 75 74,zm 76 6,zo 77 (.idxA 3 (.t 75) (.t 76)),zf 78 2 77,zl 79 78,zh 80 79,zk 81 .gtr 80 4000] (.cond (.t 81) (zq [zo 2 (.mv (.c (.bool true)))] .ret) .skip))) (.reg [zm 72 6,zk 73 .add 72 1,zm 6 73])))))) (zq [zm 82 3,zk 83 .gtr 82 8,zm 84 83,zg 85 (.fieldA 21 (.t 1)) 84 false,zg 86 (.load false 1 (.t 85)) 84 false,zg 87 (.len false (.t 86)) 84 false,zg 88 (.bin .gtr (.t 87) (zi 4)) 84 false,zo 89 (.pick (.t 84) (.c (.bool true)) (.t 88)),zm 90 89,zg 91 (.fieldA 0 (.t 1)) 90 false,zg 92 (.fieldA 18 (.t 91)) 90 false,zg 93 (.load false 1 (.t 92)) 90 false,zg 94 (.len false (.t 93)) 90 false,zg 95 (.bin .gtr (.t 94) (zi 8)) 90 false,zo 96 (.pick (.t 90) (.c (.bool true)) (.t 95)),zm 97 96,zg 98 (.fieldA 0 (.t 1)) 97 false,zg 99 (.fieldA 20 (.t 98)) 97 false,zg 100 (.load false 1 (.t 99)) 97 false,zg 101 (.len false (.t 100)) 97 false,zg 102 (.bin .gtr (.t 101) (zi 4)) 97 false,zo 103 (.pick (.t 97) (.c (.bool true)) (.t 102)),zm 104 103,zg 105 (.fieldA 0 (.t 1)) 104 false,zg 106 (.fieldA 2 (.t 105)) 104 false,zg 107 (.load false 1 (.t 106)) 104 false,zg 108 (.bin .gtr (.t 107) (zi 4)) 104 false,zo 109 (.pick (.t 104) (.c (.bool true)) (.t 108)),zm 110 109,zg 111 (.fieldA 0 (.t 1)) 110 false,zg 112 (.fieldA 3 (.t 111)) 110 false,zg 113 (.load false 1 (.t 112)) 110 false,zg 114 (.bin .gtr (.t 113) (zi 5)) 110 false,zo 115 (.pick (.t 110) (.c (.bool true)) (.t 114)),zm 116 115,zg 117 (.fieldA 22 (.t 1)) 116 false,zg 118 (.load false 1 (.t 117)) 116 false,zg 119 (.len false (.t 118)) 116 false,zg 120 (.bin .gtr (.t 119) (zi 8)) 116 false,zo 121 (.pick (.t 116) (.c (.bool true)) (.t 120)),zm 122 121,zg 123 (.fieldA 23 (.t 1)) 122 false,zg 124 (.load false 1 (.t 123)) 122 false,zg 125 (.len false (.t 124)) 122 false,zg 126 (.bin .gtr (.t 125) (zi 8)) 122 false,zo 127 (.pick (.t 122) (.c (.bool true)) (.t 126)),zm 2 127] .ret))))),[.t 2]⟩
theorem za4:cN Tryz.prog 4=some c4:=by kernel_rfl
def c5:AFn:=⟨92,zq [zo 0 (.mv (.c (.bool false)))] (zq [zx 16 10 [],zo 1 (.new [zI 0,zI 0,zI 0,zI 0,.int .u64 (.ofNat 0),zI 0,zI 0,zI 0,zI 0,zI 0,zI 0,zI 0,zI 0,zI 0,zI 0,zI 0,zI 0,zI 0,zN,zN,zN]),zp (.store 21 (.t 1) (.t 16))] (zq [zt 18 21 1,zx 19 6 [.t 18,zn,zn,zn],zm 17 19,ze 20 0 17,ze 21 1 17,ze 22 2 17,zm 2 20,zm 3 21,zm 4 22] (zq [zm 24 2,zx 25 7 [.t 24,zi 0],zm 23 25,ze 26 0 23,ze 27 1 23,zm 5 26,zm 6 27] (zr [zm 28 4,zk 29 .neq 28 0,zm 30 29,zg 31 (.mv (.t 6)) 30 false,zg 32 (.bin .neq (.t 31) (zi 0)) 30 false,zo 33 (.pick (.t 30) (.c (.bool true)) (.t 32))] 33 (zq [zo 0 (.mv (.c (.bool false)))] .ret) .skip (zq [zm 35 5,zx 36 8 [.t 35],zm 34 36,ze 37 0 34,ze 38 1 34,zm 7 37,zm 8 38] (zq [zf 39 14 1,zp (.store 1 (.t 39) (zi 536870912))] (zq [zo 40 (.build [zI 0,zI 0,zI 0] [(0,1,zi 4294967296)]),zo 41 (.build [zU 0,zI 0,zI 0,zI 0,.str [],.str []] [(0,1,zu 3),(1,3,.t 40)]),zo 42 (.buildSl 1 [zU 0,zI 0,zI 0,zI 0,.str [],.str []] [(0,6,.t 41)]),zf 43 18 1,zs 43 42] (zq [zo 44 (.build [zI 0,zI 0,zI 0,zI 0] [(3,1,zi 4294967296)]),zo 45 (.build [zI 0,zI 0,zI 0,zI 0,zI 0] [(0,4,.t 44)]),zo 46 (.buildSl 1 [zI 0,zI 0,zI 0,zI 0,zI 0] [(0,5,.t 45)]),zf 47 19 1,zs 47 46] (.seq (.draw [zt 49 21 1,zo 50 (.mkSlice 56 [zN,zI 0,zN] (zi 1) (zi 1)),zo 51 (.mkSlice 40 [zI 0,zI 0,zN] (zi 1) (zi 1)),zx 52 6 [.t 49,zn,.t 50,.t 51],zm 48 52,ze 53 0 48,ze 54 1 48,ze 55 2 48,zm 9 53,zm 10 54,zm 11 55] [[],[],[],[],[],[],[],[],[],[],[]]) (zq [zm 57 9,zx 58 7 [.t 57,zi 0],zm 56 58,ze 59 0 56,ze 60 1 56,zm 12 59,zm 13 60] (zr [zm 61 11,zk 62 .neq 61 0,zm 63 62,zg 64 (.mv (.t 13)) 63 false,zg 65 (.bin .neq (.t 64) (zi 0)) 63 false,zo 66 (.pick (.t 63) (.c (.bool true)) (.t 65))] 66 (zq [zo 0 (.mv (.c (.bool false)))] .ret) .skip (zq [zm 68 12,zx 69 8 [.t 68],zm 67 69,ze 70 0 67,ze 71 1 67,zm 14 70,zm 15 71] (zq [zm 72 7,zk 73 .eql 72 1,zm 74 73,zg 75 (.mv (.t 8)) 74 true,zo 76 (.pick (.t 74) (.t 75) (.c (.bool false))),zm 77 76,zg 78 (.mv (.t 5)) 77 true,zg 79 (.call 9 [.t 78]) 77 true,zg 80 (.build [zU 0,zU 0,zU 0,zU 0] [(0,1,zu 255),(1,1,zu 255),(2,1,zu 255),(3,1,zu 255)]) 77 true,zg 81 (.pf (.eqS false [(0,.int),(1,.int),(2,.int),(3,.int)]) [.t 79,.t 80]) 77 true,zo 82 (.pick (.t 77) (.t 81) (.c (.bool false))),zm 83 82,zg 84 (.mv (.t 15)) 83 true,zo 85 (.pick (.t 83) (.t 84) (.c (.bool false))),zm 86 85,zg 87 (.mv (.t 12)) 86 true,zg 88 (.call 9 [.t 87]) 86 true,zg 89 (.build [zU 0,zU 0,zU 0,zU 0] [(0,1,zu 255),(1,1,zu 0),(2,1,zu 0),(3,1,zu 255)]) 86 true,zg 90 (.pf (.eqS false [(0,.int),(1,.int),(2,.int),(3,.int)]) [.t 88,.t 89]) 86 true,zo 91 (.pick (.t 86) (.t 90) (.c (.bool false))),zm 0 91] .ret))))))))))))),[.t 0]⟩
theorem za5:cN Tryz.prog 5=some c5:=by kernel_rfl
def c10:AFn:=⟨5,zq [zo 0 (.new [zI 0,zI 0,zI 0,zI 0,.int .u64 (.ofNat 0),zI 0,zI 0,zI 0,zI 0,zI 0,zI 0,zI 0,zI 0,zI 0,zI 0,zI 0,zI 0,zI 0,zN,zN,zN])] (zq [zo 1 (.build [zI 0,zI 0,zI 0] [(2,1,.c (.int .i64 (.negSucc 17179869183)))]),zo 2 (.build [zI 0,zI 0,zI 0] [(1,1,zi 4294967296)]),zo 3 (.build [zI 0,zI 0,zI 0] [(0,1,zi 4294967296),(1,1,zi 4294967296),(2,1,zi 4294967296)]),zo 4 (.build [zI 0,zI 0,zI 0,zI 0,.int .u64 (.ofNat 0),zI 0,zI 0,zI 0,zI 0,zI 0,zI 0,zI 0,zI 0,zI 0,zI 0,zI 0,zI 0,zI 0,zN,zN,zN] [(0,1,zi 1),(1,1,zi 1),(2,1,zi 1),(3,1,zi 2),(5,3,.t 1),(11,3,.t 2),(14,1,zi 4294967296),(15,3,.t 3)]),zp (.store 21 (.t 0) (.t 4))] .ret),[.cell true 21 0]⟩
theorem za10:cN Tryz.prog 10=some c10:=by kernel_rfl
def c6:AFn:=⟨159,zq [zo 4 (.box (.t 0)),zo 8 (.mv (.c (.ptr none))),zo 9 (.mv (zi 0)),zo 10 (.mv (zi 0))] (.seq (zq [zt 27 21 4,zm 28 1,zm 29 2,zm 30 3,zx 31 11 [.t 27,.t 28,.t 29,.t 30],zm 11 31] (zq [zm 32 11,zk 33 .neq 32 0] (.cond (.t 33) (zq [zm 34 11,zo 8 (.mv (.c (.ptr none))),zo 9 (.mv (zi 0)),zm 10 34] .ret) .skip))) (zq [zt 35 21 4,zx 36 12 [.t 35],zo 37 (.build [.ptr none,zI 0,zI 0,zI 0,zI 0,.int .u64 (.ofNat 0),zI 0,zI 0,zI 0,zI 0,zI 0,zI 0,zI 0,zI 0,zI 0,zI 0,zI 0,zI 0,zI 0,zN,zN,zN,zN,zN,zN] [(1,21,.t 36)]),zo 38 (.box (.t 37)),zm 12 38] (zq [zm 39 12,zm 40 12,zc 41 39,zf 42 0 41,zs 42 40] (zq [zo 13 (.mv (zi 0))] (.seq (zq [zm 43 1,zh 44 43,zo 45 (.mv (zi 0))] (.block 0 (.loop (zq [zb 46 .lss 45 44] (.seq (.cond (.t 46) .skip (.exit 0)) (.seq (.block 1 (zq [zm 47 45,zo 48 (.idxA 3 (.t 43) (.t 45)),zt 49 3 48,zo 15 (.new [zN,zN,zN]),zm 14 47,zp (.store 3 (.t 15) (.t 49))] (zq [zm 50 12,zc 51 50,zf 52 1 51,zf 53 20 52,zl 54 53,zm 55 14,zo 56 (.idxA 5 (.t 54) (.t 55)),zt 57 5 56,zo 16 (.new [.str [],zI 0,zI 0,zI 0,zI 0]),zp (.store 5 (.t 16) (.t 57))] (zq [zm 59 12,zt 60 3 15,zf 61 1 16,zt 62 3 61,zo 63 (.mkFunc (.func 14) [] [.t 16]),zx 64 13 [.t 59,.t 60,.t 62,.t 63],zm 58 64,ze 65 0 58,ze 66 1 58,zm 17 65,zm 18 66] (zr [zm 67 18,zk 68 .neq 67 0] 68 (zq [zm 69 18,zo 8 (.mv (.c (.ptr none))),zo 9 (.mv (zi 0)),zm 10 69] .ret) .skip (.reg [zm 70 13,zm 71 17,zb 72 .add 70 71,zm 13 72])))))) (.reg [zk 73 .add 45 1,zm 45 73]))))))) (zr [zf 74 19 4,zl 75 74,zh 76 75,zk 77 .gtr 76 0] 77 (zq [zm 78 12,zc 79 78,zf 80 1 79,zf 81 19 80,zl 82 81,zo 19 (.new [zN]),zs 19 82] (zq [zo 83 (.build [zN,zN,zN] []),zo 20 (.new [zN,zN,zN]),zp (.store 3 (.t 20) (.t 83))] (.seq (zq [zl 84 19,zh 85 84,zo 86 (.mv (zi 0))] (.block 2 (.loop (zq [zb 87 .lss 86 85] (.seq (.cond (.t 87) .skip (.exit 2)) (.seq (.block 3 (zq [zo 88 (.idxA 5 (.t 84) (.t 86)),zt 89 5 88,zo 22 (.new [zI 0,zI 0,zI 0,zI 0,zI 0]),zp (.store 5 (.t 22) (.t 89))] (.reg [zf 90 2 20,zl 91 90,zf 92 0 22,zt 93 4 92,zo 94 (.buildSl 1 [zI 0,zI 0,zI 0,zI 0] [(0,4,.t 93)]),zo 95 (.append 4 32 (.t 91) (.t 94)),zf 96 2 20,zs 96 95]))) (.reg [zk 97 .add 86 1,zm 86 97]))))))) (zq [zm 99 12,zt 100 3 20,zo 101 (.build [zI 0,zI 0,zI 0] []),zo 102 (.mkFunc (.func 15) [] [.t 19]),zx 103 13 [.t 99,.t 100,.t 101,.t 102],zm 98 103,ze 104 0 98,ze 105 1 98,zm 23 104,zm 24 105] (zq [zm 106 24,zk 107 .neq 106 0] (.cond (.t 107) (zq [zm 108 24,zo 8 (.mv (.c (.ptr none))),zo 9 (.mv (zi 0)),zm 10 108] .ret) .skip)))))) .skip (zq [zm 109 12,zf 110 18 4,zl 111 110,zh 112 111,zo 113 (.mkSlice 56 [zN,zI 0,zN] (.t 112) (.t 112)),zc 114 109,zf 115 23 114,zs 115 113] (zq [zm 116 12,zf 117 18 4,zl 118 117,zh 119 118,zo 120 (.mkSlice 40 [zI 0,zI 0,zN] (.t 119) (.t 119)),zc 121 116,zf 122 24 121,zs 122 120] (.seq (zq [zf 123 18 4,zl 124 123,zh 125 124,zo 126 (.mv (zi 0))] (.block 4 (.loop (zq [zb 127 .lss 126 125] (.seq (.cond (.t 127) .skip (.exit 4)) (.seq (.block 5 (zq [zm 128 126,zo 129 (.idxA 6 (.t 124) (.t 126)),zt 130 6 129,zo 26 (.new [zU 0,zI 0,zI 0,zI 0,.str [],.str []]),zm 25 128,zp (.store 6 (.t 26) (.t 130))] (zq [zf 131 0 26,zl 132 131,zo 133 (.bin .eql (.t 132) (zu 4))] (.cond (.t 133) (.seq (.draw [zm 134 12,zc 135 134,zf 136 23 135,zl 137 136,zm 138 25,zm 139 2,zm 140 25,zo 141 (.idxA 3 (.t 139) (.t 140)),zt 142 3 141,zx 143 16 [.t 142],zo 144 (.idxA 3 (.t 137) (.t 138)),zp (.store 3 (.t 144) (.t 143))] [[],[],[],[11],[],[],[],[],[],[],[],[]]) (.draw [zm 145 12,zc 146 145,zf 147 24 146,zl 148 147,zm 149 25,zm 150 3,zm 151 25,zo 152 (.idxA 3 (.t 150) (.t 151)),zt 153 3 152,zx 154 17 [.t 153],zo 155 (.idxA 3 (.t 148) (.t 149)),zp (.store 3 (.t 155) (.t 154))] [[],[],[],[11],[],[],[],[],[],[],[],[]])) .skip)))) (.reg [zk 156 .add 126 1,zm 126 156]))))))) (zq [zm 157 12,zm 158 13,zm 8 157,zm 9 158,zo 10 (.mv (zi 0))] .ret)))))))))),[.t 8,.t 9,.t 10]⟩
theorem za6:cN Tryz.prog 6=some c6:=by kernel_rfl
def c11:AFn:=⟨75,zq [zo 4 (.box (.t 0)),zo 8 (.mv (zi 0))] (.seq (zq [zt 16 21 4,zx 17 33 [.t 16],zm 9 17] (zq [zm 18 9,zk 19 .neq 18 0] (.cond (.t 19) (zq [zm 20 9,zm 8 20] .ret) .skip))) (zr [zm 21 1,zh 22 21,zf 23 20 4,zl 24 23,zh 25 24,zb 26 .neq 22 25,zm 27 26,zg 28 (.mv (.t 2)) 27 false,zg 29 (.len false (.t 28)) 27 false,zg 30 (.fieldA 18 (.t 4)) 27 false,zg 31 (.load false 1 (.t 30)) 27 false,zg 32 (.len false (.t 31)) 27 false,zg 33 (.bin .neq (.t 29) (.t 32)) 27 false,zo 34 (.pick (.t 27) (.c (.bool true)) (.t 33)),zm 35 34,zg 36 (.mv (.t 3)) 35 false,zg 37 (.len false (.t 36)) 35 false,zg 38 (.fieldA 18 (.t 4)) 35 false,zg 39 (.load false 1 (.t 38)) 35 false,zg 40 (.len false (.t 39)) 35 false,zg 41 (.bin .neq (.t 37) (.t 40)) 35 false,zo 42 (.pick (.t 35) (.c (.bool true)) (.t 41))] 42 (zq [zo 8 (.mv (zi 2))] .ret) .skip (.seq (zq [zm 43 1,zh 44 43,zo 45 (.mv (zi 0))] (.block 0 (.loop (zq [zb 46 .lss 45 44] (.seq (.cond (.t 46) .skip (.exit 0)) (.seq (.block 1 (zq [zo 47 (.idxA 3 (.t 43) (.t 45)),zt 48 3 47,zo 11 (.new [zN,zN,zN]),zp (.store 3 (.t 11) (.t 48))] (zq [zt 49 3 11,zx 50 34 [.t 49],zm 12 50] (zq [zm 51 12,zk 52 .neq 51 0] (.cond (.t 52) (zq [zm 53 12,zm 8 53] .ret) .skip))))) (.reg [zk 54 .add 45 1,zm 45 54]))))))) (.seq (zq [zf 55 18 4,zl 56 55,zh 57 56,zo 58 (.mv (zi 0))] (.block 2 (.loop (zq [zb 59 .lss 58 57] (.seq (.cond (.t 59) .skip (.exit 2)) (.seq (.block 3 (zq [zm 60 58,zo 61 (.idxA 6 (.t 56) (.t 58)),zt 62 6 61,zo 14 (.new [zU 0,zI 0,zI 0,zI 0,.str [],.str []]),zm 13 60,zp (.store 6 (.t 14) (.t 62))] (zr [zf 63 0 14,zl 64 63,zo 65 (.bin .neq (.t 64) (zu 4))] 65 (.exit 3) .skip (zq [zm 66 2,zm 67 13,zo 68 (.idxA 3 (.t 66) (.t 67)),zt 69 3 68,zx 70 35 [.t 69],zm 15 70] (zq [zm 71 15,zk 72 .neq 71 0] (.cond (.t 72) (zq [zm 73 15,zm 8 73] .ret) .skip)))))) (.reg [zk 74 .add 58 1,zm 58 74]))))))) (zq [zo 8 (.mv (zi 0))] .ret))))),[.t 8]⟩
theorem za11:cN Tryz.prog 11=some c11:=by kernel_rfl
def c12:AFn:=⟨16,zq [zo 1 (.box (.t 0)),zo 2 (.new [zI 0,zI 0,zI 0,zI 0,.int .u64 (.ofNat 0),zI 0,zI 0,zI 0,zI 0,zI 0,zI 0,zI 0,zI 0,zI 0,zI 0,zI 0,zI 0,zI 0,zN,zN,zN])] (zq [zf 3 18 1,zl 4 3,zx 5 36 [.t 4],zf 6 18 1,zs 6 5] (zq [zf 7 19 1,zl 8 7,zx 9 37 [.t 8],zf 10 19 1,zs 10 9] (zq [zf 11 20 1,zl 12 11,zx 13 38 [.t 12],zf 14 20 1,zs 14 13] (zq [zt 15 21 1,zp (.store 21 (.t 2) (.t 15))] .ret)))),[.cell true 21 2]⟩
theorem za12:cN Tryz.prog 12=some c12:=by kernel_rfl
def c14:AFn:=⟨6,zq [zo 3 (.mv (zi 0))] (zq [zf 4 4 1,zl 5 4,zm 3 5] .ret),[.t 3]⟩
theorem za14:cN Tryz.prog 14=some c14:=by kernel_rfl
def c13:AFn:=⟨47,zq [zo 5 (.box (.t 1)),zo 6 (.box (.t 2)),zo 8 (.mv (zi 0)),zo 9 (.mv (zi 0))] (.seq (.draw [zf 13 0 5,zl 14 13,zx 15 39 [.t 14],zf 16 1 5,zl 17 16,zx 18 40 [.t 17],zf 19 2 5,zl 20 19,zx 21 41 [.t 20],zo 22 (.build [zN,zN,zN] [(0,1,.t 15),(1,1,.t 18),(2,1,.t 21)]),zp (.store 3 (.t 5) (.t 22))] [[],[],[],[],[2],[],[],[2,5],[],[],[]]) (zq [zt 24 3 5,zx 25 42 [.t 24,zi 1048576],zm 23 25,ze 26 0 23,ze 27 1 23,ze 28 2 23,zm 10 26,zm 11 27,zm 12 28] (zr [zm 29 12,zk 30 .neq 29 0] 30 (zq [zm 31 12,zo 8 (.mv (zi 0)),zm 9 31] .ret) .skip (.seq (.draw [zm 32 0,zm 33 0,zc 34 33,zf 35 22 34,zl 36 35,zt 37 3 5,zm 38 10,zt 39 3 6,zm 40 3,zo 41 (.build [zN,zN,zN,.ptr none,zI 0,zI 0,zI 0,.nilFunc] [(0,3,.t 37),(3,1,.t 38),(4,3,.t 39),(7,1,.t 40)]),zo 42 (.buildSl 1 [zN,zN,zN,.ptr none,zI 0,zI 0,zI 0,.nilFunc] [(0,8,.t 41)]),zo 43 (.append 8 112 (.t 36) (.t 42)),zc 44 32,zf 45 22 44,zs 45 43] [[],[],[],[],[11],[],[],[],[],[],[],[],[],[],[]]) (zq [zm 46 11,zm 8 46,zo 9 (.mv (zi 0))] .ret))))),[.t 8,.t 9]⟩
theorem za13:cN Tryz.prog 13=some c13:=by kernel_rfl
def c15:AFn:=⟨9,zq [zo 3 (.mv (zi 0))] (zq [zl 4 1,zm 5 0,zo 6 (.idxA 5 (.t 4) (.t 5)),zf 7 4 6,zl 8 7,zm 3 8] .ret),[.t 3]⟩
theorem za15:cN Tryz.prog 15=some c15:=by kernel_rfl
def c16:AFn:=⟨12,zq [zo 1 (.box (.t 0)),zo 2 (.new [zN,zI 0,zN])] (.seq (.draw [zf 3 0 1,zl 4 3,zx 5 43 [.t 4],zf 6 1 1,zl 7 6,zf 8 2 1,zl 9 8,zx 10 44 [.t 9],zo 11 (.build [zN,zI 0,zN] [(0,1,.t 5),(1,1,.t 7),(2,1,.t 10)]),zp (.store 3 (.t 2) (.t 11))] [[],[],[],[],[2,9],[],[2],[],[],[]]) .ret),[.cell true 3 2]⟩
theorem za16:cN Tryz.prog 16=some c16:=by kernel_rfl
def c17:AFn:=⟨11,zq [zo 1 (.box (.t 0)),zo 2 (.new [zI 0,zI 0,zN])] (.seq (.draw [zf 3 0 1,zl 4 3,zf 5 1 1,zl 6 5,zf 7 2 1,zl 8 7,zx 9 45 [.t 8],zo 10 (.build [zI 0,zI 0,zN] [(0,1,.t 4),(1,1,.t 6),(2,1,.t 9)]),zp (.store 3 (.t 2) (.t 10))] [[],[8],[],[8],[],[],[],[],[]]) .ret),[.cell true 3 2]⟩
theorem za17:cN Tryz.prog 17=some c17:=by kernel_rfl
def c7:AFn:=⟨38,zq [zo 4 (.mv (.c (.ptr none))),zo 5 (.mv (zi 0))] (zr [zm 7 0,zx 8 18 [.t 7],zo 9 (.un .not (.t 8))] 9 (zq [zo 4 (.mv (.c (.ptr none))),zo 5 (.mv (zi 1))] .ret) .skip (zr [zm 10 1,zk 11 .lss 10 0,zm 12 11,zg 13 (.mv (.t 1)) 12 false,zg 14 (.mv (.t 0)) 12 false,zg 15 (.nilChk (.t 14)) 12 false,zg 16 (.fieldA 1 (.t 15)) 12 false,zg 17 (.fieldA 0 (.t 16)) 12 false,zg 18 (.load false 1 (.t 17)) 12 false,zg 19 (.mv (.t 0)) 12 false,zg 20 (.nilChk (.t 19)) 12 false,zg 21 (.fieldA 1 (.t 20)) 12 false,zg 22 (.fieldA 1 (.t 21)) 12 false,zg 23 (.load false 1 (.t 22)) 12 false,zg 24 (.bin .mul (.t 18) (.t 23)) 12 false,zg 25 (.bin .geq (.t 13) (.t 24)) 12 false,zo 26 (.pick (.t 12) (.c (.bool true)) (.t 25))] 26 (zq [zo 4 (.mv (.c (.ptr none))),zo 5 (.mv (zi 2))] .ret) .skip (zq [zm 27 0,zm 28 1,zo 29 (.build [.ptr none,.ptr none,zI 0,zI 0,zI 0,zI 0,zI 0,zI 0,zI 0,zI 0,zI 0,zI 0,zI 0,zI 0,zI 0,zI 0,zI 0,.bool false,zI 0,zI 0] [(1,1,.t 27),(2,1,.t 28)]),zo 30 (.box (.t 29)),zm 6 30] (zq [zm 31 6,zm 32 6,zc 33 31,zf 34 0 33,zs 34 32] (zq [zm 35 6,zx 36 19 [.t 35]] (zq [zm 37 6,zm 4 37,zo 5 (.mv (zi 0))] .ret)))))),[.t 4,.t 5]⟩
theorem za7:cN Tryz.prog 7=some c7:=by kernel_rfl
def c18:AFn:=⟨13,zq [zo 2 (.mv (.c (.bool false)))] (zq [zm 3 0,zo 4 (.pf (.eqv true .ptr) [.t 3,.c (.ptr none)]),zm 5 4,zg 6 (.mv (.t 0)) 5 true,zg 7 (.nilChk (.t 6)) 5 true,zg 8 (.fieldA 0 (.t 7)) 5 true,zg 9 (.load false 1 (.t 8)) 5 true,zg 10 (.mv (.t 0)) 5 true,zg 11 (.pf (.eqv false .ptr) [.t 9,.t 10]) 5 true,zo 12 (.pick (.t 5) (.t 11) (.c (.bool false))),zm 2 12] .ret),[.t 2]⟩
theorem za18:cN Tryz.prog 18=some c18:=by kernel_rfl
def c19:AFn:=⟨40,zq [zm 3 0,zc 4 3,zf 5 1 4,zl 6 5,zc 7 6,zf 8 1 7,zt 9 21 8,zo 2 (.new [zI 0,zI 0,zI 0,zI 0,.int .u64 (.ofNat 0),zI 0,zI 0,zI 0,zI 0,zI 0,zI 0,zI 0,zI 0,zI 0,zI 0,zI 0,zI 0,zI 0,zN,zN,zN]),zp (.store 21 (.t 2) (.t 9))] (zq [zm 10 0,zc 11 10,zf 12 4 11,zp (.store 1 (.t 12) (zi 0))] (zq [zm 13 0,zo 14 (.build [zI 0,zI 0,zI 0] [(0,1,zi 4294967296),(1,1,zi 4294967296),(2,1,zi 4294967296)]),zc 15 13,zf 16 11 15,zp (.store 3 (.t 16) (.t 14))] (.draw [zm 17 0,zt 18 21 2,zm 19 0,zc 20 19,zf 21 2 20,zl 22 21,zf 23 0 2,zl 24 23,zb 25 .rem 22 24,zm 26 0,zc 27 26,zf 28 2 27,zl 29 28,zf 30 0 2,zl 31 30,zb 32 .quo 29 31,zm 33 0,zx 34 47 [.t 33,zi 0],zm 35 0,zx 36 47 [.t 35,zi 1],zx 37 46 [.t 18,.t 25,.t 32,.t 34,.t 36],zc 38 17,zf 39 5 38,zp (.store 6 (.t 39) (.t 37))] [[],[19,20],[],[],[],[19,20],[],[19,20],[],[],[],[],[19,20],[],[19,20],[],[],[],[],[],[],[],[],[]]))),[]⟩
theorem za19:cN Tryz.prog 19=some c19:=by kernel_rfl
def c47:AFn:=⟨23,zq [zo 4 (.mv (zi 0))] (zq [zm 5 0,zc 6 5,zf 7 1 6,zl 8 7,zc 9 8,zf 10 1 9,zf 11 4 10,zl 12 11,zm 13 0,zc 14 13,zf 15 2 14,zl 16 15,zm 17 0,zc 18 17,zf 19 3 18,zl 20 19,zm 21 1,zx 22 88 [.t 12,.t 16,.t 20,.t 21],zm 4 22] .ret),[.t 4]⟩
theorem za47:cN Tryz.prog 47=some c47:=by kernel_rfl
def c8:AFn:=⟨186,zq [zo 2 (.mv (zi 0)),zo 3 (.mv (.c (.bool false)))] (zr [zm 15 0,zx 16 20 [.t 15],zo 17 (.un .not (.t 16)),zm 18 17,zg 19 (.mv (.t 0)) 18 false,zg 20 (.nilChk (.t 19)) 18 false,zg 21 (.fieldA 17 (.t 20)) 18 false,zg 22 (.load false 1 (.t 21)) 18 false,zo 23 (.pick (.t 18) (.c (.bool true)) (.t 22))] 23 (zq [zo 2 (.mv (zi 0)),zo 3 (.mv (.c (.bool true)))] .ret) .skip (zq [zo 4 (.mv (zi 65536))] (zr [zm 24 0,zc 25 24,zf 26 4 25,zl 27 26,zk 28 .eql 27 0] 28 (.reg [zo 4 (.mv (zi 1))]) .skip (.seq (.draw [zm 30 0,zc 31 30,zf 32 1 31,zl 33 32,zm 34 0,zc 35 34,zf 36 5 35,zt 37 6 36,zm 38 4,zx 39 21 [.t 33,.t 37,.t 38],zm 29 39,ze 40 0 29,ze 41 1 29,ze 42 2 29,zo 5 (.new [zI 0,zI 0,zI 0,zI 0]),zp (.store 4 (.t 5) (.t 40)),zm 6 41,zm 7 42] [[],[],[],[],[],[],[],[],[],[],[],[],[],[],[9],[],[],[]]) (zq [zm 43 0,zc 44 43,zf 45 18 44,zl 46 45,zk 47 .add 46 1,zc 48 43,zf 49 18 48,zs 49 47] (zr [zm 50 6,zk 51 .lss 50 0] 51 (zq [zm 52 0,zm 53 0,zc 54 53,zf 55 1 54,zl 56 55,zc 57 56,zf 58 1 57,zf 59 15 58,zt 60 3 59,zx 61 22 [.t 52,.t 60]] (zq [zm 62 0,zx 63 23 [.t 62]] (zq [zm 64 7,zm 65 0,zc 66 65,zf 67 17 66,zl 68 67,zm 2 64,zm 3 68] .ret))) .skip (zq [zm 69 0,zc 70 69,zf 71 1 70,zl 72 71,zc 73 72,zf 74 22 73,zl 75 74,zm 76 6,zo 77 (.idxA 8 (.t 75) (.t 76)),zt 78 8 77,zo 8 (.new [zN,zN,zN,.ptr none,zI 0,zI 0,zI 0,.nilFunc]),zp (.store 8 (.t 8) (.t 78))] (zq [zf 79 7 8,zl 80 79,zf 81 1 5,zl 82 81,zo 83 (.callv (.t 80) [.t 82]),zm 9 83] (zq [zm 84 0,zc 85 84,zf 86 1 85,zl 87 86,zc 88 87,zf 89 1 88,zf 90 18 89,zl 91 90,zm 92 9,zo 93 (.idxA 6 (.t 91) (.t 92)),zt 94 6 93,zo 10 (.new [zU 0,zI 0,zI 0,zI 0,.str [],.str []]),zp (.store 6 (.t 10) (.t 94))] (.seq (.draw [zf 95 0 8,zt 96 3 95,zt 97 4 5,zt 98 8 8,zm 99 0,zc 100 99,zf 101 5 100,zt 102 6 101,zx 103 25 [.t 98,.t 102],zx 104 24 [.t 96,.t 97,.t 103],zo 11 (.new [zI 0,zI 0,zI 0]),zp (.store 3 (.t 11) (.t 104))] [[],[9],[9],[],[],[],[],[],[],[],[8,9],[]]) (.seq (.draw [zm 105 0,zc 106 105,zf 107 5 106,zt 108 6 107,zt 109 4 5,zt 110 3 11,zx 111 26 [.t 108,.t 109,.t 110],zo 12 (.new [zI 0,zI 0,zI 0,zI 0,zI 0,zI 0,zI 0,zI 0]),zp (.store 8 (.t 12) (.t 111))] [[],[],[],[],[],[],[],[6],[]]) (.seq (zq [zf 112 0 10,zl 113 112] (.block 0 (zq [zo 125 (.bin .eql (.t 113) (zu 3)),zm 124 125] (.cond (.t 124) (zq [zm 126 0,zf 127 1 10,zt 128 3 127,zx 129 22 [.t 126,.t 128]] (zq [zm 130 0,zx 131 23 [.t 130]] (zq [zm 132 7,zm 133 0,zc 134 133,zf 135 17 134,zl 136 135,zm 2 132,zm 3 136] .ret))) (zq [zo 138 (.bin .eql (.t 113) (zu 4)),zm 137 138] (.cond (.t 137) (zq [zm 140 0,zm 141 9,zt 142 8 12,zx 143 27 [.t 140,.t 141,.t 142],zm 139 143,ze 144 0 139,ze 145 1 139,zo 13 (.new [zI 0,zI 0,zI 0]),zp (.store 3 (.t 13) (.t 144)),zm 14 145] (.seq (.draw [zm 146 0,zm 147 0,zc 148 147,zf 149 11 148,zt 150 3 149,zt 151 3 13,zx 152 29 [.t 151],zx 153 28 [.t 150,.t 152],zc 154 146,zf 155 11 154,zp (.store 3 (.t 155) (.t 153))] [[],[],[],[],[7],[],[],[],[],[],[]]) (zq [zm 156 0,zc 157 156,zf 158 19 157,zl 159 158,zm 160 14,zb 161 .add 159 160,zc 162 156,zf 163 19 162,zs 163 161] (.reg [zm 164 7,zm 165 14,zb 166 .add 164 165,zm 7 166])))) (.reg [zm 114 0,zm 115 0,zc 116 115,zf 117 11 116,zt 118 3 117,zf 119 1 10,zt 120 3 119,zx 121 28 [.t 118,.t 120],zc 122 114,zf 123 11 122,zp (.store 3 (.t 123) (.t 121))]))))))) (zr [zm 167 0,zx 168 30 [.t 167]] 168 (zq [zm 169 0,zx 170 23 [.t 169]] (zq [zm 171 7,zm 172 0,zc 173 172,zf 174 17 173,zl 175 174,zm 2 171,zm 3 175] .ret)) .skip (zq [zm 176 0,zf 177 0 10,zl 178 177,zt 179 8 12,zx 180 31 [.t 176,.t 178,.t 179]] (zq [zm 181 7,zm 182 0,zc 183 182,zf 184 17 183,zl 185 184,zm 2 181,zm 3 185] .ret))))))))))))))),[.t 2,.t 3]⟩
theorem za8:cN Tryz.prog 8=some c8:=by kernel_rfl
def c20:AFn:=⟨13,zq [zo 2 (.mv (.c (.bool false)))] (zq [zm 3 0,zo 4 (.pf (.eqv true .ptr) [.t 3,.c (.ptr none)]),zm 5 4,zg 6 (.mv (.t 0)) 5 true,zg 7 (.nilChk (.t 6)) 5 true,zg 8 (.fieldA 0 (.t 7)) 5 true,zg 9 (.load false 1 (.t 8)) 5 true,zg 10 (.mv (.t 0)) 5 true,zg 11 (.pf (.eqv false .ptr) [.t 9,.t 10]) 5 true,zo 12 (.pick (.t 5) (.t 11) (.c (.bool false))),zm 2 12] .ret),[.t 2]⟩
theorem za20:cN Tryz.prog 20=some c20:=by kernel_rfl
def c21:AFn:=⟨65,zq [zo 4 (.box (.t 1)),zo 6 (.new [zI 0,zI 0,zI 0,zI 0]),zo 7 (.mv (zi 0)),zo 8 (.mv (zi 0))] (zq [zo 16 (.build [zI 0,zI 0,zI 0,zI 0] [(1,1,.c (.int .i64 (.negSucc 0)))]),zo 9 (.new [zI 0,zI 0,zI 0,zI 0]),zp (.store 4 (.t 9) (.t 16)),zo 10 (.mv (.c (.int .i64 (.negSucc 0))))] (zr [zm 17 0,zx 18 18 [.t 17],zo 19 (.un .not (.t 18))] 19 (zq [zt 20 4 9,zm 21 10,zp (.store 4 (.t 6) (.t 20)),zm 7 21,zo 8 (.mv (zi 0))] .ret) .skip (zq [zo 11 (.mv (zi 1))] (.seq (zq [zm 22 0,zc 23 22,zf 24 22 23,zl 25 24,zh 26 25,zo 27 (.mv (zi 0))] (.block 0 (.loop (zq [zb 28 .lss 27 26] (.seq (.cond (.t 28) .skip (.exit 0)) (.seq (.block 1 (zq [zm 29 27,zo 30 (.idxA 8 (.t 25) (.t 27)),zt 31 8 30,zo 13 (.new [zN,zN,zN,.ptr none,zI 0,zI 0,zI 0,.nilFunc]),zm 12 29,zp (.store 8 (.t 13) (.t 31))] (.seq (.draw [zf 33 3 13,zl 34 33,zt 35 8 13,zt 36 6 4,zx 37 25 [.t 35,.t 36],zm 38 2,zx 39 48 [.t 34,.t 37,.t 38],zm 32 39,ze 40 0 32,ze 41 1 32,zo 14 (.new [zI 0,zI 0,zI 0,zI 0]),zp (.store 4 (.t 14) (.t 40)),zm 15 41] [[],[6],[],[],[],[],[],[],[],[],[4,6],[],[]]) (zq [zm 42 11,zm 43 15,zb 44 .add 42 43,zm 11 44] (zq [zf 45 1 14,zl 46 45,zk 47 .geq 46 0,zm 48 47,zg 49 (.mv (.t 10)) 48 true,zg 50 (.bin .lss (.t 49) (zi 0)) 48 true,zg 51 (.mv (.t 50)) 48 true,zg 52 (.fieldA 0 (.t 14)) 51 false,zg 53 (.load false 1 (.t 52)) 51 false,zg 54 (.fieldA 0 (.t 9)) 51 false,zg 55 (.load false 1 (.t 54)) 51 false,zg 56 (.bin .lss (.t 53) (.t 55)) 51 false,zg 57 (.pick (.t 51) (.c (.bool true)) (.t 56)) 48 true,zo 58 (.pick (.t 48) (.t 57) (.c (.bool false)))] (.cond (.t 58) (.reg [zt 59 4 14,zm 60 12,zp (.store 4 (.t 9) (.t 59)),zm 10 60]) .skip)))))) (.reg [zk 61 .add 27 1,zm 27 61]))))))) (zq [zt 62 4 9,zm 63 10,zm 64 11,zp (.store 4 (.t 6) (.t 62)),zm 7 63,zm 8 64] .ret))))),[.cell true 4 6,.t 7,.t 8]⟩
theorem za21:cN Tryz.prog 21=some c21:=by kernel_rfl
def c25:AFn:=⟨13,zq [zo 2 (.box (.t 0)),zo 3 (.box (.t 1)),zo 4 (.new [zI 0,zI 0,zI 0,zI 0,zI 0,zI 0])] (.seq (.draw [zf 5 0 3,zt 6 3 5,zf 7 4 2,zt 8 3 7,zx 9 54 [.t 6,.t 8],zf 10 3 3,zt 11 3 10,zo 12 (.build [zI 0,zI 0,zI 0,zI 0,zI 0,zI 0] [(0,3,.t 9),(3,3,.t 11)]),zp (.store 6 (.t 4) (.t 12))] [[],[],[],[],[],[],[4],[],[]]) .ret),[.cell true 6 4]⟩
theorem za25:cN Tryz.prog 25=some c25:=by kernel_rfl
def c22:AFn:=⟨18,zq [zo 3 (.box (.t 1))] (.draw [zm 4 0,zm 5 0,zc 6 5,zf 7 14 6,zt 8 3 7,zm 9 0,zc 10 9,zf 11 11 10,zt 12 3 11,zt 13 3 3,zx 14 28 [.t 12,.t 13],zx 15 49 [.t 8,.t 14],zc 16 4,zf 17 14 16,zp (.store 3 (.t 17) (.t 15))] [[],[],[],[],[11],[],[],[],[],[],[],[],[],[],[]]),[]⟩
theorem za22:cN Tryz.prog 22=some c22:=by kernel_rfl
def c23:AFn:=⟨27,zq [zm 2 0,zc 3 2,zf 4 3 3,zl 5 4,zk 6 .add 5 1,zc 7 2,zf 8 3 7,zs 8 6] (zr [zm 9 0,zc 10 9,zf 11 3 10,zl 12 11,zm 13 0,zc 14 13,zf 15 1 14,zl 16 15,zc 17 16,zf 18 1 17,zf 19 2 18,zl 20 19,zb 21 .geq 12 20] 21 (zq [zm 22 0,zc 23 22,zf 24 17 23,zp (.store 1 (.t 24) (.c (.bool true)))] .ret) .skip (.reg [zm 25 0,zx 26 19 [.t 25]])),[]⟩
theorem za23:cN Tryz.prog 23=some c23:=by kernel_rfl
def c27:AFn:=⟨42,zq [zo 5 (.box (.t 2)),zo 6 (.new [zI 0,zI 0,zI 0]),zo 7 (.mv (zi 0))] (.seq (.draw [zm 12 0,zc 13 12,zf 14 1 13,zl 15 14,zc 16 15,zf 17 23 16,zl 18 17,zm 19 1,zo 20 (.idxA 3 (.t 18) (.t 19)),zt 21 3 20,zt 22 8 5,zm 23 0,zc 24 23,zf 25 1 24,zl 26 25,zc 27 26,zf 28 24 27,zl 29 28,zm 30 1,zo 31 (.idxA 3 (.t 29) (.t 30)),zt 32 3 31,zx 33 58 [.t 21,.t 22,.t 32,zi 200],zm 11 33,ze 34 0 11,ze 35 1 11,ze 36 2 11,zo 8 (.new [zI 0,zI 0,zI 0]),zp (.store 3 (.t 8) (.t 34)),zm 9 35,zm 10 36] [[],[],[],[],[],[],[],[],[],[],[],[],[],[],[],[],[],[],[],[],[],[],[],[],[],[],[21],[],[],[]]) (zr [zm 37 10,zk 38 .neq 37 0] 38 (.reg [zo 39 (.build [zI 0,zI 0,zI 0] []),zp (.store 3 (.t 8) (.t 39))]) .skip (zq [zt 40 3 8,zm 41 9,zp (.store 3 (.t 6) (.t 40)),zm 7 41] .ret))),[.cell true 3 6,.t 7]⟩
theorem za27:cN Tryz.prog 27=some c27:=by kernel_rfl
def c30:AFn:=⟨81,zq [zo 2 (.mv (.c (.bool false)))] (zr [zm 4 0,zc 5 4,zf 6 4 5,zl 7 6,zm 8 0,zc 9 8,zf 10 1 9,zl 11 10,zc 12 11,zf 13 1 12,zf 14 3 13,zl 15 14,zb 16 .geq 7 15,zm 17 16,zg 18 (.mv (.t 0)) 17 false,zg 19 (.nilChk (.t 18)) 17 false,zg 20 (.fieldA 11 (.t 19)) 17 false,zg 21 (.load true 3 (.t 20)) 17 false,zg 22 (.build [zI 0,zI 0,zI 0] []) 17 false,zg 23 (.pf (.eqS false [(0,.int),(1,.int),(2,.int)]) [.t 21,.t 22]) 17 false,zo 24 (.pick (.t 17) (.c (.bool true)) (.t 23))] 24 (zq [zo 2 (.mv (.c (.bool true)))] .ret) .skip (zr [zm 25 0,zc 26 25,zf 27 4 26,zl 28 27,zk 29 .lss 28 3] 29 (zq [zo 2 (.mv (.c (.bool false)))] .ret) .skip (zq [zm 30 0,zc 31 30,zf 32 11 31,zf 33 0 32,zl 34 33,zm 35 0,zc 36 35,zf 37 11 36,zf 38 1 37,zl 39 38,zm 40 0,zc 41 40,zf 42 11 41,zf 43 2 42,zl 44 43,zo 45 (.pf (.mm true) [.t 34,.t 39,.t 44]),zo 46 (.pf (.mm false) [.t 45,zi 4294967296]),zm 3 46] (zr [zm 47 0,zm 48 0,zc 49 48,zf 50 4 49,zl 51 50,zo 52 (.bin .add (zi 30) (.t 51)),zx 53 47 [.t 47,.t 52],zm 54 3,zb 55 .geq 53 54] 55 (zq [zo 2 (.mv (.c (.bool true)))] .ret) .skip (.seq (.draw [zm 56 0,zm 57 0,zc 58 57,zf 59 11 58,zf 60 0 59,zl 61 60,zm 62 3,zx 63 63 [.t 61,.t 62],zm 64 0,zc 65 64,zf 66 11 65,zf 67 1 66,zl 68 67,zm 69 3,zx 70 63 [.t 68,.t 69],zm 71 0,zc 72 71,zf 73 11 72,zf 74 2 73,zl 75 74,zm 76 3,zx 77 63 [.t 75,.t 76],zo 78 (.build [zI 0,zI 0,zI 0] [(0,1,.t 63),(1,1,.t 70),(2,1,.t 77)]),zc 79 56,zf 80 11 79,zp (.store 3 (.t 80) (.t 78))] [[],[],[],[],[],[],[],[],[],[],[],[],[7],[],[],[],[],[],[],[7,14],[],[],[],[],[],[]]) (zq [zo 2 (.mv (.c (.bool false)))] .ret)))))),[.t 2]⟩
theorem za30:cN Tryz.prog 30=some c30:=by kernel_rfl
def c31:AFn:=⟨50,zq [zo 5 (.box (.t 2))] (zr [zm 8 1,zo 9 (.bin .eql (.t 8) (zu 4))] 9 (.reg [zo 1 (.mv (zu 1))]) .skip (.seq (.draw [zm 10 0,zm 11 0,zc 12 11,zf 13 4 12,zl 14 13,zo 15 (.bin .mul (zi 2) (.t 14)),zo 16 (.bin .add (zi 2) (.t 15)),zx 17 47 [.t 10,.t 16],zm 18 0,zm 19 0,zc 20 19,zf 21 4 20,zl 22 21,zo 23 (.bin .mul (zi 2) (.t 22)),zo 24 (.bin .add (zi 3) (.t 23)),zx 25 47 [.t 18,.t 24],zm 6 17,zm 7 25] [[],[],[],[],[],[],[],[],[],[],[],[],[7],[],[],[],[],[]]) (.seq (.draw [zm 26 0,zf 27 2 5,zt 28 3 27,zm 29 1,zm 30 0,zc 31 30,zf 32 5 31,zf 33 3 32,zt 34 3 33,zf 35 5 5,zt 36 3 35,zm 37 6,zm 38 7,zx 39 64 [.t 29,.t 34,.t 36,.t 37,.t 38],zo 40 (.build [zI 0,zI 0,zI 0,zI 0,zI 0,zI 0] [(0,3,.t 28),(3,3,.t 39)]),zc 41 26,zf 42 5 41,zp (.store 6 (.t 42) (.t 40))] [[],[],[17],[],[],[],[],[],[],[],[],[],[],[],[],[],[],[]]) (.reg [zm 43 0,zc 44 43,zf 45 4 44,zl 46 45,zk 47 .add 46 1,zc 48 43,zf 49 4 48,zs 49 47])))),[]⟩
theorem za31:cN Tryz.prog 31=some c31:=by kernel_rfl
def c9:AFn:=⟨27,zq [zo 2 (.new [zU 0,zU 0,zU 0,zU 0])] (zr [zm 3 0,zx 4 20 [.t 3],zo 5 (.un .not (.t 4)),zm 6 5,zg 7 (.mv (.t 0)) 6 false,zg 8 (.nilChk (.t 7)) 6 false,zg 9 (.fieldA 17 (.t 8)) 6 false,zg 10 (.load false 1 (.t 9)) 6 false,zg 11 (.un .not (.t 10)) 6 false,zo 12 (.pick (.t 6) (.c (.bool true)) (.t 11))] 12 (zq [zo 13 (.build [zU 0,zU 0,zU 0,zU 0] []),zp (.store 4 (.t 2) (.t 13))] .ret) .skip (zq [zm 14 0,zc 15 14,zf 16 14 15,zt 17 3 16,zm 18 0,zc 19 18,zf 20 1 19,zl 21 20,zc 22 21,zf 23 1 22,zf 24 2 23,zl 25 24,zx 26 32 [.t 17,.t 25],zp (.store 4 (.t 2) (.t 26))] .ret)),[.cell true 4 2]⟩
theorem za9:cN Tryz.prog 9=some c9:=by kernel_rfl
end
open Go.Abs Go.Abs.S
def LsIn{α:Type}(m:Nat)(Q:α→List AVal→Prop)(P:Nat→Prop)(H:AHeap)(v:AVal)(l:List α):Prop:=∃C,SlK P H m v l.length C∧∀i x,l[i]?=some x→Q x ((C.drop (i*m)).take m)
theorem LsIn.mono{α:Type}{m:Nat}{Q R:α→List AVal→Prop}{P P':Nat→Prop}{H H':AHeap}{v:AVal}{l:List α}(h:LsIn m Q P H v l)(q:∀b,P b→P' b∧H'.get b=H.get b)(r:∀x c,Q x c→R x c):LsIn m R P' H' v l:=by
 obtain⟨C,h1,h2⟩:=h
 exact⟨C,h1.mono q,fun i x hx=>r _ _ (h2 i x hx)⟩
def MsQ(P:Nat→Prop)(H:AHeap)(m:Msh)(c:List AVal):Prop:=∃vp vt vb,c=mshL vp vt vb∧MsIn P H vp vt vb m
def CdQ(P:Nat→Prop)(H:AHeap)(s:Cod)(c:List AVal):Prop:=∃vc vd,c=shL s vc vd∧CdIn P H vc vd s
def PcQ(P:Nat→Prop)(H:AHeap)(t:Tex)(c:List AVal):Prop:=∃vp,c=texL t vp∧SlK P H 1 vp t.pix.length (byts t.pix)
theorem MsQ.mono{P Q:Nat→Prop}{H H':AHeap}(q:∀b,P b→Q b∧H'.get b=H.get b)(m:Msh)(c:List AVal)(h:MsQ P H m c):MsQ Q H' m c:=by
 obtain⟨vp,vt,vb,h1,h2⟩:=h; exact⟨vp,vt,vb,h1,h2.mono q⟩
theorem CdQ.mono{P Q:Nat→Prop}{H H':AHeap}(q:∀b,P b→Q b∧H'.get b=H.get b)(m:Cod)(c:List AVal)(h:CdQ P H m c):CdQ Q H' m c:=by
 obtain⟨vp,vt,h1,h2⟩:=h; exact⟨vp,vt,h1,h2.mono q⟩
theorem PcQ.mono{P Q:Nat→Prop}{H H':AHeap}(q:∀b,P b→Q b∧H'.get b=H.get b)(m:Tex)(c:List AVal)(h:PcQ P H m c):PcQ Q H' m c:=by
 obtain⟨vp,h1,h2⟩:=h; exact⟨vp,h1,h2.mono q⟩
abbrev MssIn(P:Nat→Prop)(H:AHeap):=LsIn 3 (MsQ P H) P H
abbrev CdsIn(P:Nat→Prop)(H:AHeap):=LsIn 3 (CdQ P H) P H
abbrev PcsIn(P:Nat→Prop)(H:AHeap):=LsIn 3 (PcQ P H) P H
def codeBad(ms:List Mt)(shs:List Cod):Bool:=(List.range ms.length).any fun i=>match ms[i]?,shs[i]? with
 | some m,some s=>decide (m.k=4)&&decide (okCode s.regs s.consts.length s.code≠0)
 | _,_=>false
def errW(s:Sc)(ms:List Msh)(shs:List Cod)(pcs:List Tex):Nat:=
 if checkB s=false then 130 else
 if ms.length≠s.us.length∨shs.length≠s.ms.length∨pcs.length≠s.ms.length then 2 else
 if ms.all mshOk=false then 14 else
 if codeBad s.ms shs then 120 else 0
theorem okCode_120(R:Int)(nk:Nat)(l:List InZ):okCode R nk l=0∨okCode R nk l=120:=by
 unfold okCode; repeat' split
 all_goals simp
open Go.Abs Go.Abs.S
abbrev nS:AVal:=.slice none 0 (.known 0)
theorem codeBad_at{ms:List Mt}{shs:List Cod}{i:Nat}{m:Mt}{s:Cod}(hm:ms[i]?=some m)(hs:shs[i]?=some s)(hk:m.k=4)(h:okCode s.regs s.consts.length s.code≠0):codeBad ms shs=true:=by
 unfold codeBad
 rw[List.any_eq_true]
 exact⟨i,by rw[List.mem_range]; exact (List.getElem?_eq_some_iff.1 hm).1,by rw[hm,hs]; simp only[hk,decide_true,Bool.true_and,decide_eq_true_eq]; exact h⟩
def codeBadN(ms:List Mt)(shs:List Cod)(n:Nat):Bool:=(List.range n).any fun i=>match ms[i]?,shs[i]? with
 | some m,some s=>decide (m.k=4)&&decide (okCode s.regs s.consts.length s.code≠0)
 | _,_=>false
theorem codeBadN_succ{ms:List Mt}{shs:List Cod}{i:Nat}{m:Mt}{s:Cod}(hm:ms[i]?=some m)(hs:shs[i]?=some s)(h:codeBadN ms shs i=false)(h2:m.k≠4∨okCode s.regs s.consts.length s.code=0):codeBadN ms shs (i+1)=false:=by
 unfold codeBadN at *
 rw[List.range_succ,List.any_append,h,Bool.false_or,List.any_cons,List.any_nil,Bool.or_false,hm,hs]
 rcases h2 with h2 | h2
 ·simp[h2]
 ·simp[h2]
theorem ld21{H:AHeap}{b:Nat}{s:Sc}{vm vb vu:AVal}(r:Row H b (scL s vm vb vu)):oLoad false 1 H (cellR b 21 18)=some vm∧oLoad false 1 H (cellR b 21 19)=some vb∧oLoad false 1 H (cellR b 21 20)=some vu∧oLoad true 21 H (cellR b 21 0)=some (.agg (scL s vm vb vu)):=
 ⟨row_load r rfl rfl,row_load r rfl rfl,row_load r rfl rfl,row_loadN r rfl⟩
theorem ms_one{P:Nat→Prop}{H:AHeap}{vp vt vb:AVal}{m:Msh}(I:MsIn P H vp vt vb m):(mshL vp vt vb).all AVal.one=true:=by simp[mshL,I.p.one,I.t.one,I.b.one]
theorem cd_one{P:Nat→Prop}{H:AHeap}{vc vd:AVal}{s:Cod}(I:CdIn P H vc vd s):(shL s vc vd).all AVal.one=true:=by have h1:=I.c.one; have h2:=I.d.one; simp only[shL,List.all_cons,h1,h2]; rfl
theorem mt_len(m:Mt):(mtL m).length=6:=rfl
theorem tcheck_spec{s:Sc}{ms:List Msh}{shs:List Cod}{pcs:List Tex}{vm vb vu vms vsh vpc:AVal}{H:AHeap}(I:ScIn (·<H.next) H s vm vb vu)(IM:MssIn (·<H.next) H vms ms)(IS:CdsIn (·<H.next) H vsh shs)(IP:PcsIn (·<H.next) H vpc pcs)
  (bm:∀m∈ms,m.pts.length≤1000∧m.tris.length≤1000∧m.balls.length≤1000) (bs:∀s∈shs,s.code.length≤1000) (bl:ms.length≤1000) (bml:s.ms.length≤1000) :
  ACalls Tryz.prog noNat 11 [.agg (scL s vm vb vu),vms,vsh,vpc] H fun r H'=>r=.int .i64 (errW s ms shs pcs:Int)∧Ext H.next H H':=by
 obtain⟨CM,SM,QM⟩:=IM
 obtain⟨CS,SS,QS⟩:=IS
 obtain⟨CP,SP,QP⟩:=IP
 obtain⟨H1,m1,r1,n1,k1⟩:=row_newL H (scL s vm vb vu) (n:=21) rfl
 have E1:Ext H.next H H1:=⟨om,fun c hc=>k1 c om⟩
 obtain⟨_,_,_,l21⟩:=ld21 r1
 refine acalls_ofN rfl za11 rfl ?_
 simp only[c11,sA,sB,seval,cells_agg,m1,l21]
 refine (chk_spec (I.mono fun b hb=>⟨Nat.lt_of_lt_of_le hb E1.next,E1.old b hb⟩)).mono ?_
 rintro _ H2 ⟨rfl,E2⟩
 have e2:=E2.next
 have E12:Ext H.next H H2:=E1.trans (E2.less E1.next)
 unfold errW
 cases hcb:checkB s with
 | false=>
  have:errI false=.int .i64 130:=rfl
  simp only[sA,sB,seval,this]
  exact⟨tt,E12⟩
 | true=>
 have he:errI true=.int .i64 0:=rfl
 rw[if_neg (by simp)]
 obtain⟨bb,hbb⟩:∃b,b=H.next:=⟨_,rfl⟩
 rw[← hbb]at r1
 have r12:Row H2 bb (scL s vm vb vu):=r1.same (E2.old _ om)
 obtain⟨l18,_,l20,_⟩:=ld21 r12
 have lm:=I.m.len
 have lu:=I.u.len
 have lms:=SM.len
 have lsh:=SS.len
 have lpc:=SP.len
 rw[← hbb]
 by_cases c1:ms.length=s.us.length
 case neg=>
  have c1':¬(ms.length:Int)=(s.us.length:Int):=om
  rw[if_pos (.inl c1)]
  simp only[sA,sB,seval,he,fldA,l18,l20,lu,lms,c1']
  exact⟨tt,by rw[hbb]; exact E12⟩
 by_cases c2:shs.length=s.ms.length
 case neg=>
  have c1':(ms.length:Int)=(s.us.length:Int):=om
  have c2':¬(shs.length:Int)=(s.ms.length:Int):=om
  rw[if_pos (.inr (.inl c2))]
  simp only[sA,sB,seval,he,fldA,l18,l20,lu,lms,c1',lm,lsh,c2']
  exact⟨tt,by rw[hbb]; exact E12⟩
 by_cases c3:pcs.length=s.ms.length
 case neg=>
  have c1':(ms.length:Int)=(s.us.length:Int):=om
  have c2':(shs.length:Int)=(s.ms.length:Int):=om
  have c3':¬(pcs.length:Int)=(s.ms.length:Int):=om
  rw[if_pos (.inr (.inr c3))]
  simp only[sA,sB,seval,he,fldA,l18,l20,lu,lms,c1',lm,lsh,c2',lpc,c3']
  exact⟨tt,by rw[hbb]; exact E12⟩
 rw[if_neg om]
 have c1':(ms.length:Int)=(s.us.length:Int):=om
 have c2':(shs.length:Int)=(s.ms.length:Int):=om
 have c3':(pcs.length:Int)=(s.ms.length:Int):=om
 rw[← c1']at lu
 rw[c2']at lsh
 rw[c3']at lpc
 simp only[sA,sB,seval,he,fldA,l18,l20,lu,lms,lm,lsh,lpc]
 have old:∀{K:AHeap},Ext H2.next H2 K→∀b,b<H.next→b<K.next∧K.get b=H.get b:=fun e b hb=>⟨by have:=e.next; omega,by rw[e.old b om,E12.old b hb]⟩
 refine aw_loop (fun k (T:Env) K=>∃i:Nat,k=ms.length-i∧i≤ms.length∧(ms.take i).all mshOk=true∧Ext H2.next H2 K∧T 2=vsh∧T 4=cellR bb 21 0∧T 43=vms∧T 44=.int .i64 (ms.length:Int)∧T 45=.int .i64 (i:Int)) ms.length
  ⟨0,rfl,Nat.zero_le _,rfl,.refl _ _,tt,tt,tt,tt,tt⟩ ?_
 rintro k T K ⟨i,rfl,hi,hall,EK,t2,t4,t43,t44,t45⟩
 have ek:=EK.next
 by_cases hlt:i<ms.length
 ·have hlt':(i:Int)<(ms.length:Int):=om
  obtain⟨m,hm⟩:=isSome_of_lt hlt
  obtain⟨vp,vt,vb',eC,Im⟩:=QM i m hm
  have SK:=SM.mono (old EK)
  have ix:=SK.idx hlt
  have lx:=SK.load hlt
  rw[eC]at lx
  have wk:=wrap1 i om
  obtain⟨K1,mk1,rk1,nk1,kk1⟩:=row_newL K [nS,nS,nS] (n:=3) rfl
  obtain⟨K2,mk2,rk2,nk2,kk2⟩:=row_storeN rk1 (n:=3) rfl (xs:=mshL vp vt vb') rfl (ms_one Im)
  have l2:=row_loadN rk2 (n:=3) rfl
  have EK2:Ext H2.next H2 K2:=⟨om,fun c hc=>by rw[kk2 c om,kk1 c om,EK.old c hc]⟩
  obtain⟨b1,b2,b3⟩:=bm m (mem_at hm)
  simp only[sA,sB,seval,t43,t44,t45,hlt',ix,lx,mk1,mk2,l2]
  refine (mcheck_spec (Im.mono (old EK2)) om om om).mono ?_
  rintro _ K3 ⟨rfl,EK3⟩
  have EK13:=EK2.trans (EK3.less EK2.next)
  cases hmo:mshOk m with
  | false=>
   rw[if_pos (all_no hm hmo)]
   simp only[sA,sB,seval,Bool.false_eq_true,if_false]
   exact⟨tt,by rw[hbb]; exact E12.trans (EK13.less E12.next)⟩
  | true=>
   simp only[sA,sB,seval,if_true,t45,wk]
   exact⟨_,om,i+1,rfl,om,by rw[all_take hm hall]; exact hmo,EK13,by simp only[t2,t4,t43,t44,and_true]⟩
 obtain rfl:i=ms.length:=om
 rw[List.take_length]at hall
 rw[if_neg (by rw[hall]; simp)]
 have hlt':¬(ms.length:Int)<(ms.length:Int):=om
 obtain⟨l18',_,_,_⟩:=ld21 (r12.same (H':=K) (EK.old _ om))
 simp only[sA,sB,seval,t44,t45,hlt',t4,fldA,l18',lm]
 refine aw_loop (fun k (T:Env) K=>∃i:Nat,k=s.ms.length-i∧i≤s.ms.length∧codeBadN s.ms shs i=false∧Ext H2.next H2 K∧T 2=vsh∧T 56=vm∧T 57=.int .i64 (s.ms.length:Int)∧T 58=.int .i64 (i:Int)) s.ms.length
  ⟨0,rfl,Nat.zero_le _,rfl,EK,by simp only[sA,sB,seval,t2],by simp only[sA,sB,seval],by simp only[sA,sB,seval],by simp only[sA,sB,seval]⟩ ?_
 rintro k T K ⟨i,rfl,hi,hbad,EK,t2,t56,t57,t58⟩
 have ek:=EK.next
 by_cases hlt:i<s.ms.length
 case neg=>
  obtain rfl:i=s.ms.length:=om
  have hlt':¬(s.ms.length:Int)<(s.ms.length:Int):=om
  have hbad':codeBad s.ms shs=false:=hbad
  rw[if_neg (by rw[hbad']; simp)]
  simp only[sA,sB,seval,t57,t58,hlt']
  exact⟨tt,by rw[hbb]; exact E12.trans (EK.less E12.next)⟩
 have hlt':(i:Int)<(s.ms.length:Int):=om
 obtain⟨m,hm⟩:=isSome_of_lt hlt
 obtain⟨sh,hsh⟩:=isSome_of_lt (l:=shs) (i:=i) om
 obtain⟨vc,vd,eC,Ic⟩:=QS i sh hsh
 have Sm:=I.m.mono (old EK)
 have ix:=Sm.idx hlt
 have lx:=Sm.loadE mt_len hm
 have wk:=wrap1 i om
 obtain⟨K1,mk1,rk1,nk1,kk1⟩:=row_newL K [.int .u8 0,.int .i64 0,.int .i64 0,.int .i64 0,.str [],.str []] (n:=6) rfl
 obtain⟨K2,mk2,rk2,nk2,kk2⟩:=row_storeN rk1 (n:=6) rfl (xs:=mtL m) rfl rfl
 have l0:oLoad false 1 K2 (cellR K.next 6 0)=some (.int .u8 (m.k:Int)):=row_load rk2 rfl rfl
 have EK2:Ext H2.next H2 K2:=⟨om,fun c hc=>by rw[kk2 c om,kk1 c om,EK.old c hc]⟩
 by_cases hk:m.k=4
 ·rw[hk]at l0
  simp only[Int.cast_ofNat_Int]at l0
  have SK:=SS.mono (old EK2)
  have ix2:=SK.idx (i:=i) om
  have lx2:=SK.load (i:=i) om
  rw[eC]at lx2
  simp only[sA,sB,seval,t56,t57,t58,hlt',ix,lx,mk1,mk2,fld0,l0,t2,ix2,lx2]
  refine (kcheck_spec (l:=sh.code) (R:=sh.regs) Ic.c.len (Ic.d.mono (old EK2)) rL Ic.c.one (by have:=bs sh (mem_at hsh); omega)).mono ?_
  rintro _ K3 ⟨rfl,EK3⟩
  have EK13:=EK2.trans (EK3.less EK2.next)
  rcases okCode_120 sh.regs sh.consts.length sh.code with h0 | h0
  ·rw[h0]
   have c0:((0:Nat):Int)=0:=rfl
   simp only[sA,sB,seval,c0,t58,wk]
   exact⟨_,om,i+1,rfl,om,codeBadN_succ hm hsh hbad (.inr h0),EK13,by simp only[t2,t56,t57,and_true]⟩
  ·rw[h0,if_pos (codeBad_at hm hsh hk (by rw[h0]; decide))]
   simp only[sA,sB,seval,Int.cast_ofNat_Int]
   exact⟨tt,by rw[hbb]; exact E12.trans (EK13.less E12.next)⟩
 ·have hk':¬(m.k:Int)=4:=om
  simp only[sA,sB,seval,t56,t57,t58,hlt',ix,lx,mk1,mk2,fld0,l0,hk',wk]
  exact⟨_,om,i+1,rfl,om,codeBadN_succ hm hsh hbad (.inl hk),EK2,by simp only[t2,t56,t57,and_true]⟩
open Go.Abs Go.Abs.S
theorem flat_one{α:Type}{f:α→List AVal}(hf:∀x,(f x).all AVal.one=true):∀l:List α,(l.flatMap f).all AVal.one=true
 | []=>rfl
 | x::l=>by rw[List.flatMap_cons,List.all_append,hf x,flat_one hf l]; rfl
theorem zL_one(l:List Int):(zL l).all AVal.one=true:=by unfold zL; rw[List.all_map,List.all_eq_true]; intro x _; rfl
theorem izL_one:∀l:List InZ,(izL l).all AVal.one=true
 | []=>rfl
 | x::l=>by show (izC x++izL l).all _=true; rw[List.all_append,izL_one l]; rfl
abbrev zSc:List AVal:=[.int .i64 0,.int .i64 0,.int .i64 0,.int .i64 0,.int .u64 0,.int .i64 0,.int .i64 0,.int .i64 0,.int .i64 0,.int .i64 0,.int .i64 0,.int .i64 0,.int .i64 0,.int .i64 0,.int .i64 0,.int .i64 0,.int .i64 0,.int .i64 0,nS,nS,nS]
theorem sc_one(s:Sc){vm vb vu:AVal}(o1:vm.one=true)(o2:vb.one=true)(o3:vu.one=true):(scL s vm vb vu).all AVal.one=true:=by
 simp only[scL,List.all_cons,o1,o2,o3]; rfl
theorem cpscene_spec{s:Sc}{vm vb vu:AVal}{H:AHeap}(I:ScIn (·<H.next) H s vm vb vu)(hm:s.ms.length≤1000)(hb:s.bs.length≤1000)(hu:s.us.length≤1000) :
  ACalls Tryz.prog noNat 12 [.agg (scL s vm vb vu)] H fun r H'=>∃vm' vb' vu',r=.agg (scL s vm' vb' vu')∧ScIn (fun b=>H.next≤b∧b<H'.next) H' s vm' vb' vu'∧Ext H.next H H':=by
 obtain⟨H1,m1,r1,n1,k1⟩:=row_newL H (scL s vm vb vu) (n:=21) rfl
 obtain⟨H2,m2,r2,n2,k2⟩:=row_newL H1 zSc (n:=21) rfl
 have E2:Ext H.next H H2:=⟨om,fun c hc=>by rw[k2 c om,k1 c om]⟩
 have r12:=r1.same (H':=H2) (k2 _ om)
 obtain⟨l18,_,_,_⟩:=ld21 r12
 refine acalls_ofN rfl za12 rfl ?_
 simp only[c12,sA,sB,seval,cells_agg,m1,m2,fldA,l18]
 refine (clm_spec (I.m.mono fun b hb=>⟨Nat.lt_of_lt_of_le hb E2.next,E2.old b hb⟩) (flat_one (fun _=>rfl) _) om).mono ?_
 rintro vm' H3 ⟨Sm,E3⟩
 have e3:=E3.next
 obtain⟨H4,m4,r4,n4,k4⟩:=row_st (r12.same (E3.old _ om)) (n:=21) rfl (i:=18) om (x:=vm') Sm.one (l':=scL s vm' vb vu) rfl
 obtain⟨_,l19,_,_⟩:=ld21 r4
 have E4:Ext H.next H H4:=⟨om,fun c hc=>by rw[k4 c om,E3.old c om,E2.old c hc]⟩
 simp only[sA,sB,seval,fldA,m4,l19]
 refine (clr_spec (I.b.mono fun b hb=>⟨Nat.lt_of_lt_of_le hb E4.next,E4.old b hb⟩) (flat_one (fun _=>rfl) _) om).mono ?_
 rintro vb' H5 ⟨Sb,E5⟩
 have e5:=E5.next
 obtain⟨H6,m6,r6,n6,k6⟩:=row_st (r4.same (E5.old _ om)) (n:=21) rfl (i:=19) om (x:=vb') Sb.one (l':=scL s vm' vb' vu) rfl
 obtain⟨_,_,l20,_⟩:=ld21 r6
 have E6:Ext H.next H H6:=⟨om,fun c hc=>by rw[k6 c om,E5.old c om,E4.old c hc]⟩
 simp only[sA,sB,seval,fldA,m6,l20]
 refine (clu_spec (I.u.mono fun b hb=>⟨Nat.lt_of_lt_of_le hb E6.next,E6.old b hb⟩) (flat_one (fun _=>rfl) _) om).mono ?_
 rintro vu' H7 ⟨Su,E7⟩
 have e7:=E7.next
 obtain⟨H8,m8,r8,n8,k8⟩:=row_st (r6.same (E7.old _ om)) (n:=21) rfl (i:=20) om (x:=vu') Su.one (l':=scL s vm' vb' vu') rfl
 obtain⟨_,_,_,l21⟩:=ld21 r8
 have r2':Row H8 H1.next zSc:=r2.same (by rw[k8 _ om,E7.old _ om,k6 _ om,E5.old _ om,k4 _ om,E3.old _ om])
 obtain⟨H9,m9,r9,n9,k9⟩:=row_storeN r2' (n:=21) rfl (xs:=scL s vm' vb' vu') rfl (sc_one s Sm.one Sb.one Su.one)
 have l9:=row_loadN r9 (n:=21) rfl
 simp only[sA,sB,seval,fldA,m8,l21,m9,fin_cc,OptP_some,l9]
 refine⟨vm',vb',vu',tt,⟨Sm.mono fun b hb=>⟨om,?_⟩,Sb.mono fun b hb=>⟨om,?_⟩,Su.mono fun b hb=>⟨om,?_⟩⟩,⟨om,fun c hc=>by rw[k9 c om,k8 c om,E7.old c om,E6.old c hc]⟩⟩
 ·rw[k9 b om,k8 b om,E7.old b om,k6 b om,E5.old b om,k4 b om]
 ·rw[k9 b om,k8 b om,E7.old b om,k6 b om]
 ·rw[k9 b om,k8 b om]
theorem cpshade_spec{s:Cod}{vc vd:AVal}{H:AHeap}(I:CdIn (·<H.next) H vc vd s)(h1:s.consts.length≤100000)(h2:s.code.length≤100000) :
  ACalls Tryz.prog noNat 16 [.agg (shL s vc vd)] H fun r H'=>∃vc' vd',r=.agg (shL s vc' vd')∧CdIn (fun b=>H.next≤b∧b<H'.next) H' vc' vd' s∧Ext H.next H H':=by
 obtain⟨H1,m1,r1,n1,k1⟩:=row_newL H (shL s vc vd) (n:=3) rfl
 obtain⟨H2,m2,r2,n2,k2⟩:=row_newL H1 [nS,.int .i64 0,nS] (n:=3) rfl
 have E2:Ext H.next H H2:=⟨om,fun c hc=>by rw[k2 c om,k1 c om]⟩
 have ll:∀{K:AHeap},Ext H2.next H2 K→_:=fun {K} e=>ldC (r1.same (H':=K) (by rw[e.old _ om,k2 _ om]))
 obtain⟨a0,a1,a2,_⟩:=ll (.refl _ _)
 refine acalls_ofN rfl za16 rfl ?_
 simp only[c16,sA,sB,seval,cells_agg,m1,m2]
 refine aw_drawC rfl ?_
 simp only[sR,sA,sB,seval,fld0,fldA,a0]
 refine (cln_spec (I.c.mono fun b hb=>⟨Nat.lt_of_lt_of_le hb E2.next,E2.old b hb⟩) (zL_one _) om).mono ?_
 rintro vc' H3 ⟨Sc',E3⟩
 have e3:=E3.next
 have E23:Ext H.next H H3:=E2.trans (E3.less E2.next)
 obtain⟨b0,b1,b2,_⟩:=ll E3
 simp only[sR,sA,sB,seval,fld0,fldA,b1,b2]
 refine (cli_spec (I.d.mono fun b hb=>⟨Nat.lt_of_lt_of_le hb E23.next,E23.old b hb⟩) (izL_one _) om).mono ?_
 rintro vd' H4 ⟨Sd',E4⟩
 have e4:=E4.next
 obtain⟨d0,d1,d2,_⟩:=ll (E3.trans (E4.less E3.next))
 have bb:aBuild [.slice none 0 (.known 0),.int .i64 0,.slice none 0 (.known 0)] [(0,1,vc'),(1,1,.int .i64 s.regs),(2,1,vd')]=some (.agg (shL s vc' vd')):=by
  have h:∀v:AVal,v.one=true→v.cells=[v]:=fun v hv=>by cases v <;> first | rfl | simp[AVal.one]at hv
  simp only[aBuild,aFill,h vc' Sc'.one,h vd' Sd'.one,i_cells]; rfl
 have CI:CdIn (fun b=>H.next≤b∧b<H4.next) H4 vc' vd' s:=⟨Sc'.mono fun b hb=>⟨om,E4.old b om⟩,Sd'.mono fun b hb=>⟨om,rfl⟩⟩
 obtain⟨H5,m5,r5,n5,k5⟩:=row_storeN (r2.same (H':=H4) (by rw[E4.old _ om,E3.old _ om])) (n:=3) rfl (xs:=shL s vc' vd') rfl (cd_one CI)
 have l5:=row_loadN r5 (n:=3) rfl
 simp only[sR,sA,sB,seval,bb,m5]
 simp only[ck_nil',ck_cons,ckP_load,ckP_nil,ck_end,and_true,true_and,List.map_cons,List.map_nil,sA,sB,seval,fld0,fldA,fin_cc,OptP_some,l5]
 refine⟨?_,vc',vd',tt,⟨Sc'.mono fun b hb=>⟨om,by rw[k5 b om,E4.old b om]⟩,Sd'.mono fun b hb=>⟨om,by rw[k5 b om]⟩⟩,⟨om,fun c hc=>by rw[k5 c om,E4.old c om,E23.old c hc]⟩⟩
 and_intros <;> first | rfl | exact⟨_,rfl,fun _=>⟨_,by first | assumption | (simp only[sA,sB,seval,fldA]; assumption),by first | exact aeq_int _ _ | exact I.d.aeq⟩⟩
theorem byts_one'(l:List UInt8):(byts l).all AVal.one=true:=by unfold byts; rw[List.all_map,List.all_eq_true]; intro x _; rfl
theorem tx_one{t:Tex}{vp:AVal}(h:vp.one=true):(texL t vp).all AVal.one=true:=by simp only[texL,List.all_cons,h]; rfl
theorem cppic_spec{t:Tex}{vp:AVal}{H:AHeap}(I:SlK (·<H.next) H 1 vp t.pix.length (byts t.pix))(h1:t.pix.length≤10000000) :
  ACalls Tryz.prog noNat 17 [.agg (texL t vp)] H fun r H'=>∃vp',r=.agg (texL t vp')∧SlK (fun b=>H.next≤b∧b<H'.next) H' 1 vp' t.pix.length (byts t.pix)∧Ext H.next H H':=by
 obtain⟨H1,m1,r1,n1,k1⟩:=row_newL H (texL t vp) (n:=3) rfl
 obtain⟨H2,m2,r2,n2,k2⟩:=row_newL H1 [.int .i64 0,.int .i64 0,nS] (n:=3) rfl
 have E2:Ext H.next H H2:=⟨om,fun c hc=>by rw[k2 c om,k1 c om]⟩
 have ll:∀{K:AHeap},Ext H2.next H2 K→_:=fun {K} e=>ldX (r1.same (H':=K) (by rw[e.old _ om,k2 _ om]))
 obtain⟨a0,a1,a2,_⟩:=ll (.refl _ _)
 refine acalls_ofN rfl za17 rfl ?_
 simp only[c17,sA,sB,seval,cells_agg,m1,m2]
 refine aw_drawC rfl ?_
 simp only[sR,sA,sB,seval,fld0,fldA,a0,a1,a2]
 refine (clp_spec (I.mono fun b hb=>⟨Nat.lt_of_lt_of_le hb E2.next,E2.old b hb⟩) (byts_one' _) om).mono ?_
 rintro vp' H3 ⟨Sp,E3⟩
 have e3:=E3.next
 obtain⟨b0,b1,b2,_⟩:=ll E3
 have bb:aBuild [.int .i64 0,.int .i64 0,.slice none 0 (.known 0)] [(0,1,.int .i64 t.w),(1,1,.int .i64 t.h),(2,1,vp')]=some (.agg (texL t vp')):=by
  have h:∀v:AVal,v.one=true→v.cells=[v]:=fun v hv=>by cases v <;> first | rfl | simp[AVal.one]at hv
  simp only[aBuild,aFill,h vp' Sp.one,i_cells]; rfl
 obtain⟨H5,m5,r5,n5,k5⟩:=row_storeN (r2.same (H':=H3) (E3.old _ om)) (n:=3) rfl (xs:=texL t vp') rfl (tx_one Sp.one)
 have l5:=row_loadN r5 (n:=3) rfl
 simp only[sR,sA,sB,seval,bb,m5]
 simp only[ck_nil',ck_cons,ckP_load,ckP_nil,ck_end,and_true,true_and,List.map_cons,List.map_nil,sA,sB,seval,fld0,fldA,fin_cc,OptP_some,l5]
 refine⟨?_,vp',tt,Sp.mono fun b hb=>⟨om,k5 b om⟩,⟨om,fun c hc=>by rw[k5 c om,E3.old c om,E2.old c hc]⟩⟩
 and_intros <;> first | rfl | exact⟨_,rfl,fun _=>⟨_,by first | assumption | (simp only[sA,sB,seval,fld0,fldA]; assumption),aeq_int _ _⟩⟩
open Go.Abs Go.Abs.S
theorem ldS{H:AHeap}{b:Nat}{s:Sc}{vm vb vu:AVal}(r:Row H b (scL s vm vb vu)):oLoad false 1 H (cellR b 21 0)=some (.int .i64 s.w)∧oLoad false 1 H (cellR b 21 1)=some (.int .i64 s.h)∧oLoad true 3 H (cellR b 21 8)=some (.agg s.at_.cells)∧oLoad true 3 H (cellR b 21 5)=some (.agg s.eye.cells)∧oLoad true 3 H (cellR b 21 11)=some (.agg s.up.cells)∧oLoad false 1 H (cellR b 21 14)=some (.int .i64 s.wide):=
 ⟨row_load r rfl rfl,row_load r rfl rfl,row_loadK r (n:=21) rfl (show 8+3≤21 by decide),row_loadK r (n:=21) rfl (show 5+3≤21 by decide),row_loadK r (n:=21) rfl (show 11+3≤21 by decide),row_load r rfl rfl⟩
theorem build6(a b:V):aBuild [.int .i64 0,.int .i64 0,.int .i64 0,.int .i64 0,.int .i64 0,.int .i64 0] [(0,3,.agg a.cells),(3,3,.agg b.cells)]=some (.agg (Ray.mk a b).cells):=rfl
theorem row_vecB(H:AHeap)(v:V):∃H1 H',oNew H (v3 0 0 0)=(cellR H.next 3 0,H1)∧oStore 3 H1 (cellR H.next 3 0) (.agg v.cells)=some H'∧Row H' H.next v.cells∧H'.next=H.next+1∧∀c,c≠H.next→H'.get c=H.get c:=by
 obtain⟨H1,m1,r1,n1,k1⟩:=row_newL H (v3 0 0 0) (n:=3) rfl
 obtain⟨H2,m2,r2,n2,k2⟩:=row_storeN r1 (n:=3) rfl (xs:=v.cells) rfl rfl
 exact⟨H1,H2,m1,m2,r2,om,fun c hc=>by rw[k2 c hc,k1 c hc]⟩
theorem camera_spec{s:Sc}{vm vb vu:AVal}(he:s.eye.j)(ha:s.at_.j)(hu:s.up.j)(hw:J64 s.wide){x y dx dy:Int}(hdx:J64 dx)(hdy:J64 dy){H:AHeap} :
  ACalls Tryz.prog noNat 46 [.agg (scL s vm vb vu),.int .i64 x,.int .i64 y,.int .i64 dx,.int .i64 dy] H fun u H'=>u=.agg (cameraF s.cam x y dx dy).cells∧Ext H.next H H':=by
 obtain⟨H1,m1,r1,n1,k1⟩:=row_newL H (scL s vm vb vu) (n:=21) rfl
 obtain⟨H2,m2,r2,n2,k2⟩:=row_newL H1 [.int .i64 0,.int .i64 0,.int .i64 0,.int .i64 0,.int .i64 0,.int .i64 0] (n:=6) rfl
 have rs:Row H2 H.next (scL s vm vb vu):=r1.same (k2 _ om)
 have E2:Ext H.next H H2:=⟨om,fun c hc=>by rw[k2 c om,k1 c om]⟩
 have ls:∀{K:AHeap},Ext H2.next H2 K→_:=fun {K} e=>ldS (rs.same (H':=K) (e.old _ om))
 have lw:∀{K:AHeap},Ext H2.next H2 K→oLoad false 1 K (cellR H.next 21 14)=some (.int .i64 s.wide):=fun e=>(ls e).2.2.2.2.2
 have leye:∀{K:AHeap},Ext H2.next H2 K→oLoad true 3 K (cellR H.next 21 5)=some (.agg s.eye.cells):=fun e=>(ls e).2.2.2.1
 have E0:Ext H2.next H2 H2:=.refl _ _
 obtain⟨g0,g1,g8,g5,g11,g14⟩:=ls E0
 have j1:J64 4294967296:=⟨by decide,by decide⟩
 refine acalls_ofN rfl za46 rfl ?_
 obtain⟨w,hwd⟩:∃w,w=fOf (max s.w 1):=⟨_,rfl⟩
 obtain⟨h,hhd⟩:∃h,h=fOf (max s.h 1):=⟨_,rfl⟩
 obtain⟨f,hf⟩:∃f,f=vUnit (vSub s.at_ s.eye):=⟨_,rfl⟩
 obtain⟨r,hr⟩:∃r,r=vUnit (vCross f s.up):=⟨_,rfl⟩
 obtain⟨u,hud⟩:∃u,u=vCross r f:=⟨_,rfl⟩
 obtain⟨a,had⟩:∃a,a=fDiv (fAdd (fOf x) dx) w:=⟨_,rfl⟩
 obtain⟨b,hbd⟩:∃b,b=fDiv (fAdd (fOf y) dy) h:=⟨_,rfl⟩
 obtain⟨px,hpx⟩:∃q,q=fMul (fSub (fAdd a a) 4294967296) s.wide:=⟨_,rfl⟩
 obtain⟨high,hhi⟩:∃q,q=fDiv (fMul s.wide h) w:=⟨_,rfl⟩
 obtain⟨py,hpy⟩:∃q,q=fMul (fSub 4294967296 (fAdd b b)) high:=⟨_,rfl⟩
 obtain⟨way,hway⟩:∃q,q=vAdd f (vAdd (vScale r px) (vScale u py)):=⟨_,rfl⟩
 have jw:J64 w:=by rw[hwd]; exact fOf_j _
 have jh:J64 h:=by rw[hhd]; exact fOf_j _
 have jf:f.j:=by rw[hf]; exact vUnit_j _
 have jr:r.j:=by rw[hr]; exact vUnit_j _
 have ju:u.j:=by rw[hud]; exact vCross_j ..
 have ja:J64 a:=by rw[had]; exact fDiv_j ..
 have jb:J64 b:=by rw[hbd]; exact fDiv_j ..
 have jpx:J64 px:=by rw[hpx]; exact fMul_j ..
 have jhi:J64 high:=by rw[hhi]; exact fDiv_j ..
 have jpy:J64 py:=by rw[hpy]; exact fMul_j ..
 have jway:way.j:=by rw[hway]; exact vAdd_j jf (vAdd_j (vScale_j ..) (vScale_j ..))
 simp only[c46]
 refine aw_seq_cut (calls_mono _ _) (fun T' H'=>T' 1=.int .i64 x∧T' 2=.int .i64 y∧T' 3=.int .i64 dx∧T' 4=.int .i64 dy∧T' 5=cellR H.next 21 0∧T' 10=cellR H1.next 6 0∧H2=H') ?_ ?_
 ·simp only[sA,sB,seval,cells_agg,m1,m2]; exact⟨tt,tt,tt,tt,tt,tt,tt⟩
 rintro T _ ⟨t1,t2,t3,t4,t5,t10,rfl⟩
 refine aw_seq_cut (calls_mono _ _) (fun T' H'=>T' 1=.int .i64 x∧T' 2=.int .i64 y∧T' 3=.int .i64 dx∧T' 4=.int .i64 dy∧T' 5=cellR H.next 21 0∧T' 10=cellR H1.next 6 0∧T' 11=.int .i64 w∧T' 12=.int .i64 h∧H2=H') ?_ ?_
 ·refine aw_drawC rfl ?_
  simp only[sR,sA,sB,seval,t1,t2,t3,t4,t5,t10,fld0,fldA,g0,pf_maxI,max_if]
  refine of_spec.mono ?_
  rintro _ _ ⟨rfl,rfl⟩
  simp only[sR,sA,sB,seval,t1,t2,t3,t4,t5,t10,fld0,fldA,g1,pf_maxI,max_if]
  refine of_spec.mono ?_
  rintro _ _ ⟨rfl,rfl⟩
  simp only[sR,sA,sB,seval,t1,t2,t3,t4,t5,t10]
  simp only[ck_nil',ck_cons,ckP_load,ckP_nil,ck_end,and_true,true_and,List.map_cons,List.map_nil,sA,sB,seval,t1,t2,t3,t4,t5,t10]
  refine⟨⟨_,rfl,fun _=>⟨_,g1,aeq_int _ _⟩⟩,by rw[hwd],by rw[hhd]⟩
 clear t1 t2 t3 t4 t5 t10 T
 rintro T _ ⟨t1,t2,t3,t4,t5,t10,t11,t12,rfl⟩
 simp only[sA,sB,seval,t1,t2,t3,t4,t5,t10,t11,t12,fldA,g8,g5]
 refine (vsub_spec ha he).mono ?_
 rintro _ H3 ⟨rfl,E3⟩
 simp only[sA,sB,seval]
 refine (vunit_spec (vSub_j ha he)).mono ?_
 rintro _ H4 ⟨rfl,E4⟩
 rw[← hf]
 have E24:Ext H2.next H2 H4:=E3.trans (E4.less E3.next)
 have e4:=E24.next
 obtain⟨H5,H6,m5,m6,r6,n6,k6⟩:=row_vecB H4 f
 have E26:Ext H2.next H2 H6:=⟨om,fun c hc=>by rw[k6 c om,E24.old c hc]⟩
 have q1:=ld3V r6
 obtain⟨_,_,_,_,g11',_⟩:=ls E26
 simp only[sA,sB,seval,t1,t2,t3,t4,t5,t10,t11,t12,fldA,m5,m6,q1,g11']
 refine (vcross_spec jf hu).mono ?_
 rintro _ H7 ⟨rfl,E7⟩
 simp only[sA,sB,seval]
 refine (vunit_spec (vCross_j ..)).mono ?_
 rintro _ H8 ⟨rfl,E8⟩
 rw[← hr]
 have E68:Ext H6.next H6 H8:=E7.trans (E8.less E7.next)
 have e8:=E68.next
 obtain⟨H9,Ha,m9,ma,ra,na,ka⟩:=row_vecB H8 r
 have E6a:Ext H6.next H6 Ha:=⟨om,fun c hc=>by rw[ka c om,E68.old c hc]⟩
 have q2:=ld3V ra
 have q3:=ld3V (r6.same (H':=Ha) (E6a.old _ om))
 simp only[sA,sB,seval,t1,t2,t3,t4,t5,t10,t11,t12,m9,ma,q2,q3]
 refine (vcross_spec jr jf).mono ?_
 rintro _ Hb ⟨rfl,Eb⟩
 rw[← hud]
 have eb:=Eb.next
 obtain⟨Hc,Hd,mc,md,rd,nd,kd⟩:=row_vecB Hb u
 have Ead:Ext Ha.next Ha Hd:=⟨om,fun c hc=>by rw[kd c om,Eb.old c hc]⟩
 have E6d:Ext H6.next H6 Hd:=E6a.trans (Ead.less E6a.next)
 have E2d:Ext H2.next H2 Hd:=E26.trans (E6d.less E26.next)
 have rf:Row Hd H4.next f.cells:=r6.same (E6d.old _ om)
 have rr:Row Hd H8.next r.cells:=ra.same (Ead.old _ om)
 have lf:∀{K:AHeap},Ext Hd.next Hd K→oLoad true 3 K (cellR H4.next 3 0)=some (.agg f.cells):=fun e=>ld3V (rf.same (e.old _ om))
 have lr:∀{K:AHeap},Ext Hd.next Hd K→oLoad true 3 K (cellR H8.next 3 0)=some (.agg r.cells):=fun e=>ld3V (rr.same (e.old _ om))
 have lu:∀{K:AHeap},Ext Hd.next Hd K→oLoad true 3 K (cellR Hb.next 3 0)=some (.agg u.cells):=fun e=>ld3V (rd.same (e.old _ om))
 have lwd:∀{K:AHeap},Ext Hd.next Hd K→oLoad false 1 K (cellR H.next 21 14)=some (.int .i64 s.wide):=fun e=>lw (E2d.trans (e.less E2d.next))
 have led:∀{K:AHeap},Ext Hd.next Hd K→oLoad true 3 K (cellR H.next 21 5)=some (.agg s.eye.cells):=fun e=>leye (E2d.trans (e.less E2d.next))
 have D0:Ext Hd.next Hd Hd:=.refl _ _
 have lwd0:=lwd D0
 simp only[sA,sB,seval,t1,t2,t3,t4,t5,t10,t11,t12,mc,md]
 refine of_spec.mono ?_
 rintro _ _ ⟨rfl,rfl⟩
 simp only[sA,sB,seval,t1,t2,t3,t4,t5,t10,t11,t12]
 refine (add_spec (fOf_j _) hdx).mono ?_
 rintro _ _ ⟨rfl,rfl⟩
 simp only[sA,sB,seval,t1,t2,t3,t4,t5,t10,t11,t12]
 refine (div_spec (fAdd_j (fOf_j _) hdx) jw).mono ?_
 rintro _ _ ⟨rfl,rfl⟩
 rw[← had]
 simp only[sA,sB,seval,t1,t2,t3,t4,t5,t10,t11,t12]
 refine of_spec.mono ?_
 rintro _ _ ⟨rfl,rfl⟩
 simp only[sA,sB,seval,t1,t2,t3,t4,t5,t10,t11,t12]
 refine (add_spec (fOf_j _) hdy).mono ?_
 rintro _ _ ⟨rfl,rfl⟩
 simp only[sA,sB,seval,t1,t2,t3,t4,t5,t10,t11,t12]
 refine (div_spec (fAdd_j (fOf_j _) hdy) jh).mono ?_
 rintro _ _ ⟨rfl,rfl⟩
 rw[← hbd]
 simp only[sA,sB,seval,t1,t2,t3,t4,t5,t10,t11,t12]
 refine aw_drawC rfl ?_
 simp only[sR,sA,sB,seval,t1,t2,t3,t4,t5,t10,t11,t12]
 refine (add_spec ja ja).mono ?_
 rintro _ _ ⟨rfl,rfl⟩
 simp only[sR,sA,sB,seval]
 refine (sub_spec (fAdd_j ja ja) j1).mono ?_
 rintro _ _ ⟨rfl,rfl⟩
 simp only[sR,sA,sB,seval,t1,t2,t3,t4,t5,t10,t11,t12,fldA,lwd0]
 refine (mul_spec (fSub_j (fAdd_j ja ja) j1) hw).mono ?_
 rintro _ _ ⟨rfl,rfl⟩
 rw[← hpx]
 simp only[sR,sA,sB,seval]
 simp only[ck_nil',ck_cons,ckP_load,ckP_nil,ck_end,and_true,true_and,List.map_cons,List.map_nil]
 refine⟨?_,?_⟩
 ·and_intros <;> first | rfl | exact⟨_,rfl,fun _=>⟨_,by first | exact lwd0 | (simp only[sA,sB,seval,t1,t2,t3,t4,t5,t10,t11,t12,fldA]; exact lwd0),aeq_int _ _⟩⟩
 simp only[sA,sB,seval,t1,t2,t3,t4,t5,t10,t11,t12,fldA,lwd0]
 refine (mul_spec hw jh).mono ?_
 rintro _ _ ⟨rfl,rfl⟩
 simp only[sA,sB,seval,t1,t2,t3,t4,t5,t10,t11,t12]
 refine (div_spec (fMul_j ..) jw).mono ?_
 rintro _ _ ⟨rfl,rfl⟩
 rw[← hhi]
 simp only[sA,sB,seval,t1,t2,t3,t4,t5,t10,t11,t12]
 refine (add_spec jb jb).mono ?_
 rintro _ _ ⟨rfl,rfl⟩
 simp only[sA,sB,seval,t1,t2,t3,t4,t5,t10,t11,t12]
 refine (sub_spec j1 (fAdd_j jb jb)).mono ?_
 rintro _ _ ⟨rfl,rfl⟩
 simp only[sA,sB,seval,t1,t2,t3,t4,t5,t10,t11,t12]
 refine (mul_spec (fSub_j j1 (fAdd_j jb jb)) jhi).mono ?_
 rintro _ _ ⟨rfl,rfl⟩
 rw[← hpy]
 simp only[sA,sB,seval,t1,t2,t3,t4,t5,t10,t11,t12]
 refine aw_drawN ?_
 simp only[claims,newOf,reserves,resO_0,clOp_new]
 obtain⟨He,hhe⟩:∃K,K=Hd.push (.cells [.int .i64 0,.int .i64 0,.int .i64 0] 0 false):=⟨_,rfl⟩
 rw[← hhe]
 have Ee:Ext Hd.next Hd He:=by rw[hhe]; exact (Ext.refl _ _).push rL _
 have ne:He.next=Hd.next+1:=by rw[hhe]; rfl
 have ge:He.get Hd.next=some (.cells [.int .i64 0,.int .i64 0,.int .i64 0] 0 false):=by rw[hhe,AHeap.get_push,if_pos rfl]
 have tl:∀{K:AHeap},Ext He.next He K→Ext Hd.next Hd K:=fun e=>Ee.trans (e.less Ee.next)
 have lr1:∀{K:AHeap},Ext He.next He K→oLoad true 3 K (cellR H8.next 3 0)=some (.agg r.cells):=fun e=>lr (tl e)
 have lf1:∀{K:AHeap},Ext He.next He K→oLoad true 3 K (cellR H4.next 3 0)=some (.agg f.cells):=fun e=>lf (tl e)
 have lu1:∀{K:AHeap},Ext He.next He K→oLoad true 3 K (cellR Hb.next 3 0)=some (.agg u.cells):=fun e=>lu (tl e)
 have cl:∀{K:AHeap},Ext He.next He K→aClaim K Hd.next [.int .i64 0,.int .i64 0,.int .i64 0] none=some (cellR Hd.next 3 0):=fun e=>claim_ok (z:=[.int .i64 0,.int .i64 0,.int .i64 0]) ((e.old _ om).trans ge) rfl
 have F0:Ext He.next He He:=.refl _ _
 have lr0:=lr1 F0
 have lf0:=lf1 F0
 simp only[sR,sA,sB,seval,t1,t2,t3,t4,t5,t10,t11,t12,lr0,lf0]
 refine (vscale_spec jr jpx).mono ?_
 rintro _ Hg ⟨rfl,Fg⟩
 have lu0:=lu1 Fg
 simp only[sR,sA,sB,seval,t1,t2,t3,t4,t5,t10,t11,t12,lu0]
 refine (vscale_spec ju jpy).mono ?_
 rintro _ Hh ⟨rfl,Fh⟩
 have Gh:Ext He.next He Hh:=Fg.trans (Fh.less Fg.next)
 simp only[sR,sA,sB,seval,t1,t2,t3,t4,t5,t10,t11,t12]
 refine (vadd_spec (vScale_j ..) (vScale_j ..)).mono ?_
 rintro _ Hi ⟨rfl,Fi⟩
 have Gi:Ext He.next He Hi:=Gh.trans (Fi.less Gh.next)
 simp only[sR,sA,sB,seval,t1,t2,t3,t4,t5,t10,t11,t12]
 refine (vadd_spec jf (vAdd_j (vScale_j ..) (vScale_j ..))).mono ?_
 rintro _ Hj ⟨rfl,Fj⟩
 rw[← hway]
 have Gj:Ext He.next He Hj:=Gi.trans (Fj.less Gi.next)
 have gj:=Gj.next
 have cl1:=cl Gj
 obtain⟨Hk,mk,rk,nk,kk⟩:=row_storeN (H:=Hj) (b:=Hd.next) (l:=[.int .i64 0,.int .i64 0,.int .i64 0]) ⟨0,(Gj.old _ om).trans ge,Nat.zero_le _⟩ (n:=3) rfl (xs:=way.cells) rfl rfl
 simp only[sR,sA,sB,seval,t1,t2,t3,t4,t5,t10,t11,t12,tr_claim,cl1,mk]
 simp only[ck_nil',ck_cons,ckP_load,ckP_claim,ckP_nil,ck_end,and_true,true_and,List.map_cons,List.map_nil]
 refine⟨?_,?_⟩
 ·and_intros <;> first | rfl | exact⟨_,rfl,fun _=>⟨_,by first | exact lr1 (by assumption) | exact lf1 (by assumption) | exact lu1 (by assumption) | exact cl (by assumption),by first | exact aeq_V _ | exact aeq_cellR ..⟩⟩
 have Ek:Ext Hd.next Hd Hk:=⟨om,fun c hc=>by rw[kk c om,Gj.old c om,Ee.old c hc]⟩
 have lek:∀{K:AHeap},Ext Hk.next Hk K→oLoad true 3 K (cellR H.next 21 5)=some (.agg s.eye.cells):=fun e=>led (Ek.trans (e.less Ek.next))
 have lwk:∀{K:AHeap},Ext Hk.next Hk K→oLoad true 3 K (cellR Hd.next 3 0)=some (.agg way.cells):=fun e=>ld3V (rk.same (e.old _ om))
 have K0:Ext Hk.next Hk Hk:=.refl _ _
 have lek0:=lek K0
 have lwk0:=lwk K0
 refine aw_drawC rfl ?_
 simp only[sR,sA,sB,seval,t1,t2,t3,t4,t5,t10,t11,t12,fldA,lek0,lwk0]
 refine (vunit_spec jway).mono ?_
 rintro _ Hl ⟨rfl,El⟩
 have Edl:Ext Hd.next Hd Hl:=Ek.trans (El.less Ek.next)
 have E2l:Ext H2.next H2 Hl:=E2d.trans (Edl.less E2d.next)
 have e2l:=E2l.next
 obtain⟨Hn,mn,rn,nn,kn⟩:=row_storeN (r2.same (H':=Hl) (E2l.old _ om)) (n:=6) rfl (xs:=(Ray.mk s.eye (vUnit way)).cells) rfl rfl
 have w6:oLoad true 6 Hn (cellR H1.next 6 0)=some (.agg (Ray.mk s.eye (vUnit way)).cells):=row_loadN rn rfl
 simp only[sR,sA,sB,seval,t1,t2,t3,t4,t5,t10,t11,t12,build6,mn]
 simp only[ck_nil',ck_cons,ckP_load,ckP_nil,ck_end,and_true,true_and,List.map_cons,List.map_nil,sA,sB,seval,t1,t2,t3,t4,t5,t10,t11,t12,fin_cc,OptP_some,w6]
 refine⟨?_,?_,⟨om,fun c hc=>by rw[kn c om,E2l.old c om,E2.old c hc]⟩⟩
 ·and_intros <;> first | rfl | exact⟨_,rfl,fun _=>⟨_,by first | exact lek (by assumption) | (simp only[sA,sB,seval,t1,t2,t3,t4,t5,t10,t11,t12,fldA]; exact lek (by assumption)),aeq_V _⟩⟩
 ·subst hway hpy hhi hpx hbd had hud hr hf hhd hwd; rfl
end Go.Proofs.Tc
