/- Part of a proof (UFB UG1 UG2 UG3 UE1 UM1 UM2 UE2 UE3 UE4 UE5 V2 V3 V4 V5); no condition. -/
import Derived.Test.YtbmacgjajnokdaaGreatP6
import Derived.Test.YtbmacgjajnokdaaGreatP9
import Derived.Test.YtbmacgjajnokdaaGreatP10
set_option linter.unusedSimpArgs false
set_option linter.unusedVariables false
set_option linter.defProp false
set_option linter.unnecessarySimpa false
namespace Go.Proofs.Tc
open Go.Abs Go.Abs.S
theorem ldS{H:AHeap}{b:Nat}{s:Sc}{vm vb vu:AVal}(r:Row H b (scL s vm vb vu)):oLoad false 1 H (cellR b 21 0)=some (.int .i64 s.w)∧oLoad false 1 H (cellR b 21 1)=some (.int .i64 s.h)∧oLoad true 3 H (cellR b 21 8)=some (.agg s.at_.cells)∧oLoad true 3 H (cellR b 21 5)=some (.agg s.eye.cells)∧oLoad true 3 H (cellR b 21 11)=some (.agg s.up.cells)∧oLoad false 1 H (cellR b 21 14)=some (.int .i64 s.wide):=
 ⟨row_load r rfl rfl,row_load r rfl rfl,row_loadK r (n:=21) rfl (show 8+3≤21 by decide),row_loadK r (n:=21) rfl (show 5+3≤21 by decide),row_loadK r (n:=21) rfl (show 11+3≤21 by decide),row_load r rfl rfl⟩
theorem build6(a b:V):aBuild [.int .i64 0,.int .i64 0,.int .i64 0,.int .i64 0,.int .i64 0,.int .i64 0] [(0,3,.agg a.cells),(3,3,.agg b.cells)]=some (.agg (Ray.mk a b).cells):=rfl
theorem row_vecB(H:AHeap)(v:V):∃H1 H',oNew H (v3 0 0 0)=(cellR H.next 3 0,H1)∧oStore 3 H1 (cellR H.next 3 0) (.agg v.cells)=some H'∧Row H' H.next v.cells∧H'.next=H.next+1∧∀c,c≠H.next→H'.get c=H.get c:=by
 obtain⟨H1,m1,r1,n1,k1⟩:=row_newL H (v3 0 0 0) (n:=3) rfl
 obtain⟨H2,m2,r2,n2,k2⟩:=row_storeN r1 (n:=3) rfl (xs:=v.cells) rfl rfl
 exact⟨H1,H2,m1,m2,r2,om,fun c hc=>by rw[k2 c hc,k1 c hc]⟩
theorem camera_spec{s:Sc}{vm vb vu:AVal}(he:s.eye.j)(ha:s.at_.j)(hu:s.up.j)(hw:J64 s.wide){x y dx dy:Int}(hdx:J64 dx)(hdy:J64 dy){H:AHeap} :
  ACalls Tryz.prog noNat 183 [.agg (scL s vm vb vu),.int .i64 x,.int .i64 y,.int .i64 dx,.int .i64 dy] H fun u H'=>u=.agg (cameraF s.cam x y dx dy).cells∧Ext H.next H H':=by
 obtain⟨H1,m1,r1,n1,k1⟩:=row_newL H (scL s vm vb vu) (n:=21) rfl
 obtain⟨H2,m2,r2,n2,k2⟩:=row_newL H1 [.int .i64 0,.int .i64 0,.int .i64 0,.int .i64 0,.int .i64 0,.int .i64 0] (n:=6) rfl
 have rs:Row H2 H.next (scL s vm vb vu):=r1.same (k2 _ om)
 have E2:Ext H.next H H2:=⟨om,fun c hc=>by rw[k2 c om,k1 c om]⟩
 have ls:∀{K:AHeap},Ext H2.next H2 K→_:=fun {K} e=>ldS (rs.same (H':=K) (e.old _ om))
 have lw:∀{K:AHeap},Ext H2.next H2 K→oLoad false 1 K (cellR H.next 21 14)=some (.int .i64 s.wide):=fun e=>(ls e).2.2.2.2.2
 have leye:∀{K:AHeap},Ext H2.next H2 K→oLoad true 3 K (cellR H.next 21 5)=some (.agg s.eye.cells):=fun e=>(ls e).2.2.2.1
 have E0:Ext H2.next H2 H2:=.refl _ _
 obtain⟨g0,g1,g8,g5,g11,g14⟩:=ls E0
 have j1:J64 4294967296:=⟨by decide,by decide⟩
 refine acalls_ofN rfl za183 rfl ?_
 obtain⟨w,hwd⟩:∃w,w=fOf (max s.w 1):=⟨_,rfl⟩
 obtain⟨h,hhd⟩:∃h,h=fOf (max s.h 1):=⟨_,rfl⟩
 obtain⟨f,hf⟩:∃f,f=vUnit (vSub s.at_ s.eye):=⟨_,rfl⟩
 obtain⟨r,hr⟩:∃r,r=vUnit (vCross f s.up):=⟨_,rfl⟩
 obtain⟨u,hud⟩:∃u,u=vCross r f:=⟨_,rfl⟩
 obtain⟨a,had⟩:∃a,a=fDiv (fAdd (fOf x) dx) w:=⟨_,rfl⟩
 obtain⟨b,hbd⟩:∃b,b=fDiv (fAdd (fOf y) dy) h:=⟨_,rfl⟩
 obtain⟨px,hpx⟩:∃q,q=fMul (fSub (fAdd a a) 4294967296) s.wide:=⟨_,rfl⟩
 obtain⟨high,hhi⟩:∃q,q=fDiv (fMul s.wide h) w:=⟨_,rfl⟩
 obtain⟨py,hpy⟩:∃q,q=fMul (fSub 4294967296 (fAdd b b)) high:=⟨_,rfl⟩
 obtain⟨way,hway⟩:∃q,q=vAdd f (vAdd (vScale r px) (vScale u py)):=⟨_,rfl⟩
 have jw:J64 w:=by rw[hwd]; exact fOf_j _
 have jh:J64 h:=by rw[hhd]; exact fOf_j _
 have jf:f.j:=by rw[hf]; exact vUnit_j _
 have jr:r.j:=by rw[hr]; exact vUnit_j _
 have ju:u.j:=by rw[hud]; exact vCross_j ..
 have ja:J64 a:=by rw[had]; exact fDiv_j ..
 have jb:J64 b:=by rw[hbd]; exact fDiv_j ..
 have jpx:J64 px:=by rw[hpx]; exact fMul_j ..
 have jhi:J64 high:=by rw[hhi]; exact fDiv_j ..
 have jpy:J64 py:=by rw[hpy]; exact fMul_j ..
 have jway:way.j:=by rw[hway]; exact vAdd_j jf (vAdd_j (vScale_j ..) (vScale_j ..))
 simp only[c183]
 refine aw_seq_cut (calls_mono _ _) (fun T' H'=>T' 1=.int .i64 x∧T' 2=.int .i64 y∧T' 3=.int .i64 dx∧T' 4=.int .i64 dy∧T' 5=cellR H.next 21 0∧T' 10=cellR H1.next 6 0∧H2=H') ?_ ?_
 ·simp only[sA,sB,seval,cells_agg,m1,m2]; exact⟨tt,tt,tt,tt,tt,tt,tt⟩
 rintro T _ ⟨t1,t2,t3,t4,t5,t10,rfl⟩
 refine aw_seq_cut (calls_mono _ _) (fun T' H'=>T' 1=.int .i64 x∧T' 2=.int .i64 y∧T' 3=.int .i64 dx∧T' 4=.int .i64 dy∧T' 5=cellR H.next 21 0∧T' 10=cellR H1.next 6 0∧T' 11=.int .i64 w∧T' 12=.int .i64 h∧H2=H') ?_ ?_
 ·refine aw_drawC rfl ?_
  simp only[sR,sA,sB,seval,t1,t2,t3,t4,t5,t10,fld0,fldA,g0,pf_maxI,max_if]
  refine of_spec.mono ?_
  rintro _ _ ⟨rfl,rfl⟩
  simp only[sR,sA,sB,seval,t1,t2,t3,t4,t5,t10,fld0,fldA,g1,pf_maxI,max_if]
  refine of_spec.mono ?_
  rintro _ _ ⟨rfl,rfl⟩
  simp only[sR,sA,sB,seval,t1,t2,t3,t4,t5,t10]
  simp only[ck_nil',ck_cons,ckP_load,ckP_nil,ck_end,and_true,true_and,List.map_cons,List.map_nil,sA,sB,seval,t1,t2,t3,t4,t5,t10]
  refine⟨⟨_,rfl,fun _=>⟨_,g1,aeq_int _ _⟩⟩,by rw[hwd],by rw[hhd]⟩
 clear t1 t2 t3 t4 t5 t10 T
 rintro T _ ⟨t1,t2,t3,t4,t5,t10,t11,t12,rfl⟩
 simp only[sA,sB,seval,t1,t2,t3,t4,t5,t10,t11,t12,fldA,g8,g5]
 refine (vsub_spec ha he).mono ?_
 rintro _ H3 ⟨rfl,E3⟩
 simp only[sA,sB,seval]
 refine (vunit_spec (vSub_j ha he)).mono ?_
 rintro _ H4 ⟨rfl,E4⟩
 rw[← hf]
 have E24:Ext H2.next H2 H4:=E3.trans (E4.less E3.next)
 have e4:=E24.next
 obtain⟨H5,H6,m5,m6,r6,n6,k6⟩:=row_vecB H4 f
 have E26:Ext H2.next H2 H6:=⟨om,fun c hc=>by rw[k6 c om,E24.old c hc]⟩
 have q1:=ld3V r6
 obtain⟨_,_,_,_,g11',_⟩:=ls E26
 simp only[sA,sB,seval,t1,t2,t3,t4,t5,t10,t11,t12,fldA,m5,m6,q1,g11']
 refine (vcross_spec jf hu).mono ?_
 rintro _ H7 ⟨rfl,E7⟩
 simp only[sA,sB,seval]
 refine (vunit_spec (vCross_j ..)).mono ?_
 rintro _ H8 ⟨rfl,E8⟩
 rw[← hr]
 have E68:Ext H6.next H6 H8:=E7.trans (E8.less E7.next)
 have e8:=E68.next
 obtain⟨H9,Ha,m9,ma,ra,na,ka⟩:=row_vecB H8 r
 have E6a:Ext H6.next H6 Ha:=⟨om,fun c hc=>by rw[ka c om,E68.old c hc]⟩
 have q2:=ld3V ra
 have q3:=ld3V (r6.same (H':=Ha) (E6a.old _ om))
 simp only[sA,sB,seval,t1,t2,t3,t4,t5,t10,t11,t12,m9,ma,q2,q3]
 refine (vcross_spec jr jf).mono ?_
 rintro _ Hb ⟨rfl,Eb⟩
 rw[← hud]
 have eb:=Eb.next
 obtain⟨Hc,Hd,mc,md,rd,nd,kd⟩:=row_vecB Hb u
 have Ead:Ext Ha.next Ha Hd:=⟨om,fun c hc=>by rw[kd c om,Eb.old c hc]⟩
 have E6d:Ext H6.next H6 Hd:=E6a.trans (Ead.less E6a.next)
 have E2d:Ext H2.next H2 Hd:=E26.trans (E6d.less E26.next)
 have rf:Row Hd H4.next f.cells:=r6.same (E6d.old _ om)
 have rr:Row Hd H8.next r.cells:=ra.same (Ead.old _ om)
 have lf:∀{K:AHeap},Ext Hd.next Hd K→oLoad true 3 K (cellR H4.next 3 0)=some (.agg f.cells):=fun e=>ld3V (rf.same (e.old _ om))
 have lr:∀{K:AHeap},Ext Hd.next Hd K→oLoad true 3 K (cellR H8.next 3 0)=some (.agg r.cells):=fun e=>ld3V (rr.same (e.old _ om))
 have lu:∀{K:AHeap},Ext Hd.next Hd K→oLoad true 3 K (cellR Hb.next 3 0)=some (.agg u.cells):=fun e=>ld3V (rd.same (e.old _ om))
 have lwd:∀{K:AHeap},Ext Hd.next Hd K→oLoad false 1 K (cellR H.next 21 14)=some (.int .i64 s.wide):=fun e=>lw (E2d.trans (e.less E2d.next))
 have led:∀{K:AHeap},Ext Hd.next Hd K→oLoad true 3 K (cellR H.next 21 5)=some (.agg s.eye.cells):=fun e=>leye (E2d.trans (e.less E2d.next))
 have D0:Ext Hd.next Hd Hd:=.refl _ _
 have lwd0:=lwd D0
 simp only[sA,sB,seval,t1,t2,t3,t4,t5,t10,t11,t12,mc,md]
 refine of_spec.mono ?_
 rintro _ _ ⟨rfl,rfl⟩
 simp only[sA,sB,seval,t1,t2,t3,t4,t5,t10,t11,t12]
 refine (add_spec (fOf_j _) hdx).mono ?_
 rintro _ _ ⟨rfl,rfl⟩
 simp only[sA,sB,seval,t1,t2,t3,t4,t5,t10,t11,t12]
 refine (div_spec (fAdd_j (fOf_j _) hdx) jw).mono ?_
 rintro _ _ ⟨rfl,rfl⟩
 rw[← had]
 simp only[sA,sB,seval,t1,t2,t3,t4,t5,t10,t11,t12]
 refine of_spec.mono ?_
 rintro _ _ ⟨rfl,rfl⟩
 simp only[sA,sB,seval,t1,t2,t3,t4,t5,t10,t11,t12]
 refine (add_spec (fOf_j _) hdy).mono ?_
 rintro _ _ ⟨rfl,rfl⟩
 simp only[sA,sB,seval,t1,t2,t3,t4,t5,t10,t11,t12]
 refine (div_spec (fAdd_j (fOf_j _) hdy) jh).mono ?_
 rintro _ _ ⟨rfl,rfl⟩
 rw[← hbd]
 simp only[sA,sB,seval,t1,t2,t3,t4,t5,t10,t11,t12]
 refine aw_drawC rfl ?_
 simp only[sR,sA,sB,seval,t1,t2,t3,t4,t5,t10,t11,t12]
 refine (add_spec ja ja).mono ?_
 rintro _ _ ⟨rfl,rfl⟩
 simp only[sR,sA,sB,seval]
 refine (sub_spec (fAdd_j ja ja) j1).mono ?_
 rintro _ _ ⟨rfl,rfl⟩
 simp only[sR,sA,sB,seval,t1,t2,t3,t4,t5,t10,t11,t12,fldA,lwd0]
 refine (mul_spec (fSub_j (fAdd_j ja ja) j1) hw).mono ?_
 rintro _ _ ⟨rfl,rfl⟩
 rw[← hpx]
 simp only[sR,sA,sB,seval]
 simp only[ck_nil',ck_cons,ckP_load,ckP_nil,ck_end,and_true,true_and,List.map_cons,List.map_nil]
 refine⟨?_,?_⟩
 ·and_intros <;> first | rfl | exact⟨_,rfl,fun _=>⟨_,by first | exact lwd0 | (simp only[sA,sB,seval,t1,t2,t3,t4,t5,t10,t11,t12,fldA]; exact lwd0),aeq_int _ _⟩⟩
 simp only[sA,sB,seval,t1,t2,t3,t4,t5,t10,t11,t12,fldA,lwd0]
 refine (mul_spec hw jh).mono ?_
 rintro _ _ ⟨rfl,rfl⟩
 simp only[sA,sB,seval,t1,t2,t3,t4,t5,t10,t11,t12]
 refine (div_spec (fMul_j ..) jw).mono ?_
 rintro _ _ ⟨rfl,rfl⟩
 rw[← hhi]
 simp only[sA,sB,seval,t1,t2,t3,t4,t5,t10,t11,t12]
 refine (add_spec jb jb).mono ?_
 rintro _ _ ⟨rfl,rfl⟩
 simp only[sA,sB,seval,t1,t2,t3,t4,t5,t10,t11,t12]
 refine (sub_spec j1 (fAdd_j jb jb)).mono ?_
 rintro _ _ ⟨rfl,rfl⟩
 simp only[sA,sB,seval,t1,t2,t3,t4,t5,t10,t11,t12]
 refine (mul_spec (fSub_j j1 (fAdd_j jb jb)) jhi).mono ?_
 rintro _ _ ⟨rfl,rfl⟩
 rw[← hpy]
 simp only[sA,sB,seval,t1,t2,t3,t4,t5,t10,t11,t12]
 refine aw_drawN ?_
 simp only[claims,newOf,reserves,resO_0,clOp_new]
 obtain⟨He,hhe⟩:∃K,K=Hd.push (.cells [.int .i64 0,.int .i64 0,.int .i64 0] 0 false):=⟨_,rfl⟩
 rw[← hhe]
 have Ee:Ext Hd.next Hd He:=by rw[hhe]; exact (Ext.refl _ _).push rL _
 have ne:He.next=Hd.next+1:=by rw[hhe]; rfl
 have ge:He.get Hd.next=some (.cells [.int .i64 0,.int .i64 0,.int .i64 0] 0 false):=by rw[hhe,AHeap.get_push,if_pos rfl]
 have tl:∀{K:AHeap},Ext He.next He K→Ext Hd.next Hd K:=fun e=>Ee.trans (e.less Ee.next)
 have lr1:∀{K:AHeap},Ext He.next He K→oLoad true 3 K (cellR H8.next 3 0)=some (.agg r.cells):=fun e=>lr (tl e)
 have lf1:∀{K:AHeap},Ext He.next He K→oLoad true 3 K (cellR H4.next 3 0)=some (.agg f.cells):=fun e=>lf (tl e)
 have lu1:∀{K:AHeap},Ext He.next He K→oLoad true 3 K (cellR Hb.next 3 0)=some (.agg u.cells):=fun e=>lu (tl e)
 have cl:∀{K:AHeap},Ext He.next He K→aClaim K Hd.next [.int .i64 0,.int .i64 0,.int .i64 0] none=some (cellR Hd.next 3 0):=fun e=>claim_ok (z:=[.int .i64 0,.int .i64 0,.int .i64 0]) ((e.old _ om).trans ge) rfl
 have F0:Ext He.next He He:=.refl _ _
 have lr0:=lr1 F0
 have lf0:=lf1 F0
 simp only[sR,sA,sB,seval,t1,t2,t3,t4,t5,t10,t11,t12,lr0,lf0]
 refine (vscale_spec jr jpx).mono ?_
 rintro _ Hg ⟨rfl,Fg⟩
 have lu0:=lu1 Fg
 simp only[sR,sA,sB,seval,t1,t2,t3,t4,t5,t10,t11,t12,lu0]
 refine (vscale_spec ju jpy).mono ?_
 rintro _ Hh ⟨rfl,Fh⟩
 have Gh:Ext He.next He Hh:=Fg.trans (Fh.less Fg.next)
 simp only[sR,sA,sB,seval,t1,t2,t3,t4,t5,t10,t11,t12]
 refine (vadd_spec (vScale_j ..) (vScale_j ..)).mono ?_
 rintro _ Hi ⟨rfl,Fi⟩
 have Gi:Ext He.next He Hi:=Gh.trans (Fi.less Gh.next)
 simp only[sR,sA,sB,seval,t1,t2,t3,t4,t5,t10,t11,t12]
 refine (vadd_spec jf (vAdd_j (vScale_j ..) (vScale_j ..))).mono ?_
 rintro _ Hj ⟨rfl,Fj⟩
 rw[← hway]
 have Gj:Ext He.next He Hj:=Gi.trans (Fj.less Gi.next)
 have gj:=Gj.next
 have cl1:=cl Gj
 obtain⟨Hk,mk,rk,nk,kk⟩:=row_storeN (H:=Hj) (b:=Hd.next) (l:=[.int .i64 0,.int .i64 0,.int .i64 0]) ⟨0,(Gj.old _ om).trans ge,Nat.zero_le _⟩ (n:=3) rfl (xs:=way.cells) rfl rfl
 simp only[sR,sA,sB,seval,t1,t2,t3,t4,t5,t10,t11,t12,tr_claim,cl1,mk]
 simp only[ck_nil',ck_cons,ckP_load,ckP_claim,ckP_nil,ck_end,and_true,true_and,List.map_cons,List.map_nil]
 refine⟨?_,?_⟩
 ·and_intros <;> first | rfl | exact⟨_,rfl,fun _=>⟨_,by first | exact lr1 (by assumption) | exact lf1 (by assumption) | exact lu1 (by assumption) | exact cl (by assumption),by first | exact aeq_V _ | exact aeq_cellR ..⟩⟩
 have Ek:Ext Hd.next Hd Hk:=⟨om,fun c hc=>by rw[kk c om,Gj.old c om,Ee.old c hc]⟩
 have lek:∀{K:AHeap},Ext Hk.next Hk K→oLoad true 3 K (cellR H.next 21 5)=some (.agg s.eye.cells):=fun e=>led (Ek.trans (e.less Ek.next))
 have lwk:∀{K:AHeap},Ext Hk.next Hk K→oLoad true 3 K (cellR Hd.next 3 0)=some (.agg way.cells):=fun e=>ld3V (rk.same (e.old _ om))
 have K0:Ext Hk.next Hk Hk:=.refl _ _
 have lek0:=lek K0
 have lwk0:=lwk K0
 refine aw_drawC rfl ?_
 simp only[sR,sA,sB,seval,t1,t2,t3,t4,t5,t10,t11,t12,fldA,lek0,lwk0]
 refine (vunit_spec jway).mono ?_
 rintro _ Hl ⟨rfl,El⟩
 have Edl:Ext Hd.next Hd Hl:=Ek.trans (El.less Ek.next)
 have E2l:Ext H2.next H2 Hl:=E2d.trans (Edl.less E2d.next)
 have e2l:=E2l.next
 obtain⟨Hn,mn,rn,nn,kn⟩:=row_storeN (r2.same (H':=Hl) (E2l.old _ om)) (n:=6) rfl (xs:=(Ray.mk s.eye (vUnit way)).cells) rfl rfl
 have w6:oLoad true 6 Hn (cellR H1.next 6 0)=some (.agg (Ray.mk s.eye (vUnit way)).cells):=row_loadN rn rfl
 simp only[sR,sA,sB,seval,t1,t2,t3,t4,t5,t10,t11,t12,build6,mn]
 simp only[ck_nil',ck_cons,ckP_load,ckP_nil,ck_end,and_true,true_and,List.map_cons,List.map_nil,sA,sB,seval,t1,t2,t3,t4,t5,t10,t11,t12,fin_cc,OptP_some,w6]
 refine⟨?_,?_,⟨om,fun c hc=>by rw[kn c om,E2l.old c om,E2.old c hc]⟩⟩
 ·and_intros <;> first | rfl | exact⟨_,rfl,fun _=>⟨_,by first | exact lek (by assumption) | (simp only[sA,sB,seval,t1,t2,t3,t4,t5,t10,t11,t12,fldA]; exact lek (by assumption)),aeq_V _⟩⟩
 ·subst hway hpy hhi hpx hbd had hud hr hf hhd hwd; rfl
open Go.Abs Go.Abs.S
def vcL(v:V):List AVal:=[.int .i64 v.x,.int .i64 v.y,.int .i64 v.z]
theorem row_ld(n i:Nat){H:AHeap}{b:Nat}{l:List AVal}(h:Row H b l)(hn:l.length=n){x:AVal}(hi:l[i]?=some x):oLoad false 1 H (cellR b n i)=some x:=row_load h hn hi
theorem row_ldK(n i k:Nat){H:AHeap}{b:Nat}{l:List AVal}(h:Row H b l)(hn:l.length=n){xs:List AVal}(hik:i+k≤n)(e:(l.drop i).take k=xs):oLoad true k H (cellR b n i)=some (.agg xs):=by subst e; exact row_loadK h hn hik
theorem _root_.Go.Abs.S.Row.up{n:Nat}{H H':AHeap}{b:Nat}{l:List AVal}(h:Row H b l)(e:Ext n H H')(hb:b<n):Row H' b l:=h.same (e.old b hb)
theorem ext_new{H H':AHeap}(hn:H'.next=H.next+1)(k:∀c,c≠H.next→H'.get c=H.get c):Ext H.next H H':=⟨om,fun b hb=>k b om⟩
theorem in1_spec{H:AHeap}{b1 b2:Nat}{x lo hi:Int}(r1:Row H b1 [.int .i64 lo])(r2:Row H b2 [.int .i64 hi]) :
  ACalls Tryz.prog noNat 206 [.int .i64 x,cellR b1 1 0,cellR b2 1 0] H fun v H'=>v=.bool (inI x lo hi)∧H=H':=by
 refine acalls_ofN rfl za206 rfl ?_
 have l1:=row_ld 1 0 r1 rfl rfl
 have l2:=row_ld 1 0 r2 rfl rfl
 by_cases c1:lo≤x
 ·by_cases c2:x≤hi
  ·simp only[c206,sA,sB,seval,l1,l2,c1,c2]; exact⟨by simp[inI,c1,c2],tt⟩
  ·simp only[c206,sA,sB,seval,l1,l2,c1,c2]; exact⟨by simp[inI,c2],tt⟩
 ·simp only[c206,sA,sB,seval,l1,l2,c1]; exact⟨by simp[inI,c1],tt⟩
theorem within_spec{H:AHeap}{v:V}{lo hi:Int}:ACalls Tryz.prog noNat 133 [.agg (vcL v),.int .i64 lo,.int .i64 hi] H fun r H'=>r=.bool (inV v lo hi)∧Ext H.next H H':=by
 refine acalls_ofN rfl za133 rfl ?_
 obtain⟨H1,m1,r1,n1,k1⟩:=row_newL H (vcL v) (n:=3) rfl
 obtain⟨H2,m2,r2,n2,k2⟩:=row_newL H1 [.int .i64 lo] (n:=1) rfl
 obtain⟨H3,m3,r3,n3,k3⟩:=row_newL H2 [.int .i64 hi] (n:=1) rfl
 have q1:Row H3 H.next (vcL v):=(r1.same (k2 _ om)).same (k3 _ om)
 have q2:Row H3 H1.next [.int .i64 lo]:=r2.same (k3 _ om)
 have e:Ext H.next H H3:=⟨om,fun b hb=>by rw[k3 b om,k2 b om,k1 b om]⟩
 have l0:=row_ld 3 0 q1 rfl rfl
 have l1:=row_ld 3 1 q1 rfl rfl
 have l2:=row_ld 3 2 q1 rfl rfl
 have ca:(AVal.agg (vcL v)).cells=vcL v:=rfl
 have c1:(AVal.int .i64 lo).cells=[.int .i64 lo]:=rfl
 have c2:(AVal.int .i64 hi).cells=[.int .i64 hi]:=rfl
 simp only[c133,sA,sB,seval,ca,c1,c2,m1,m2,m3,fldA,l0]
 refine (in1_spec q2 r3).mono ?_
 rintro _ _ ⟨rfl,rfl⟩
 unfold inV
 cases h0:inI v.x lo hi with
 | false=>simp only[sA,sB,seval]; exact⟨rfl,e⟩
 | true=>
  simp only[sA,sB,seval,fldA,l1]
  refine (in1_spec q2 r3).mono ?_
  rintro _ _ ⟨rfl,rfl⟩
  cases h1:inI v.y lo hi with
  | false=>simp only[sA,sB,seval]; exact⟨rfl,e⟩
  | true=>
   simp only[sA,sB,seval,fldA,l2]
   refine (in1_spec q2 r3).mono ?_
   rintro _ _ ⟨rfl,rfl⟩
   simp only[sA,sB,seval]
   exact⟨rfl,e⟩
theorem far_spec{H:AHeap}{v:V}:ACalls Tryz.prog noNat 132 [.agg (vcL v)] H fun r H'=>r=.bool (farB v)∧Ext H.next H H':=by
 refine acalls_ofN rfl za132 rfl ?_
 obtain⟨H1,m1,r1,n1,k1⟩:=row_newL H (vcL v) (n:=3) rfl
 have ca:(AVal.agg (vcL v)).cells=vcL v:=rfl
 have l0:=row_ldK 3 0 3 r1 rfl (xs:=vcL v) om rfl
 simp only[c132,sA,sB,seval,ca,m1,l0]
 refine (within_spec (v:=v)).mono ?_
 rintro _ H2 ⟨rfl,e⟩
 simp only[sA,sB,seval]
 exact⟨rfl,(ext_new n1 k1).trans (e.less om)⟩
theorem nameC_iff{c:UInt8}:nameC c=true↔(((97≤c.toNat∧c.toNat≤122)∨(65≤c.toNat∧c.toNat≤90))∨((48≤c.toNat∧c.toNat≤57)∨(c.toNat=95∨(c.toNat=45∨c.toNat=46)))):=by
 simp only[nameC,Bool.or_eq_true,Bool.and_eq_true,decide_eq_true_eq]
theorem zname_spec{H:AHeap}{s:Bs}:ACalls Tryz.prog noNat 136 [.str s] H fun r H'=>r=.bool (nameB s)∧H=H':=by
 refine acalls_ofN rfl za136 rfl ?_
 by_cases c1:s.length<1
 ·have c1':(s.length:Int)<1:=om
  simp only[c136,sA,sB,seval,c1']
  exact⟨by simp only[nameB,decide_eq_false (show ¬1≤s.length by omega),Bool.false_and],tt⟩
 have c1':¬(s.length:Int)<1:=om
 by_cases c2:40<s.length
 ·have c2':(40:Int)<(s.length:Int):=om
  simp only[c136,sA,sB,seval,c1',c2']
  exact⟨by simp only[nameB,decide_eq_false (show ¬s.length≤40 by omega),Bool.false_and,Bool.and_false],tt⟩
 have c2':¬(40:Int)<(s.length:Int):=om
 have e0:nameB s=s.all nameC:=by simp only[nameB,decide_eq_true (show 1≤s.length by omega),decide_eq_true (show s.length≤40 by omega),Bool.true_and]
 simp only[c136,sA,sB,seval,c1',c2']
 refine aw_loop (fun m (T:Env) H'=>∃i:Nat,H=H'∧i≤s.length∧m=s.length-i∧(s.take i).all nameC=true∧T 0=.str s∧T 15=.int .i64 (s.length:Int)∧T 16=.int .i64 (i:Int)) s.length
  ⟨0,rfl,om,om,rfl,by simp only[sA,sB,seval],by simp only[sA,sB,seval],by simp only[sA,sB,seval]⟩ ?_
 rintro m T _ ⟨i,rfl,hi,rfl,ha,g0,g15,g16⟩
 by_cases hlt:i<s.length
 ·have hlt':(i:Int)<(s.length:Int):=om
  obtain⟨c,hc⟩:=isSome_of_lt hlt
  have w1:=wrap1 i om
  have hat:(s.take (i+1)).all nameC=nameC c:=by
   rw[List.take_add_one,hc,List.all_append,ha]; simp
  have hc255:=c.toNat_lt
  have hno:nameC c=false→s.all nameC=false:=by
   intro h
   have:=List.take_append_drop (i+1) s
   rw[← this,List.all_append,hat,h,Bool.false_and]
  have hR:(c.toNat<45)∨(c.toNat=45)∨(c.toNat=46)∨(c.toNat=47)∨(48≤c.toNat∧c.toNat≤57)∨(58≤c.toNat∧c.toNat≤64)∨(65≤c.toNat∧c.toNat≤90)∨(91≤c.toNat∧c.toNat≤94)∨(c.toNat=95)∨(c.toNat=96)∨(97≤c.toNat∧c.toNat≤122)∨(123≤c.toNat):=om
  rcases hR with h | h | h | h | h | h | h | h | h | h | h | h
  ·have f0:¬(97:Int)≤(c.toNat:Int):=om
   have f1:(c.toNat:Int)≤122:=om
   have f2:¬(65:Int)≤(c.toNat:Int):=om
   have f3:(c.toNat:Int)≤90:=om
   have f4:(c.toNat:Int)<48:=om
   have f5:¬(57:Int)<(c.toNat:Int):=om
   have f6:¬(c.toNat:Int)=95:=om
   have f7:¬(c.toNat:Int)=45:=om
   have f8:¬(c.toNat:Int)=46:=om
   simp only[sA,sB,seval,g0,g15,g16,hlt',str_idx hc,w1,f0,f1,f2,f3,f4,f5,f6,f7,f8]
   exact⟨by rw[e0,hno (Bool.eq_false_iff.2 fun h'=>by have:=nameC_iff.1 h'; omega)],tt⟩
  ·have f0:¬(97:Int)≤(c.toNat:Int):=om
   have f1:(c.toNat:Int)≤122:=om
   have f2:¬(65:Int)≤(c.toNat:Int):=om
   have f3:(c.toNat:Int)≤90:=om
   have f4:(c.toNat:Int)<48:=om
   have f5:¬(57:Int)<(c.toNat:Int):=om
   have f6:¬(c.toNat:Int)=95:=om
   have f7:(c.toNat:Int)=45:=om
   have f8:¬(c.toNat:Int)=46:=om
   simp only[sA,sB,seval,g0,g15,g16,hlt',str_idx hc,w1,f0,f1,f2,f3,f4,f5,f6,f7,f8]
   exact⟨_,om,i+1,tt,om,rfl,by rw[hat]; exact nameC_iff.2 om,tt,tt,tt⟩
  ·have f0:¬(97:Int)≤(c.toNat:Int):=om
   have f1:(c.toNat:Int)≤122:=om
   have f2:¬(65:Int)≤(c.toNat:Int):=om
   have f3:(c.toNat:Int)≤90:=om
   have f4:(c.toNat:Int)<48:=om
   have f5:¬(57:Int)<(c.toNat:Int):=om
   have f6:¬(c.toNat:Int)=95:=om
   have f7:¬(c.toNat:Int)=45:=om
   have f8:(c.toNat:Int)=46:=om
   simp only[sA,sB,seval,g0,g15,g16,hlt',str_idx hc,w1,f0,f1,f2,f3,f4,f5,f6,f7,f8]
   exact⟨_,om,i+1,tt,om,rfl,by rw[hat]; exact nameC_iff.2 om,tt,tt,tt⟩
  ·have f0:¬(97:Int)≤(c.toNat:Int):=om
   have f1:(c.toNat:Int)≤122:=om
   have f2:¬(65:Int)≤(c.toNat:Int):=om
   have f3:(c.toNat:Int)≤90:=om
   have f4:(c.toNat:Int)<48:=om
   have f5:¬(57:Int)<(c.toNat:Int):=om
   have f6:¬(c.toNat:Int)=95:=om
   have f7:¬(c.toNat:Int)=45:=om
   have f8:¬(c.toNat:Int)=46:=om
   simp only[sA,sB,seval,g0,g15,g16,hlt',str_idx hc,w1,f0,f1,f2,f3,f4,f5,f6,f7,f8]
   exact⟨by rw[e0,hno (Bool.eq_false_iff.2 fun h'=>by have:=nameC_iff.1 h'; omega)],tt⟩
  ·have f0:¬(97:Int)≤(c.toNat:Int):=om
   have f1:(c.toNat:Int)≤122:=om
   have f2:¬(65:Int)≤(c.toNat:Int):=om
   have f3:(c.toNat:Int)≤90:=om
   have f4:¬(c.toNat:Int)<48:=om
   have f5:¬(57:Int)<(c.toNat:Int):=om
   have f6:¬(c.toNat:Int)=95:=om
   have f7:¬(c.toNat:Int)=45:=om
   have f8:¬(c.toNat:Int)=46:=om
   simp only[sA,sB,seval,g0,g15,g16,hlt',str_idx hc,w1,f0,f1,f2,f3,f4,f5,f6,f7,f8]
   exact⟨_,om,i+1,tt,om,rfl,by rw[hat]; exact nameC_iff.2 om,tt,tt,tt⟩
  ·have f0:¬(97:Int)≤(c.toNat:Int):=om
   have f1:(c.toNat:Int)≤122:=om
   have f2:¬(65:Int)≤(c.toNat:Int):=om
   have f3:(c.toNat:Int)≤90:=om
   have f4:¬(c.toNat:Int)<48:=om
   have f5:(57:Int)<(c.toNat:Int):=om
   have f6:¬(c.toNat:Int)=95:=om
   have f7:¬(c.toNat:Int)=45:=om
   have f8:¬(c.toNat:Int)=46:=om
   simp only[sA,sB,seval,g0,g15,g16,hlt',str_idx hc,w1,f0,f1,f2,f3,f4,f5,f6,f7,f8]
   exact⟨by rw[e0,hno (Bool.eq_false_iff.2 fun h'=>by have:=nameC_iff.1 h'; omega)],tt⟩
  ·have f0:¬(97:Int)≤(c.toNat:Int):=om
   have f1:(c.toNat:Int)≤122:=om
   have f2:(65:Int)≤(c.toNat:Int):=om
   have f3:(c.toNat:Int)≤90:=om
   have f4:¬(c.toNat:Int)<48:=om
   have f5:(57:Int)<(c.toNat:Int):=om
   have f6:¬(c.toNat:Int)=95:=om
   have f7:¬(c.toNat:Int)=45:=om
   have f8:¬(c.toNat:Int)=46:=om
   simp only[sA,sB,seval,g0,g15,g16,hlt',str_idx hc,w1,f0,f1,f2,f3,f4,f5,f6,f7,f8]
   exact⟨_,om,i+1,tt,om,rfl,by rw[hat]; exact nameC_iff.2 om,tt,tt,tt⟩
  ·have f0:¬(97:Int)≤(c.toNat:Int):=om
   have f1:(c.toNat:Int)≤122:=om
   have f2:(65:Int)≤(c.toNat:Int):=om
   have f3:¬(c.toNat:Int)≤90:=om
   have f4:¬(c.toNat:Int)<48:=om
   have f5:(57:Int)<(c.toNat:Int):=om
   have f6:¬(c.toNat:Int)=95:=om
   have f7:¬(c.toNat:Int)=45:=om
   have f8:¬(c.toNat:Int)=46:=om
   simp only[sA,sB,seval,g0,g15,g16,hlt',str_idx hc,w1,f0,f1,f2,f3,f4,f5,f6,f7,f8]
   exact⟨by rw[e0,hno (Bool.eq_false_iff.2 fun h'=>by have:=nameC_iff.1 h'; omega)],tt⟩
  ·have f0:¬(97:Int)≤(c.toNat:Int):=om
   have f1:(c.toNat:Int)≤122:=om
   have f2:(65:Int)≤(c.toNat:Int):=om
   have f3:¬(c.toNat:Int)≤90:=om
   have f4:¬(c.toNat:Int)<48:=om
   have f5:(57:Int)<(c.toNat:Int):=om
   have f6:(c.toNat:Int)=95:=om
   have f7:¬(c.toNat:Int)=45:=om
   have f8:¬(c.toNat:Int)=46:=om
   simp only[sA,sB,seval,g0,g15,g16,hlt',str_idx hc,w1,f0,f1,f2,f3,f4,f5,f6,f7,f8]
   exact⟨_,om,i+1,tt,om,rfl,by rw[hat]; exact nameC_iff.2 om,tt,tt,tt⟩
  ·have f0:¬(97:Int)≤(c.toNat:Int):=om
   have f1:(c.toNat:Int)≤122:=om
   have f2:(65:Int)≤(c.toNat:Int):=om
   have f3:¬(c.toNat:Int)≤90:=om
   have f4:¬(c.toNat:Int)<48:=om
   have f5:(57:Int)<(c.toNat:Int):=om
   have f6:¬(c.toNat:Int)=95:=om
   have f7:¬(c.toNat:Int)=45:=om
   have f8:¬(c.toNat:Int)=46:=om
   simp only[sA,sB,seval,g0,g15,g16,hlt',str_idx hc,w1,f0,f1,f2,f3,f4,f5,f6,f7,f8]
   exact⟨by rw[e0,hno (Bool.eq_false_iff.2 fun h'=>by have:=nameC_iff.1 h'; omega)],tt⟩
  ·have f0:(97:Int)≤(c.toNat:Int):=om
   have f1:(c.toNat:Int)≤122:=om
   have f2:(65:Int)≤(c.toNat:Int):=om
   have f3:¬(c.toNat:Int)≤90:=om
   have f4:¬(c.toNat:Int)<48:=om
   have f5:(57:Int)<(c.toNat:Int):=om
   have f6:¬(c.toNat:Int)=95:=om
   have f7:¬(c.toNat:Int)=45:=om
   have f8:¬(c.toNat:Int)=46:=om
   simp only[sA,sB,seval,g0,g15,g16,hlt',str_idx hc,w1,f0,f1,f2,f3,f4,f5,f6,f7,f8]
   exact⟨_,om,i+1,tt,om,rfl,by rw[hat]; exact nameC_iff.2 om,tt,tt,tt⟩
  ·have f0:(97:Int)≤(c.toNat:Int):=om
   have f1:¬(c.toNat:Int)≤122:=om
   have f2:(65:Int)≤(c.toNat:Int):=om
   have f3:¬(c.toNat:Int)≤90:=om
   have f4:¬(c.toNat:Int)<48:=om
   have f5:(57:Int)<(c.toNat:Int):=om
   have f6:¬(c.toNat:Int)=95:=om
   have f7:¬(c.toNat:Int)=45:=om
   have f8:¬(c.toNat:Int)=46:=om
   simp only[sA,sB,seval,g0,g15,g16,hlt',str_idx hc,w1,f0,f1,f2,f3,f4,f5,f6,f7,f8]
   exact⟨by rw[e0,hno (Bool.eq_false_iff.2 fun h'=>by have:=nameC_iff.1 h'; omega)],tt⟩
 ·have hlt':¬(i:Int)<(s.length:Int):=om
  simp only[sA,sB,seval,g15,g16,hlt']
  rw[List.take_of_length_le om]at ha
  exact⟨by rw[e0,ha],tt⟩
open Go.Abs Go.Abs.S
theorem eqS_vc(v w:V):aPf (.eqS false [(0,.int),(1,.int),(2,.int)]) [.agg (vcL v),.agg (vcL w)]=some (.bool (decide (v.x=w.x)&&(decide (v.y=w.y)&&decide (v.z=w.z)))):=by
 have e:∀a b:Int,(a==b)=decide (a=b):=fun a b=>by by_cases h:a=b <;> simp[h]
 by_cases h1:v.x=w.x <;> by_cases h2:v.y=w.y <;> by_cases h3:v.z=w.z <;> simp[aPf,vcL,aEqSs,aEqFs,fEq,fEqI,fEqS,eqF_eq,e,h1,h2,h3]
theorem build_v0:aBuild [.int .i64 0,.int .i64 0,.int .i64 0] []=some (.agg (vcL ⟨0,0,0⟩)):=rfl
theorem matB_12{m:Mt}(h:m.k=1∨m.k=2):matB m=(decide (m.sh=[])&&(decide (m.tx=[])&&inV m.c 0 4294967296)):=by rw[matB,if_pos h]
theorem matB_3{m:Mt}(h:m.k=3):matB m=(decide (m.sh=[])&&(decide (m.tx=[])&&inV m.c 0 274877906944)):=by rw[matB,if_neg om,if_pos h]
theorem matB_4{m:Mt}(h:m.k=4):matB m=(noV m.c&&(nameB m.sh&&(decide (m.tx=[])||nameB m.tx))):=by rw[matB,if_neg om,if_neg om,if_pos h]
theorem matB_no{m:Mt}(h:¬(m.k=1∨m.k=2))(h3:m.k≠3)(h4:m.k≠4):matB m=false:=by rw[matB,if_neg h,if_neg h3,if_neg h4]
theorem zmat_spec{H:AHeap}{m:Mt}:ACalls Tryz.prog noNat 134 [.agg (mtL m)] H fun r H'=>r=.bool (matB m)∧Ext H.next H H':=by
 refine acalls_ofN rfl za134 rfl ?_
 obtain⟨H1,m1,r1,n1,k1⟩:=row_newL H (mtL m) (n:=6) rfl
 have e:=ext_new n1 k1
 have ca:(AVal.agg (mtL m)).cells=mtL m:=rfl
 have l0:=row_ld 6 0 r1 rfl rfl
 have l4:=row_ld 6 4 r1 rfl rfl
 have l5:=row_ld 6 5 r1 rfl rfl
 have lv:=row_ldK 6 1 3 r1 rfl (xs:=vcL m.c) om rfl
 have col:∀{lo hi:Int} {K:AVal→AHeap→Prop},(∀H',Ext H.next H H'→K (.bool (inV m.c lo hi)) H')→ACalls Tryz.prog noNat 133 [.agg (vcL m.c),.int .i64 lo,.int .i64 hi] H1 K:=fun h=>(within_spec (v:=m.c)).mono fun r H' ⟨a,b⟩=>by subst a; exact h H' (e.trans (b.less om))
 by_cases k12:m.k=1∨m.k=2
 ·rw[matB_12 k12]
  have hk:(((m.k:Nat):Int)=1∧¬((m.k:Nat):Int)=2)∨(¬((m.k:Nat):Int)=1∧((m.k:Nat):Int)=2):=om
  rcases hk with⟨a1,a2⟩ | ⟨a1,a2⟩
  ·by_cases c1:m.sh=[]
   ·by_cases c2:m.tx=[]
    ·simp only[c134,sA,sB,seval,ca,m1,fldA,l0,a1,l4,l5,lv,c1,c2]
     refine col fun H' e'=>?_
     simp only[sA,sB,seval]; exact⟨tt,e'⟩
    ·simp only[c134,sA,sB,seval,ca,m1,fldA,l0,a1,l4,l5,lv,c1,c2]
     exact⟨tt,e⟩
   ·simp only[c134,sA,sB,seval,ca,m1,fldA,l0,a1,l4,l5,lv,c1]
    exact⟨tt,e⟩
  ·by_cases c1:m.sh=[]
   ·by_cases c2:m.tx=[]
    ·simp only[c134,sA,sB,seval,ca,m1,fldA,l0,a1,a2,l4,l5,lv,c1,c2]
     refine col fun H' e'=>?_
     simp only[sA,sB,seval]; exact⟨tt,e'⟩
    ·simp only[c134,sA,sB,seval,ca,m1,fldA,l0,a1,a2,l4,l5,lv,c1,c2]
     exact⟨tt,e⟩
   ·simp only[c134,sA,sB,seval,ca,m1,fldA,l0,a1,a2,l4,l5,lv,c1]
    exact⟨tt,e⟩
 have a1:¬((m.k:Nat):Int)=1:=om
 have a2:¬((m.k:Nat):Int)=2:=om
 by_cases k3:m.k=3
 ·rw[matB_3 k3]
  have a3:((m.k:Nat):Int)=3:=om
  by_cases c1:m.sh=[]
  ·by_cases c2:m.tx=[]
   ·simp only[c134,sA,sB,seval,ca,m1,fldA,l0,a1,a2,a3,l4,l5,lv,c1,c2]
    refine col fun H' e'=>?_
    simp only[sA,sB,seval]; exact⟨tt,e'⟩
   ·simp only[c134,sA,sB,seval,ca,m1,fldA,l0,a1,a2,a3,l4,l5,lv,c1,c2]
    exact⟨tt,e⟩
  ·simp only[c134,sA,sB,seval,ca,m1,fldA,l0,a1,a2,a3,l4,l5,lv,c1]
   exact⟨tt,e⟩
 have a3:¬((m.k:Nat):Int)=3:=om
 by_cases k4:m.k=4
 ·rw[matB_4 k4]
  have a4:((m.k:Nat):Int)=4:=om
  have ev:aPf (.eqS false [(0,.int),(1,.int),(2,.int)]) [.agg (vcL m.c),.agg (vcL ⟨0,0,0⟩)]=some (.bool (noV m.c)):=eqS_vc _ _
  simp only[c134,sA,sB,seval,ca,m1,fldA,l0,a1,a2,a3,a4,lv,build_v0,ev]
  cases hv:noV m.c with
  | false=>simp only[sA,sB,seval]; exact⟨tt,e⟩
  | true=>
   simp only[sA,sB,seval,fldA,l4]
   refine zname_spec.mono ?_
   rintro _ _ ⟨rfl,rfl⟩
   cases hn:nameB m.sh with
   | false=>simp only[sA,sB,seval]; exact⟨tt,e⟩
   | true=>
    by_cases c2:m.tx=[]
    ·simp only[sA,sB,seval,fldA,l5,c2]; exact⟨tt,e⟩
    ·simp only[sA,sB,seval,fldA,l5,c2]
     refine zname_spec.mono ?_
     rintro _ _ ⟨rfl,rfl⟩
     simp only[sA,sB,seval]; exact⟨by simp[c2],e⟩
 ·rw[matB_no k12 k3 k4]
  have a4:¬((m.k:Nat):Int)=4:=om
  simp only[c134,sA,sB,seval,ca,m1,fldA,l0,a1,a2,a3,a4]
  exact⟨tt,e⟩
theorem rnd_spec{H:AHeap}{b:Rd}:ACalls Tryz.prog noNat 135 [.agg (rdL b)] H fun r H'=>r=.bool (rndB b)∧Ext H.next H H':=by
 refine acalls_ofN rfl za135 rfl ?_
 obtain⟨H1,m1,r1,n1,k1⟩:=row_newL H (rdL b) (n:=5) rfl
 have e:=ext_new n1 k1
 have ca:(AVal.agg (rdL b)).cells=rdL b:=rfl
 have lv:=row_ldK 5 0 3 r1 rfl (xs:=vcL b.c) om rfl
 simp only[c135,sA,sB,seval,ca,m1,fldA,lv]
 refine (far_spec (v:=b.c)).mono ?_
 rintro _ H2 ⟨rfl,e2⟩
 have l3:=row_ld 5 3 (r1.up e2 om) rfl rfl
 have e':=e.trans (e2.less om)
 unfold rndB
 cases hf:farB b.c with
 | false=>simp only[sA,sB,seval]; exact⟨tt,e'⟩
 | true=>
  by_cases c1:0<b.r
  ·by_cases c2:b.r≤42949672960000
   ·simp only[sA,sB,seval,fldA,l3,c1,c2]; exact⟨tt,e'⟩
   ·simp only[sA,sB,seval,fldA,l3,c1,c2]; exact⟨tt,e'⟩
  ·simp only[sA,sB,seval,fldA,l3,c1]; exact⟨tt,e'⟩
structure ScIn(P:Nat→Prop)(H:AHeap)(s:Sc)(vm vb vu:AVal):Prop where
 m:SlK P H 6 vm s.ms.length (s.ms.flatMap mtL)
 b:SlK P H 5 vb s.bs.length (s.bs.flatMap rdL)
 u:SlK P H 5 vu s.us.length (s.us.flatMap usL)
theorem ScIn.mono{P Q:Nat→Prop}{H H':AHeap}{s:Sc}{vm vb vu:AVal}(h:ScIn P H s vm vb vu)(q:∀b,P b→Q b∧H'.get b=H.get b):ScIn Q H' s vm vb vu:=⟨h.m.mono q,h.b.mono q,h.u.mono q⟩
theorem ScIn.up{n:Nat}{H H':AHeap}{s:Sc}{vm vb vu:AVal}(h:ScIn (·<n) H s vm vb vu)(e:Ext n H H'):ScIn (·<n) H' s vm vb vu:=h.mono fun b hb=>⟨hb,e.old b hb⟩
theorem zhas_spec{H:AHeap}{b:Nat}{s:Sc}{vm vb vu:AVal}{k:Nat}(r:Row H b (scL s vm vb vu))(hm:aLenK false vm=some (.int .i64 (k:Int))){x:Int} :
  ACalls Tryz.prog noNat 207 [.int .i64 x,cellR b 21 0] H fun v H'=>v=.bool (hasB k x)∧H=H':=by
 refine acalls_ofN rfl za207 rfl ?_
 have l1:=row_ld 21 18 r rfl rfl
 by_cases c1:0≤x
 ·by_cases c2:x<k
  ·simp only[c207,sA,sB,seval,fldA,l1,hm,c1,c2]; exact⟨by simp[hasB,c1,c2],tt⟩
  ·simp only[c207,sA,sB,seval,fldA,l1,hm,c1,c2]; exact⟨by simp[hasB,c2],tt⟩
 ·simp only[c207,sA,sB,seval,c1]; exact⟨by simp[hasB,c1],tt⟩
theorem hasm_spec{H:AHeap}{s:Sc}{vm vb vu:AVal}(I:ScIn (·<H.next) H s vm vb vu)(hb:s.bs.length≤4611686018427387904)(hu:s.us.length≤4611686018427387904) :
  ACalls Tryz.prog noNat 137 [.agg (scL s vm vb vu)] H fun r H'=>r=.bool (allM s)∧Ext H.next H H':=by
 refine acalls_ofN rfl za137 rfl ?_
 obtain⟨H1,m1,r1,n1,k1⟩:=row_newL H (scL s vm vb vu) (n:=21) rfl
 have e1:=ext_new n1 k1
 have ca:(AVal.agg (scL s vm vb vu)).cells=scL s vm vb vu:=rfl
 have l19:=row_ld 21 19 r1 rfl rfl
 have lb:=I.b.len
 have lm:=I.m.len
 have lu:=I.u.len
 have rb:∀x:Rd,(rdL x).length=5:=fun _=>rfl
 have ru:∀x:Us,(usL x).length=5:=fun _=>rfl
 simp only[c137,sA,sB,seval,ca,m1,fldA,l19,lb]
 refine aw_cut (fun (T:Env) H'=>Ext (H.next+1) H1 H'∧s.bs.all (fun b=>hasB s.ms.length b.m)=true∧T 1=cellR H.next 21 0∧T 3=.func (.func 207) [] [cellR H.next 21 0]) (calls_mono _ _) ?_ ?_
 ·refine aw_loop (fun m (T:Env) H'=>∃i:Nat,Ext (H.next+1) H1 H'∧i≤s.bs.length∧m=s.bs.length-i∧(s.bs.take i).all (fun b=>hasB s.ms.length b.m)=true∧T 1=cellR H.next 21 0∧T 3=.func (.func 207) [] [cellR H.next 21 0]∧T 10=vb∧T 11=.int .i64 (s.bs.length:Int)∧T 12=.int .i64 (i:Int)) s.bs.length
   ⟨0,Ext.refl _ _,om,om,rfl,by simp only[sA,sB,seval],by simp only[sA,sB,seval],by simp only[sA,sB,seval],by simp only[sA,sB,seval],by simp only[sA,sB,seval]⟩ ?_
  rintro m T H2 ⟨i,e2,hi,rfl,ha,g1,g3,g10,g11,g12⟩
  by_cases hlt:i<s.bs.length
  ·have hlt':(i:Int)<(s.bs.length:Int):=om
   obtain⟨x,hx⟩:=isSome_of_lt hlt
   have w1:=wrap1 i om
   have I2:=I.up (e1.trans (e2.less om))
   have ix:=I2.b.idx hlt
   have lx:=I2.b.loadE rb hx
   obtain⟨H3,m3,r3,n3,k3⟩:=row_newL H2 [.int .i64 0,.int .i64 0,.int .i64 0,.int .i64 0,.int .i64 0] (n:=5) rfl
   obtain⟨H4,m4,r4,n4,k4⟩:=row_storeN (n:=5) r3 rfl (xs:=rdL x) rfl rfl
   have hn2:=e2.next
   have e4:Ext (H.next+1) H1 H4:=⟨om,fun b hb=>by rw[k4 b om,k3 b om,e2.old b hb]⟩
   have rr:Row H4 H.next (scL s vm vb vu):=r1.up e4 om
   have l4:=row_ld 5 4 r4 rfl rfl
   simp only[sA,sB,seval,g10,g11,g12,g3,hlt',ix,lx,m3,m4,fldA,l4]
   refine (zhas_spec rr lm).mono ?_
   rintro _ _ ⟨rfl,rfl⟩
   cases hh:hasB s.ms.length x.m with
   | false=>
    simp only[sA,sB,seval]
    exact⟨by simp only[allM,all_no (p:=fun b:Rd=>hasB s.ms.length b.m) hx hh,Bool.false_and],e1.trans (e4.less om)⟩
   | true=>
    simp only[sA,sB,seval,g12,w1]
    exact⟨_,om,i+1,e4,om,rfl,by rw[all_take hx ha]; exact hh,g1,g3,g10,g11,tt⟩
  ·have hlt':¬(i:Int)<(s.bs.length:Int):=om
   simp only[sA,sB,seval,g11,g12,hlt']
   rw[List.take_of_length_le om]at ha
   exact⟨e2,ha,g1,g3⟩
 rintro T H2 ⟨e2,ha,g1,g3⟩
 have hn2:=e2.next
 have rr:=r1.up e2 om
 have l20:=row_ld 21 20 rr rfl rfl
 simp only[sA,sB,seval,g1,fldA,l20,lu]
 refine aw_loop (fun m (T:Env) H'=>∃i:Nat,Ext (H.next+1) H1 H'∧i≤s.us.length∧m=s.us.length-i∧(s.us.take i).all (fun b=>hasB s.ms.length b.m)=true∧T 3=.func (.func 207) [] [cellR H.next 21 0]∧T 23=vu∧T 24=.int .i64 (s.us.length:Int)∧T 25=.int .i64 (i:Int)) s.us.length
  ⟨0,e2,om,om,rfl,by simp only[sA,sB,seval,g3],by simp only[sA,sB,seval],by simp only[sA,sB,seval],by simp only[sA,sB,seval]⟩ ?_
 rintro m T H2 ⟨i,e2,hi,rfl,hau,g3,g10,g11,g12⟩
 by_cases hlt:i<s.us.length
 ·have hlt':(i:Int)<(s.us.length:Int):=om
  obtain⟨x,hx⟩:=isSome_of_lt hlt
  have w1:=wrap1 i om
  have I2:=I.up (e1.trans (e2.less om))
  have ix:=I2.u.idx hlt
  have lx:=I2.u.loadE ru hx
  obtain⟨H3,m3,r3,n3,k3⟩:=row_newL H2 [.str [],.int .i64 0,.int .i64 0,.int .i64 0,.int .i64 0] (n:=5) rfl
  obtain⟨H4,m4,r4,n4,k4⟩:=row_storeN (n:=5) r3 rfl (xs:=usL x) rfl rfl
  have hn2:=e2.next
  have e4:Ext (H.next+1) H1 H4:=⟨om,fun b hb=>by rw[k4 b om,k3 b om,e2.old b hb]⟩
  have rr:Row H4 H.next (scL s vm vb vu):=r1.up e4 om
  have l4:=row_ld 5 4 r4 rfl rfl
  simp only[sA,sB,seval,g10,g11,g12,g3,hlt',ix,lx,m3,m4,fldA,l4]
  refine (zhas_spec rr lm).mono ?_
  rintro _ _ ⟨rfl,rfl⟩
  cases hh:hasB s.ms.length x.m with
  | false=>
   simp only[sA,sB,seval]
   exact⟨by simp only[allM,all_no (p:=fun b:Us=>hasB s.ms.length b.m) hx hh,Bool.and_false],e1.trans (e4.less om)⟩
  | true=>
   simp only[sA,sB,seval,g12,w1]
   exact⟨_,om,i+1,e4,om,rfl,by rw[all_take hx hau]; exact hh,g3,g10,g11,tt⟩
 ·have hlt':¬(i:Int)<(s.us.length:Int):=om
  simp only[sA,sB,seval,g11,g12,hlt']
  rw[List.take_of_length_le om]at hau
  exact⟨by simp only[allM,ha,hau,Bool.and_self],e1.trans (e2.less om)⟩
open Go.Abs Go.Abs.S
theorem chk1_spec{H:AHeap}{x lo hi:Int}:ACalls Tryz.prog noNat 131 [.int .i64 x,.int .i64 lo,.int .i64 hi] H fun v H'=>v=.bool (inI x lo hi)∧H=H':=by
 refine acalls_ofN rfl za131 rfl ?_
 by_cases c1:lo≤x
 ·by_cases c2:x≤hi
  ·simp only[c131,sA,sB,seval,c1,c2]; exact⟨by simp[inI,c1,c2],tt⟩
  ·simp only[c131,sA,sB,seval,c1,c2]; exact⟨by simp[inI,c2],tt⟩
 ·simp only[c131,sA,sB,seval,c1]; exact⟨by simp[inI,c1],tt⟩
def errI(b:Bool):AVal:=.int .i64 (bif b then 0 else 130)
set_option maxHeartbeats 1000000 in
theorem chk_spec{H:AHeap}{s:Sc}{vm vb vu:AVal}(I:ScIn (·<H.next) H s vm vb vu) :
  ACalls Tryz.prog noNat 83 [.agg (scL s vm vb vu)] H fun r H'=>r=errI (checkB s)∧Ext H.next H H':=by
 refine acalls_ofN rfl za83 rfl ?_
 obtain⟨H1,m1,r1,n1,k1⟩:=row_newL H (scL s vm vb vu) (n:=21) rfl
 have e1:=ext_new n1 k1
 have ca:(AVal.agg (scL s vm vb vu)).cells=scL s vm vb vu:=rfl
 have lb:=I.b.len
 have lm:=I.m.len
 have lu:=I.u.len
 have rm:∀x:Mt,(mtL x).length=6:=fun _=>rfl
 have rb:∀x:Rd,(rdL x).length=5:=fun _=>rfl
 have ru:∀x:Us,(usL x).length=5:=fun _=>rfl
 have L1:=row_ld 21 0 r1 rfl rfl
 have L2:=row_ld 21 1 r1 rfl rfl
 have L3:=row_ld 21 2 r1 rfl rfl
 have L4:=row_ld 21 3 r1 rfl rfl
 have L5:=row_ldK 21 5 3 r1 rfl (xs:=vcL s.eye) om rfl
 unfold checkB headB wideB
 simp only[c83,sA,sB,seval,ca,m1,fldA,L1]
 refine chk1_spec.mono ?_
 rintro _ _ ⟨rfl,rfl⟩
 cases h1:inI s.w 1 1024
 ·simp only[sA,sB,seval]; exact⟨rfl,e1⟩
 simp only[sA,sB,seval,fldA,L2]
 refine chk1_spec.mono ?_
 rintro _ _ ⟨rfl,rfl⟩
 cases h2:inI s.h 1 1024
 ·simp only[sA,sB,seval]; exact⟨rfl,e1⟩
 simp only[sA,sB,seval,fldA,L3]
 refine chk1_spec.mono ?_
 rintro _ _ ⟨rfl,rfl⟩
 cases h3:inI s.sm 1 64
 ·simp only[sA,sB,seval]; exact⟨rfl,e1⟩
 simp only[sA,sB,seval,fldA,L4]
 refine chk1_spec.mono ?_
 rintro _ _ ⟨rfl,rfl⟩
 cases h4:inI s.bo 0 8
 ·simp only[sA,sB,seval]; exact⟨rfl,e1⟩
 simp only[sA,sB,seval,fldA,L5]
 refine (far_spec (v:=s.eye)).mono ?_
 rintro _ K1 ⟨rfl,x1⟩
 have r2:=r1.up x1 om
 have L6:=row_ldK 21 8 3 r2 rfl (xs:=vcL s.at_) om rfl
 cases h5:farB s.eye
 ·simp only[sA,sB,seval]; exact⟨rfl,e1.trans (x1.less om)⟩
 simp only[sA,sB,seval,fldA,L6]
 refine (far_spec (v:=s.at_)).mono ?_
 rintro _ K2 ⟨rfl,x2⟩
 have x2:=x1.trans (x2.less x1.next)
 have r2:=r1.up x2 om
 have L7:=row_ldK 21 11 3 r2 rfl (xs:=vcL s.up) om rfl
 cases h6:farB s.at_
 ·simp only[sA,sB,seval]; exact⟨rfl,e1.trans (x2.less om)⟩
 simp only[sA,sB,seval,fldA,L7]
 refine (far_spec (v:=s.up)).mono ?_
 rintro _ K3 ⟨rfl,x3⟩
 have x3:=x2.trans (x3.less x2.next)
 have r3:=r1.up x3 om
 have L8:=row_ld 21 14 r3 rfl rfl
 cases h7:farB s.up
 ·simp only[sA,sB,seval]; exact⟨rfl,e1.trans (x3.less om)⟩
 by_cases h8:0<s.wide
 rotate_left
 ·simp only[sA,sB,seval,fldA,L8,h8]; exact⟨tt,e1.trans (x3.less om)⟩
 by_cases h9:s.wide≤429496729600
 rotate_left
 ·simp only[sA,sB,seval,fldA,L8,h8,h9]; exact⟨tt,e1.trans (x3.less om)⟩
 have L9:=row_ldK 21 15 3 r3 rfl (xs:=vcL s.sky) om rfl
 simp only[sA,sB,seval,fldA,L8,h8,h9,L9]
 refine (within_spec (v:=s.sky)).mono ?_
 rintro _ K4 ⟨rfl,x4⟩
 have x4:=x3.trans (x4.less x3.next)
 have r4:=r1.up x4 om
 have L10:=row_ld 21 18 r4 rfl rfl
 have L11:=row_ld 21 19 r4 rfl rfl
 have L12:=row_ld 21 20 r4 rfl rfl
 have q4:=e1.trans (x4.less om)
 cases h10:inV s.sky 0 274877906944
 ·simp only[sA,sB,seval]; exact⟨rfl,q4⟩
 by_cases h11:s.ms.length≤64
 rotate_left
 ·have h11':¬(s.ms.length:Int)≤64:=om
  simp only[sA,sB,seval,fldA,L10,lm,h11',h11]; exact⟨tt,q4⟩
 have h11':(s.ms.length:Int)≤64:=om
 by_cases h12:s.bs.length≤256
 rotate_left
 ·have h12':¬(s.bs.length:Int)≤256:=om
  simp only[sA,sB,seval,fldA,L10,L11,lm,lb,h11',h12',h11,h12]; exact⟨tt,q4⟩
 have h12':(s.bs.length:Int)≤256:=om
 by_cases h13:s.us.length≤16
 rotate_left
 ·have h13':¬(s.us.length:Int)≤16:=om
  simp only[sA,sB,seval,fldA,L10,L11,L12,lm,lb,lu,h11',h12',h13',h11,h12,h13]; exact⟨tt,q4⟩
 have h13':(s.us.length:Int)≤16:=om
 simp only[sA,sB,seval,fldA,L10,L11,L12,lm,lb,lu,h11',h12',h13',h11,h12,h13]
 refine aw_cut (fun (T:Env) H'=>Ext (H.next+1) H1 H'∧s.ms.all matB=true∧T 1=cellR H.next 21 0) (calls_mono _ _) ?_ ?_
 ·refine aw_loop (fun m (T:Env) H'=>∃i:Nat,Ext (H.next+1) H1 H'∧i≤s.ms.length∧m=s.ms.length-i∧(s.ms.take i).all matB=true∧T 1=cellR H.next 21 0∧T 84=vm∧T 85=.int .i64 (s.ms.length:Int)∧T 86=.int .i64 (i:Int)) s.ms.length
   ⟨0,n1 ▸ x4,om,om,rfl,by simp only[sA,sB,seval],by simp only[sA,sB,seval],by simp only[sA,sB,seval],by simp only[sA,sB,seval]⟩ ?_
  rintro m T H2 ⟨i,e2,hi,rfl,ha,g1,g10,g11,g12⟩
  by_cases hlt:i<s.ms.length
  ·have hlt':(i:Int)<(s.ms.length:Int):=om
   obtain⟨x,hx⟩:=isSome_of_lt hlt
   have w1:=wrap1 i om
   have I2:=I.up (e1.trans (e2.less om))
   have ix:=I2.m.idx hlt
   have lx:=I2.m.loadE rm hx
   obtain⟨H3,m3,r3,n3,k3⟩:=row_newL H2 [.int .u8 0,.int .i64 0,.int .i64 0,.int .i64 0,.str [],.str []] (n:=6) rfl
   obtain⟨H4,m4,r4,n4,k4⟩:=row_storeN (n:=6) r3 rfl (xs:=mtL x) rfl rfl
   have hn2:=e2.next
   have e4:Ext (H.next+1) H1 H4:=⟨om,fun b hb=>by rw[k4 b om,k3 b om,e2.old b hb]⟩
   have l4:=row_ldK 6 0 6 r4 rfl (xs:=mtL x) om rfl
   simp only[sA,sB,seval,g10,g11,g12,hlt',ix,lx,m3,m4,fldA,l4]
   refine zmat_spec.mono ?_
   rintro _ H5 ⟨rfl,e5⟩
   have e5:=e4.trans (e5.less e4.next |>.less om)
   cases hh:matB x with
   | false=>
    simp only[sA,sB,seval]
    exact⟨by rw[all_no hx hh]; rfl,e1.trans (e5.less om)⟩
   | true=>
    simp only[sA,sB,seval,g12,w1]
    exact⟨_,om,i+1,e5,om,rfl,by rw[all_take hx ha]; exact hh,g1,g10,g11,tt⟩
  ·have hlt':¬(i:Int)<(s.ms.length:Int):=om
   simp only[sA,sB,seval,g11,g12,hlt']
   rw[List.take_of_length_le om]at ha
   exact⟨e2,ha,g1⟩
 rintro T H2 ⟨y2,hma,g1⟩
 have hn2:=y2.next
 have rr:=r1.up y2 om
 have l19:=row_ld 21 19 rr rfl rfl
 simp only[sA,sB,seval,g1,fldA,l19,lb]
 refine aw_cut (fun (T:Env) H'=>Ext (H.next+1) H1 H'∧s.bs.all rndB=true∧T 1=cellR H.next 21 0) (calls_mono _ _) ?_ ?_
 ·refine aw_loop (fun m (T:Env) H'=>∃i:Nat,Ext (H.next+1) H1 H'∧i≤s.bs.length∧m=s.bs.length-i∧(s.bs.take i).all rndB=true∧T 1=cellR H.next 21 0∧T 95=vb∧T 96=.int .i64 (s.bs.length:Int)∧T 97=.int .i64 (i:Int)) s.bs.length
   ⟨0,y2,om,om,rfl,by simp only[sA,sB,seval,g1],by simp only[sA,sB,seval],by simp only[sA,sB,seval],by simp only[sA,sB,seval]⟩ ?_
  rintro m T H2 ⟨i,e2,hi,rfl,ha,g1,g10,g11,g12⟩
  by_cases hlt:i<s.bs.length
  ·have hlt':(i:Int)<(s.bs.length:Int):=om
   obtain⟨x,hx⟩:=isSome_of_lt hlt
   have w1:=wrap1 i om
   have I2:=I.up (e1.trans (e2.less om))
   have ix:=I2.b.idx hlt
   have lx:=I2.b.loadE rb hx
   obtain⟨H3,m3,r3,n3,k3⟩:=row_newL H2 [.int .i64 0,.int .i64 0,.int .i64 0,.int .i64 0,.int .i64 0] (n:=5) rfl
   obtain⟨H4,m4,r4,n4,k4⟩:=row_storeN (n:=5) r3 rfl (xs:=rdL x) rfl rfl
   have hn2:=e2.next
   have e4:Ext (H.next+1) H1 H4:=⟨om,fun b hb=>by rw[k4 b om,k3 b om,e2.old b hb]⟩
   have l4:=row_ldK 5 0 5 r4 rfl (xs:=rdL x) om rfl
   simp only[sA,sB,seval,g10,g11,g12,hlt',ix,lx,m3,m4,fldA,l4]
   refine (rnd_spec (b:=x)).mono ?_
   rintro _ H5 ⟨rfl,e5⟩
   have e5:=e4.trans (e5.less om)
   cases hh:rndB x with
   | false=>
    simp only[sA,sB,seval]
    exact⟨by rw[hma,all_no hx hh]; rfl,e1.trans (e5.less om)⟩
   | true=>
    simp only[sA,sB,seval,g12,w1]
    exact⟨_,om,i+1,e5,om,rfl,by rw[all_take hx ha]; exact hh,g1,g10,g11,tt⟩
  ·have hlt':¬(i:Int)<(s.bs.length:Int):=om
   simp only[sA,sB,seval,g11,g12,hlt']
   rw[List.take_of_length_le om]at ha
   exact⟨e2,ha,g1⟩
 clear y2 hn2 rr l19
 rintro T H2 ⟨y2,hba,g1⟩
 have hn2:=y2.next
 have rr:=r1.up y2 om
 have l20:=row_ld 21 20 rr rfl rfl
 simp only[sA,sB,seval,g1,fldA,l20,lu]
 refine aw_cut (fun (T:Env) H'=>Ext (H.next+1) H1 H'∧s.us.all useB=true∧T 1=cellR H.next 21 0) (calls_mono _ _) ?_ ?_
 ·refine aw_loop (fun m (T:Env) H'=>∃i:Nat,Ext (H.next+1) H1 H'∧i≤s.us.length∧m=s.us.length-i∧(s.us.take i).all useB=true∧T 1=cellR H.next 21 0∧T 106=vu∧T 107=.int .i64 (s.us.length:Int)∧T 108=.int .i64 (i:Int)) s.us.length
   ⟨0,y2,om,om,rfl,by simp only[sA,sB,seval,g1],by simp only[sA,sB,seval],by simp only[sA,sB,seval],by simp only[sA,sB,seval]⟩ ?_
  rintro m T H2 ⟨i,e2,hi,rfl,ha,g1,g10,g11,g12⟩
  by_cases hlt:i<s.us.length
  ·have hlt':(i:Int)<(s.us.length:Int):=om
   obtain⟨x,hx⟩:=isSome_of_lt hlt
   have w1:=wrap1 i om
   have I2:=I.up (e1.trans (e2.less om))
   have ix:=I2.u.idx hlt
   have lx:=I2.u.loadE ru hx
   obtain⟨H3,m3,r3,n3,k3⟩:=row_newL H2 [.str [],.int .i64 0,.int .i64 0,.int .i64 0,.int .i64 0] (n:=5) rfl
   obtain⟨H4,m4,r4,n4,k4⟩:=row_storeN (n:=5) r3 rfl (xs:=usL x) rfl rfl
   have hn2:=e2.next
   have e4:Ext (H.next+1) H1 H4:=⟨om,fun b hb=>by rw[k4 b om,k3 b om,e2.old b hb]⟩
   have l4:=row_ld 5 0 r4 rfl rfl
   have l5:=row_ldK 5 1 3 r4 rfl (xs:=vcL x.p) om rfl
   simp only[sA,sB,seval,g10,g11,g12,hlt',ix,lx,m3,m4,fldA,l4]
   refine zname_spec.mono ?_
   rintro _ _ ⟨rfl,rfl⟩
   cases hn:nameB x.n with
   | false=>
    simp only[sA,sB,seval]
    have hu:useB x=false:=by simp only[useB,hn,Bool.false_and]
    exact⟨by rw[hma,hba,all_no hx hu]; rfl,e1.trans (e4.less om)⟩
   | true=>
    simp only[sA,sB,seval,fldA,l5]
    refine (far_spec (v:=x.p)).mono ?_
    rintro _ H5 ⟨rfl,e5⟩
    have e5:=e4.trans (e5.less om)
    cases hf:farB x.p with
    | false=>
     simp only[sA,sB,seval]
     have hu:useB x=false:=by simp only[useB,hf,Bool.and_false]
     exact⟨by rw[hma,hba,all_no hx hu]; rfl,e1.trans (e5.less om)⟩
    | true=>
     simp only[sA,sB,seval,g12,w1]
     exact⟨_,om,i+1,e5,om,rfl,by rw[all_take hx ha]; simp only[useB,hn,hf,Bool.and_self],g1,g10,g11,tt⟩
  ·have hlt':¬(i:Int)<(s.us.length:Int):=om
   simp only[sA,sB,seval,g11,g12,hlt']
   rw[List.take_of_length_le om]at ha
   exact⟨e2,ha,g1⟩
 clear y2 hn2 rr l20
 rintro T H2 ⟨y2,hua,g1⟩
 have hn2:=y2.next
 have rr:=r1.up y2 om
 have l0:=row_ldK 21 0 21 rr rfl (xs:=scL s vm vb vu) om rfl
 have I2:=(I.up (e1.trans (y2.less om))).mono (Q:=(·<H2.next)) fun b hb=>⟨om,rfl⟩
 simp only[sA,sB,seval,g1,l0]
 refine (hasm_spec I2 om om).mono ?_
 rintro _ H3 ⟨rfl,e3⟩
 have e3:=e1.trans ((y2.trans (e3.less om)).less om)
 rw[hma,hba,hua]
 cases ha:allM s
 ·simp only[sA,sB,seval]; exact⟨rfl,e3⟩
 ·simp only[sA,sB,seval]; exact⟨rfl,e3⟩
open Go.Abs Go.Abs.S
def Only(b:Nat)(H K:AHeap):Prop:=H.next≤K.next∧∀c,c<H.next→c≠b→K.get c=H.get c
abbrev nS:AVal:=.slice none 0 (.known 0)
theorem ld21{H:AHeap}{b:Nat}{s:Sc}{vm vb vu:AVal}(r:Row H b (scL s vm vb vu)):oLoad false 1 H (cellR b 21 18)=some vm∧oLoad false 1 H (cellR b 21 19)=some vb∧oLoad false 1 H (cellR b 21 20)=some vu∧oLoad true 21 H (cellR b 21 0)=some (.agg (scL s vm vb vu)):=
 ⟨row_load r rfl rfl,row_load r rfl rfl,row_load r rfl rfl,row_loadN r rfl⟩
abbrev zSc:List AVal:=[.int .i64 0,.int .i64 0,.int .i64 0,.int .i64 0,.int .u64 0,.int .i64 0,.int .i64 0,.int .i64 0,.int .i64 0,.int .i64 0,.int .i64 0,.int .i64 0,.int .i64 0,.int .i64 0,.int .i64 0,.int .i64 0,.int .i64 0,.int .i64 0,nS,nS,nS]
theorem sc_one(s:Sc){vm vb vu:AVal}(o1:vm.one=true)(o2:vb.one=true)(o3:vu.one=true):(scL s vm vb vu).all AVal.one=true:=by
 simp only[scL,List.all_cons,o1,o2,o3]; rfl
def wrL(b:Nat)(s:Sc)(vm vb vu v1 v2 v3:AVal):List AVal:=cellR b 25 0::(scL s vm vb vu++[v1,v2,v3])
theorem ldW{H:AHeap}{b:Nat}{s:Sc}{vm vb vu v1 v2 v3:AVal}(r:Row H b (wrL b s vm vb vu v1 v2 v3)):oLoad false 1 H (cellR b 25 0)=some (cellR b 25 0)∧oLoad false 1 H (cellR b 25 19)=some vm∧oLoad false 1 H (cellR b 25 20)=some vb∧oLoad false 1 H (cellR b 25 21)=some vu∧oLoad false 1 H (cellR b 25 22)=some v1∧oLoad false 1 H (cellR b 25 23)=some v2∧oLoad false 1 H (cellR b 25 24)=some v3∧oLoad true 21 H (cellR b 25 1)=some (.agg (scL s vm vb vu)):=
 ⟨row_load r rfl rfl,row_load r rfl rfl,row_load r rfl rfl,row_load r rfl rfl,row_load r rfl rfl,row_load r rfl rfl,row_load r rfl rfl,row_loadK r (n:=25) rfl (i:=1) (k:=21) om⟩
theorem wmade_spec{H:AHeap}{b:Nat}{s:Sc}{vm vb vu v1 v2 v3:AVal}(r:Row H b (wrL b s vm vb vu v1 v2 v3)):ACalls Tryz.prog noNat 95 [cellR b 25 0] H fun u H'=>u=.bool true∧H=H':=by
 obtain⟨l0,_⟩:=ldW r
 have e1:aPf (.eqv true .ptr) [cellR b 25 0,.ptr none]=some (.bool true):=rfl
 have e2:aPf (.eqv false .ptr) [cellR b 25 0,cellR b 25 0]=some (.bool true):=by rw[eq_ptr]; simp
 refine acalls_ofN rfl za95 rfl ?_
 simp only[c95,sA,sB,seval,e1,nil_cell,fld0,l0,e2]
 exact⟨tt,tt⟩
theorem inV_far{v:V}{a b:Int}(h:inV v a b=true):(a≤v.x∧v.x≤b)∧(a≤v.y∧v.y≤b)∧(a≤v.z∧v.z≤b):=by
 simp only[inV,inI,Bool.and_eq_true,decide_eq_true_eq]at h; exact h
theorem inV_j{v:V}{a b:Int}(h:inV v a b=true)(ha:-4503599627370496≤a)(hb:b≤4503599627370496):v.j:=by
 obtain⟨⟨_,_⟩,⟨_,_⟩,_,_⟩:=inV_far h
 exact⟨⟨om,om⟩,⟨om,om⟩,om,om⟩
structure ScOk(s:Sc):Prop where
 w:1≤s.w∧s.w≤1024
 h:1≤s.h∧s.h≤1024
 sm:1≤s.sm∧s.sm≤64
 bo:0≤s.bo∧s.bo≤8
 eye:s.eye.j
 at_:s.at_.j
 up:s.up.j
 wide:J64 s.wide
 sky:s.sky.j
 lm:s.ms.length≤64
 lb:s.bs.length≤256
 lu:s.us.length≤16
 ms:∀m∈s.ms,(m.k=1∨m.k=2∨m.k=3∨m.k=4)∧m.c.j
 bs:∀b∈s.bs,ballOk ⟨b.c,b.r⟩∧0≤b.m∧b.m<s.ms.length
 us:∀u∈s.us,u.p.j∧0≤u.m∧u.m<s.ms.length
theorem matB_ok{m:Mt}(h:matB m=true):(m.k=1∨m.k=2∨m.k=3∨m.k=4)∧m.c.j:=by
 unfold matB at h
 split at h
 ·rename_i hk
  simp only[Bool.and_eq_true,decide_eq_true_eq]at h
  exact⟨om,inV_j h.2.2 om om⟩
 split at h
 ·rename_i hk
  simp only[Bool.and_eq_true,decide_eq_true_eq]at h
  exact⟨om,inV_j h.2.2 om om⟩
 split at h
 ·rename_i hk
  simp only[Bool.and_eq_true,noV,decide_eq_true_eq]at h
  obtain⟨⟨a,b,c⟩,_⟩:=h
  exact⟨om,by rw[show m.c=⟨0,0,0⟩ by cases hc:m.c; simp only[hc]at a b c; subst a b c; rfl]; exact V0_j⟩
 ·simp at h
theorem checkB_ok{s:Sc}(h:checkB s=true):ScOk s:=by
 unfold checkB headB at h
 simp only[Bool.and_eq_true,List.all_eq_true,wideB,decide_eq_true_eq]at h
 obtain⟨⟨w,hh,sm,bo,e,a,u,wd,sk,lm,lb,lu⟩,mm,bb,uu,am⟩:=h
 simp only[inI,Bool.and_eq_true,decide_eq_true_eq]at w hh sm bo
 unfold allM at am
 simp only[Bool.and_eq_true,List.all_eq_true,hasB,decide_eq_true_eq]at am
 refine⟨w,hh,sm,bo,inV_j e om om,inV_j a om om,inV_j u om om,⟨om,om⟩,inV_j sk om om,lm,lb,lu,fun m hm=>matB_ok (mm m hm),fun b hb=>⟨?_,am.1 b hb⟩,fun q hq=>⟨?_,am.2 q hq⟩⟩
 ·have:=bb b hb
  simp only[rndB,Bool.and_eq_true,decide_eq_true_eq]at this
  obtain⟨h1,h2,h3⟩:=this
  obtain⟨⟨_,_⟩,⟨_,_⟩,_,_⟩:=inV_far h1
  exact⟨⟨⟨by show _≤b.c.x; omega,by show b.c.x≤_; omega⟩,⟨by show _≤b.c.y; omega,by show b.c.y≤_; omega⟩,by show _≤b.c.z; omega,by show b.c.z≤_; omega⟩,by show 1≤b.r; omega,by show b.r≤_; omega⟩
 ·have:=uu q hq
  simp only[useB,Bool.and_eq_true]at this
  exact inV_j this.2 om om
open Go.Abs Go.Abs.S
def pthL(b:Nat)(wp:AVal)(p:Pth):List AVal:=[cellR b 20 0,wp,.int .i64 p.pixel,.int .i64 (p.sample:Int),.int .i64 (p.bounce:Int)]++(p.ray.cells++(p.thr.cells++(p.sum.cells++[.bool p.over,.int .i64 p.rays,.int .i64 p.shades])))
theorem ldP{H:AHeap}{b:Nat}{wp:AVal}{p:Pth}(r:Row H b (pthL b wp p)):oLoad false 1 H (cellR b 20 0)=some (cellR b 20 0)∧oLoad false 1 H (cellR b 20 1)=some wp∧oLoad false 1 H (cellR b 20 2)=some (.int .i64 p.pixel)∧oLoad false 1 H (cellR b 20 3)=some (.int .i64 (p.sample:Int))∧oLoad false 1 H (cellR b 20 4)=some (.int .i64 (p.bounce:Int)):=
 ⟨row_load r rfl rfl,row_load r rfl rfl,row_load r rfl rfl,row_load r rfl rfl,row_load r rfl rfl⟩
theorem ldP2{H:AHeap}{b:Nat}{wp:AVal}{p:Pth}(r:Row H b (pthL b wp p)):oLoad true 6 H (cellR b 20 5)=some (.agg p.ray.cells)∧oLoad true 3 H (cellR b 20 8)=some (.agg p.ray.d.cells)∧oLoad true 3 H (cellR b 20 11)=some (.agg p.thr.cells)∧oLoad true 3 H (cellR b 20 14)=some (.agg p.sum.cells)∧oLoad false 1 H (cellR b 20 17)=some (.bool p.over)∧oLoad false 1 H (cellR b 20 18)=some (.int .i64 p.rays)∧oLoad false 1 H (cellR b 20 19)=some (.int .i64 p.shades):=
 ⟨row_loadK r (n:=20) rfl (i:=5) (k:=6) om,row_loadK r (n:=20) rfl (i:=8) (k:=3) om,row_loadK r (n:=20) rfl (i:=11) (k:=3) om,row_loadK r (n:=20) rfl (i:=14) (k:=3) om,row_load r rfl rfl,row_load r rfl rfl,row_load r rfl rfl⟩
theorem ldW2{H:AHeap}{b:Nat}{s:Sc}{vm vb vu v1 v2 v3:AVal}(r:Row H b (wrL b s vm vb vu v1 v2 v3)):oLoad false 1 H (cellR b 25 1)=some (.int .i64 s.w)∧oLoad false 1 H (cellR b 25 2)=some (.int .i64 s.h)∧oLoad false 1 H (cellR b 25 3)=some (.int .i64 s.sm)∧oLoad false 1 H (cellR b 25 4)=some (.int .i64 s.bo)∧oLoad false 1 H (cellR b 25 5)=some (.int .u64 (s.seed:Int))∧oLoad true 3 H (cellR b 25 16)=some (.agg s.sky.cells):=
 ⟨row_load r rfl rfl,row_load r rfl rfl,row_load r rfl rfl,row_load r rfl rfl,row_load r rfl rfl,row_loadK r (n:=25) rfl (i:=16) (k:=3) om⟩
theorem sc_aeq{P:Nat→Prop}{H:AHeap}{s:Sc}{vm vb vu:AVal}(I:ScIn P H s vm vb vu):aeq (.agg (scL s vm vb vu)) (.agg (scL s vm vb vu))=true:=by
 have h1:=I.m.aeq
 have h2:=I.b.aeq
 have h3:=I.u.aeq
 have h4:∀x:Int,aeq (.int .u64 x) (.int .u64 x)=true:=fun x=>by simp[aeq,eqF_eq]
 simp[scL,aeq,aeqs,aeq_int,eqF_eq,h1,h2,h3,h4]
structure PR(H:AHeap)(wb pb:Nat)(w:Wrl)(p:Pth)(vm vb vu x1 x2 x3:AVal):Prop where
 w:Row H wb (wrL wb w.sc vm vb vu x1 x2 x3)
 p:Row H pb (pthL pb (cellR wb 25 0) p)
 wn:wb<H.next
 pn:pb<H.next
 ne:wb≠pb
theorem PR.ext{H H':AHeap}{wb pb:Nat}{w:Wrl}{p:Pth}{vm vb vu x1 x2 x3:AVal}(h:PR H wb pb w p vm vb vu x1 x2 x3)(e:Ext H.next H H'):PR H' wb pb w p vm vb vu x1 x2 x3:=
 ⟨h.w.same (e.old _ h.wn),h.p.same (e.old _ h.pn),Nat.lt_of_lt_of_le h.wn e.next,Nat.lt_of_lt_of_le h.pn e.next,h.ne⟩
theorem PR.set{H H':AHeap}{wb pb:Nat}{w:Wrl}{p q:Pth}{vm vb vu x1 x2 x3:AVal}(h:PR H wb pb w p vm vb vu x1 x2 x3)(n:H'.next=H.next)(r:Row H' pb (pthL pb (cellR wb 25 0) q))(e:∀c,c≠pb→H'.get c=H.get c):PR H' wb pb w q vm vb vu x1 x2 x3:=
 ⟨h.w.same (e _ h.ne),r,by rw[n]; exact h.wn,by rw[n]; exact h.pn,h.ne⟩
theorem Only.trans{b:Nat}{H K L:AHeap}(h:Only b H K)(k:Only b K L):Only b H L:=⟨Nat.le_trans h.1 k.1,fun c hc hb=>by rw[k.2 c (Nat.lt_of_lt_of_le hc h.1) hb,h.2 c hc hb]⟩
theorem pmade_spec{H:AHeap}{b:Nat}{wp:AVal}{p:Pth}(r:Row H b (pthL b wp p)):ACalls Tryz.prog noNat 118 [cellR b 20 0] H fun u H'=>u=.bool true∧H=H':=by
 obtain⟨l0,_⟩:=ldP r
 have e1:aPf (.eqv true .ptr) [cellR b 20 0,.ptr none]=some (.bool true):=rfl
 have e2:aPf (.eqv false .ptr) [cellR b 20 0,cellR b 20 0]=some (.bool true):=by rw[eq_ptr]; simp
 refine acalls_ofN rfl za118 rfl ?_
 simp only[c118,sA,sB,seval,e1,nil_cell,fld0,l0,e2]
 exact⟨tt,tt⟩
section
variable {H:AHeap} {wb pb:Nat} {w:Wrl} {p:Pth} {vm vb vu x1 x2 x3:AVal}
theorem pdraw_spec(R:PR H wb pb w p vm vb vu x1 x2 x3)(sd:w.sc.seed<18446744073709551616){d:Int}:ACalls Tryz.prog noNat 184 [cellR pb 20 0,.int .i64 d] H fun u H'=>u=.int .i64 (p.draw w d)∧Ext H.next H H':=by
 obtain⟨_,l1,l2,l3,_⟩:=ldP R.p
 obtain⟨_,_,_,_,w5,_⟩:=ldW2 R.w
 refine acalls_ofN rfl za184 rfl ?_
 simp only[c184,sA,sB,seval,nil_cell,fldA,l1,w5,l2,l3]
 refine (draw_spec sd).mono ?_
 rintro _ H' ⟨rfl,E⟩
 simp only[sA,sB,seval]
 exact⟨tt,E⟩
theorem quoW{a b:Int}(ha:0≤a∧a≤1000000000)(hb:1≤b):aBin .quo (.int .i64 a) (.int .i64 b)=some (.int .i64 (a.tdiv b)):=by
 rw[bin_quo _ _ _ om]
 have h1:=Int.tdiv_le_self b ha.1
 have h2:=Int.tdiv_nonneg ha.1 (by omega:0≤b)
 rw[wrap64 om om]
theorem remW{a b:Int}(hb:1≤b):aBin .rem (.int .i64 a) (.int .i64 b)=some (.int .i64 (a.tmod b)):=bin_rem _ _ _ om
theorem pd_j(w:Wrl)(p:Pth)(d:Int):J64 (p.draw w d):=(drawF_j _ _ _ _).1
theorem pstart_spec(R:PR H wb pb w p vm vb vu x1 x2 x3)(sd:w.sc.seed<18446744073709551616)(SO:ScOk w.sc){P0:Nat→Prop}{G0:AHeap}(I:ScIn P0 G0 w.sc vm vb vu)(hp:0≤p.pixel∧p.pixel≤1000000000) :
  ACalls Tryz.prog noNat 117 [cellR pb 20 0] H fun u H'=>u=.tuple []∧Only pb H H'∧PR H' wb pb w (startF w p) vm vb vu x1 x2 x3:=by
 obtain⟨_,l1,_,_,_⟩:=ldP R.p
 obtain⟨_,_,_,_,_,_,_,w21⟩:=ldW R.w
 have wn:=R.wn
 have pn:=R.pn
 obtain⟨H1,m1,r1,n1,k1⟩:=row_newL H zSc (n:=21) rfl
 obtain⟨H2,m2,r2,n2,k2⟩:=row_storeN r1 (n:=21) rfl (xs:=scL w.sc vm vb vu) rfl (sc_one _ I.m.one I.b.one I.u.one)
 have E2:Ext H.next H H2:=⟨om,fun c hc=>by rw[k2 c om,k1 c om]⟩
 have R2:=R.ext E2
 obtain⟨H3,m3,r3,n3,k3⟩:=row_st R2.p (n:=20) rfl (i:=4) om (x:=.int .i64 0) rfl (l':=pthL pb (cellR wb 25 0) { p with bounce:=0 }) rfl
 have R3:=R2.set n3 r3 k3
 obtain⟨H4,m4,r4,n4,k4⟩:=row_stK r3 (n:=20) rfl (i:=11) (k:=3) om (xs:=v3 4294967296 4294967296 4294967296) rfl rfl (l':=pthL pb (cellR wb 25 0) { p with bounce:=0,thr:=⟨4294967296,4294967296,4294967296⟩ }) rfl
 have R4:=R3.set n4 r4 k4
 obtain⟨q,hq⟩:∃q:Pth,q={ p with bounce:=0,thr:=⟨4294967296,4294967296,4294967296⟩ }:=⟨_,rfl⟩
 rw[← hq]at r4 R4
 have r24:Row H4 H.next (scL w.sc vm vb vu):=r2.same (by rw[k4 _ om,k3 _ om])
 have cam:∀{K:AHeap},Ext H4.next H4 K→oLoad false 1 K (cellR H.next 21 0)=some (.int .i64 w.sc.w)∧oLoad true 21 K (cellR H.next 21 0)=some (.agg (scL w.sc vm vb vu))∧oLoad false 1 K (cellR pb 20 2)=some (.int .i64 p.pixel):=fun {K} e=>by
  have a:=r24.same (H':=K) (e.old _ om)
  have b:=(ldP (R4.ext e).p).2.2.1
  rw[hq]at b
  exact⟨row_load a rfl rfl,row_loadN a rfl,b⟩
 obtain⟨c0,c21,c2⟩:=cam (.refl _ _)
 have rm:=remW (a:=p.pixel) (b:=w.sc.w) SO.w.1
 have qo:=quoW (a:=p.pixel) (b:=w.sc.w) hp SO.w.1
 have b111:aBuild [.int .i64 0,.int .i64 0,.int .i64 0] [(0,1,.int .i64 4294967296),(1,1,.int .i64 4294967296),(2,1,.int .i64 4294967296)]=some (.agg (v3 4294967296 4294967296 4294967296)):=rfl
 refine acalls_ofN rfl za117 rfl ?_
 simp only[c117,sA,sB,seval,nil_cell,fldA,l1,w21,m1,m2,m3,b111,m4]
 refine aw_drawC rfl ?_
 simp only[sR,sA,sB,seval,nil_cell,fld0,fldA,c0,c21,c2,rm,qo]
 refine (pdraw_spec R4 sd).mono ?_
 rintro _ H5 ⟨rfl,E5⟩
 simp only[sR,sA,sB,seval]
 refine (pdraw_spec (R4.ext E5) sd).mono ?_
 rintro _ H6 ⟨rfl,E6⟩
 have E46:=E5.trans (E6.less E5.next)
 obtain⟨d0,d21,d2⟩:=cam E46
 simp only[sR,sA,sB,seval]
 refine (camera_spec SO.eye SO.at_ SO.up SO.wide (pd_j _ _ _) (pd_j _ _ _)).mono ?_
 rintro _ H7 ⟨rfl,E7⟩
 have E47:=E46.trans (E7.less E46.next)
 have R7:=R4.ext E47
 obtain⟨f0,f21,f2⟩:=cam E47
 have e7:=E47.next
 obtain⟨e0,e21,e2⟩:=cam E5
 have dq:∀d,q.draw w d=p.draw w d:=fun d=>by rw[hq]; rfl
 rw[dq,dq]
 obtain⟨H8,m8,r8,n8,k8⟩:=row_stK R7.p (n:=20) rfl (i:=5) (k:=6) om (xs:=(cameraF w.sc.cam (p.pixel.tmod w.sc.w) (p.pixel.tdiv w.sc.w) (p.draw w 0) (p.draw w 1)).cells) rfl rfl (l':=pthL pb (cellR wb 25 0) (startF w p)) (by rw[hq]; rfl)
 simp only[sR,sA,sB,seval,nil_cell,fldA,m8]
 simp only[ck_nil',ck_cons,ckP_load,ckP_nil,ck_end,and_true,true_and,List.map_cons,List.map_nil,sA,sB,seval,nil_cell,fld0,fldA,fin_n0]
 refine⟨?_,?_⟩
 ·have asc:aeq (.agg (scL w.sc vm vb vu)) (.agg (scL w.sc vm vb vu))=true:=sc_aeq I
  and_intros <;> first | rfl | exact⟨_,rfl,fun _=>⟨_,by first | assumption | (simp only[sA,sB,seval,nil_cell,fld0,fldA]; assumption),by first | exact aeq_int _ _ | exact asc⟩⟩
 ·refine⟨⟨om,fun c h1 h2=>by rw[k8 c h2,E47.old c om,k4 c h2,k3 c h2,E2.old c h1]⟩,R7.set n8 r8 k8⟩
end
open Go.Abs Go.Abs.S
theorem fin_r0{T:Env}{H:AHeap}(K:AVal→AHeap→Prop):fin [] K .ret T H=K (.tuple []) H:=by
 rw[fin_ret]
 simp only[wRes,OptP_some]
 rfl
section
variable {H:AHeap} {wb pb:Nat} {w:Wrl} {p:Pth} {vm vb vu x1 x2 x3:AVal}
theorem pend_spec(R:PR H wb pb w p vm vb vu x1 x2 x3)(sd:w.sc.seed<18446744073709551616)(SO:ScOk w.sc){P0:Nat→Prop}{G0:AHeap}(I:ScIn P0 G0 w.sc vm vb vu)(hp:0≤p.pixel∧p.pixel≤1000000000)(hs:p.sample≤1000) :
  ACalls Tryz.prog noNat 121 [cellR pb 20 0] H fun u H'=>u=.tuple []∧Only pb H H'∧PR H' wb pb w (endF w p) vm vb vu x1 x2 x3:=by
 obtain⟨_,l1,_,l3,_⟩:=ldP R.p
 have ws:IntKind.i64.wrap ((p.sample:Int)+1)=((p.sample+1:Nat):Int):=w64
 obtain⟨H1,m1,r1,n1,k1⟩:=row_st R.p (n:=20) rfl (i:=3) om (x:=.int .i64 ((p.sample+1:Nat):Int)) rfl (l':=pthL pb (cellR wb 25 0) { p with sample:=p.sample+1 }) rfl
 have R1:=R.set n1 r1 k1
 obtain⟨_,g1,_,g3,_⟩:=ldP R1.p
 obtain⟨_,_,w3,_⟩:=ldW2 R1.w
 refine acalls_ofN rfl za121 rfl ?_
 unfold endF Wrl.samples
 have hsm:=SO.sm
 by_cases c1:w.sc.sm.toNat≤p.sample+1
 ·have c1':w.sc.sm≤((p.sample+1:Nat):Int):=om
  obtain⟨H2,m2,r2,n2,k2⟩:=row_st r1 (n:=20) rfl (i:=17) om (x:=.bool true) rfl (l':=pthL pb (cellR wb 25 0) { p with sample:=p.sample+1,over:=true }) rfl
  rw[if_pos c1]
  simp only[c121,sA,sB,seval,nil_cell,fldA,l3,ws,m1,g3,g1,w3,c1',m2,fin_r0]
  have O2:Only pb H H2:=⟨om,fun c h1 h2=>by rw[k2 c h2,k1 c h2]⟩
  first | exact⟨tt,O2,R1.set n2 r2 k2⟩ | exact⟨O2,R1.set n2 r2 k2⟩
 ·have c1':¬w.sc.sm≤((p.sample+1:Nat):Int):=om
  rw[if_neg c1]
  simp only[c121,sA,sB,seval,nil_cell,fldA,l3,ws,m1,g3,g1,w3,c1']
  refine (pstart_spec R1 sd SO I hp).mono ?_
  rintro _ H2 ⟨rfl,O,R2⟩
  simp only[sA,sB,seval,fin_n0]
  have O2:Only pb H H2:=⟨by have:=O.1; omega,fun c h1 h2=>by rw[O.2 c om h2,k1 c h2]⟩
  first | exact⟨tt,O2,R2⟩ | exact⟨O2,R2⟩
theorem pshine_spec(R:PR H wb pb w p vm vb vu x1 x2 x3)(jt:p.thr.j)(js:p.sum.j){v:V}(jv:v.j) :
  ACalls Tryz.prog noNat 120 [cellR pb 20 0,.agg v.cells] H fun u H'=>u=.tuple []∧Only pb H H'∧PR H' wb pb w (shineF p v) vm vb vu x1 x2 x3:=by
 obtain⟨H1,m1,r1,n1,k1⟩:=row_newL H v.cells (n:=3) rfl
 have E1:Ext H.next H H1:=⟨om,fun c hc=>k1 c om⟩
 have R1:=R.ext E1
 have pn:=R.pn
 obtain⟨_,_,l11,l14,_⟩:=ldP2 R1.p
 have lv:=ld3V r1
 refine acalls_ofN rfl za120 rfl ?_
 simp only[c120,sA,sB,seval,cells_agg,m1]
 refine aw_drawC rfl ?_
 simp only[sR,sA,sB,seval,nil_cell,fldA,l14,l11,lv]
 refine (vmul_spec jt jv).mono ?_
 rintro _ H2 ⟨rfl,E2⟩
 obtain⟨_,_,_,q14,_⟩:=ldP2 (R1.ext E2).p
 simp only[sR,sA,sB,seval]
 refine (vadd_spec js (vMul_j ..)).mono ?_
 rintro _ H3 ⟨rfl,E3⟩
 have E13:=E2.trans (E3.less E2.next)
 have R3:=R1.ext E13
 have e3:=E13.next
 obtain⟨H4,m4,r4,n4,k4⟩:=row_stK R3.p (n:=20) rfl (i:=14) (k:=3) om (xs:=(vAdd p.sum (vMul p.thr v)).cells) rfl rfl (l':=pthL pb (cellR wb 25 0) (shineF p v)) rfl
 simp only[sR,sA,sB,seval,nil_cell,fldA,m4]
 simp only[ck_nil',ck_cons,ckP_load,ckP_nil,ck_end,and_true,true_and,List.map_cons,List.map_nil,sA,sB,seval,nil_cell,fldA,fin_n0]
 exact⟨⟨_,rfl,fun _=>⟨_,q14,aeq_V _⟩⟩,⟨om,fun c h1 h2=>by rw[k4 c h2,E13.old c om,k1 c om]⟩,R3.set n4 r4 k4⟩
end
open Go.Abs Go.Abs.S
def wpN(C:CS)(c:ACode)(Q:Post):Nat→Env→AHeap→Prop
 | 0=>fun _ _=>False
 | n+1=>wp C c (inSeq Q (wpN C c Q n))
theorem aw_loopN{C:CS}(hC:CMono C){c:ACode}{Q:Post}{T:Env}{H:AHeap}(n:Nat)(h:wpN C c Q n T H):wp C (.loop c) Q T H:=by
 refine aw_loop (fun m T H=>wpN C c Q m T H) n h ?_
 intro m T' H' hm
 cases m with
 | zero=>exact hm.elim
 | succ m=>exact wp_mono' hC c (fun e T H hq=>inSeq_mono (fun _ _ _ h=>h) (fun T H h=>⟨m,Nat.lt_succ_self m,h⟩) e T H hq) hm
theorem wpN_s(C:CS)(c:ACode)(Q:Post)(n:Nat):wpN C c Q (n+1)=wp C c (inSeq Q (wpN C c Q n)):=_root_.id rfl
def skyS(w h:Nat):Sc:=⟨w,h,1,0,0,V0,V0,V0,4294967296,⟨0,4294967296,0⟩,[],[],[]⟩
abbrev skyL(w h:Nat):List AVal:=scL (skyS w h) nS nS nS
theorem sky_in(P:Nat→Prop)(H:AHeap)(w h:Nat):ScIn P H (skyS w h) nS nS nS:=⟨SlK.nil _ _ _,SlK.nil _ _ _,SlK.nil _ _ _⟩
theorem sky_ok{w h:Nat}(hw:1≤w∧w≤6)(hh:1≤h∧h≤6):checkB (skyS w h)=true:=by
 simp[checkB,headB,skyS,inI,inV,farB,wideB,allM,V0]
 exact⟨⟨decide_eq_true om,decide_eq_true om⟩,decide_eq_true om,decide_eq_true om⟩
theorem c0m{H:AHeap}:ACalls Tryz.prog noNat 86 [nS] H fun v H'=>v=nS∧H=H':=by
 have e:aPf (.eqv false .slice) [nS,nS]=some (.bool true):=rfl
 refine acalls_ofN rfl za86 rfl ?_
 simp only[c86,sA,sB,seval,e]
 exact⟨tt,tt⟩
theorem c0r{H:AHeap}:ACalls Tryz.prog noNat 87 [nS] H fun v H'=>v=nS∧H=H':=by
 have e:aPf (.eqv false .slice) [nS,nS]=some (.bool true):=rfl
 refine acalls_ofN rfl za87 rfl ?_
 simp only[c87,sA,sB,seval,e]
 exact⟨tt,tt⟩
theorem c0u{H:AHeap}:ACalls Tryz.prog noNat 88 [nS] H fun v H'=>v=nS∧H=H':=by
 have e:aPf (.eqv false .slice) [nS,nS]=some (.bool true):=rfl
 refine acalls_ofN rfl za88 rfl ?_
 simp only[c88,sA,sB,seval,e]
 exact⟨tt,tt⟩
theorem copy0_spec{w h:Nat}{H:AHeap}:ACalls Tryz.prog noNat 58 [.agg (skyL w h)] H fun r H'=>r=.agg (skyL w h)∧Ext H.next H H':=by
 obtain⟨H1,m1,r1,n1,k1⟩:=row_newL H (skyL w h) (n:=21) rfl
 obtain⟨H2,m2,r2,n2,k2⟩:=row_newL H1 zSc (n:=21) rfl
 have r12:=r1.same (H':=H2) (k2 _ om)
 obtain⟨l18,_,_,_⟩:=ld21 r12
 obtain⟨H4,m4,r4,n4,k4⟩:=row_st r12 (n:=21) rfl (i:=18) om (x:=nS) rfl (l':=skyL w h) rfl
 obtain⟨_,l19,_,_⟩:=ld21 r4
 obtain⟨H6,m6,r6,n6,k6⟩:=row_st r4 (n:=21) rfl (i:=19) om (x:=nS) rfl (l':=skyL w h) rfl
 obtain⟨_,_,l20,_⟩:=ld21 r6
 obtain⟨H8,m8,r8,n8,k8⟩:=row_st r6 (n:=21) rfl (i:=20) om (x:=nS) rfl (l':=skyL w h) rfl
 obtain⟨_,_,_,l21⟩:=ld21 r8
 have r2':Row H8 H1.next zSc:=r2.same (by rw[k8 _ om,k6 _ om,k4 _ om])
 obtain⟨H9,m9,r9,n9,k9⟩:=row_storeN r2' (n:=21) rfl (xs:=skyL w h) rfl (sc_one _ rfl rfl rfl)
 have l9:=row_loadN r9 (n:=21) rfl
 refine acalls_ofN rfl za58 rfl ?_
 simp only[c58,sA,sB,seval,cells_agg,m1,m2,fldA,l18]
 refine c0m.mono ?_
 rintro _ _ ⟨rfl,rfl⟩
 simp only[sA,sB,seval,fldA,m4,l19]
 refine c0r.mono ?_
 rintro _ _ ⟨rfl,rfl⟩
 simp only[sA,sB,seval,fldA,m6,l20]
 refine c0u.mono ?_
 rintro _ _ ⟨rfl,rfl⟩
 simp only[sA,sB,seval,fldA,m8,l21,m9,fin_cc,OptP_some,l9]
 exact⟨tt,⟨om,fun c hc=>by rw[k9 c om,k8 c om,k6 c om,k4 c om,k2 c om,k1 c om]⟩⟩
theorem check0_spec{w h:Nat}(hw:1≤w∧w≤6)(hh:1≤h∧h≤6){H:AHeap}:ACalls Tryz.prog noNat 57 [.agg (skyL w h),nS,nS,nS] H fun r H'=>r=.int .i64 0∧Ext H.next H H':=by
 obtain⟨H1,m1,r1,n1,k1⟩:=row_newL H (skyL w h) (n:=21) rfl
 have E1:Ext H.next H H1:=⟨om,fun c hc=>k1 c om⟩
 obtain⟨_,_,_,l21⟩:=ld21 r1
 have ln:aLenK false nS=some (.int .i64 0):=rfl
 refine acalls_ofN rfl za57 rfl ?_
 simp only[c57,sA,sB,seval,cells_agg,m1,l21]
 refine (chk_spec (sky_in _ _ w h)).mono ?_
 rintro _ H2 ⟨rfl,E2⟩
 have e2:=E2.next
 have he:errI true=.int .i64 0:=rfl
 rw[sky_ok hw hh,he]
 have r12:Row H2 H.next (skyL w h):=r1.same (E2.old _ om)
 obtain⟨l18,_,l20,_⟩:=ld21 r12
 simp only[sA,sB,seval,fldA,l18,l20,ln]
 refine aw_loopN (calls_mono _ _) 1 ?_
 simp only[wpN_s,sA,sB,seval,ln]
 simp only[fldA,l18,ln,sA,sB,seval]
 refine aw_loopN (calls_mono _ _) 1 ?_
 simp only[wpN_s,sA,sB,seval]
 exact⟨tt,E1.trans (E2.less E1.next)⟩
open Go.Abs Go.Abs.S
abbrev w25(p:AVal)(w h:Nat)(x2 x3:AVal):List AVal:=p::(skyL w h++[nS,x2,x3])
theorem new0_spec{w h:Nat}(hw:1≤w∧w≤6)(hh:1≤h∧h≤6){H:AHeap}:ACalls Tryz.prog noNat 36 [.agg (skyL w h),nS,nS,nS] H fun r H'=>∃wb x2 x3,r=.tuple [cellR wb 25 0,.int .i64 0,.int .i64 0]∧H.next≤wb∧wb<H'.next∧Row H' wb (wrL wb (skyS w h) nS nS nS nS x2 x3)∧Ext H.next H H':=by
 obtain⟨H1,m1,r1,n1,k1⟩:=row_newL H (skyL w h) (n:=21) rfl
 have E1:Ext H.next H H1:=⟨om,fun c hc=>k1 c om⟩
 obtain⟨_,_,_,l21⟩:=ld21 r1
 have ln:aLenK false nS=some (.int .i64 0):=rfl
 refine acalls_ofN rfl za36 rfl ?_
 simp only[c36,sA,sB,seval,cells_agg,m1,l21]
 refine (check0_spec hw hh).mono ?_
 rintro _ H2 ⟨rfl,E2⟩
 have e2:=E2.next
 have r12:Row H2 H.next (skyL w h):=r1.same (E2.old _ om)
 obtain⟨_,_,_,l21b⟩:=ld21 r12
 simp only[sA,sB,seval,l21b]
 refine copy0_spec.mono ?_
 rintro _ H3 ⟨rfl,E3⟩
 have e3:=E3.next
 have bw:aBuild [.ptr none,.int .i64 0,.int .i64 0,.int .i64 0,.int .i64 0,.int .u64 0,.int .i64 0,.int .i64 0,.int .i64 0,.int .i64 0,.int .i64 0,.int .i64 0,.int .i64 0,.int .i64 0,.int .i64 0,.int .i64 0,.int .i64 0,.int .i64 0,.int .i64 0,nS,nS,nS,nS,nS,nS] [(1,21,.agg (skyL w h))]=some (.agg (w25 (.ptr none) w h nS nS)):=rfl
 obtain⟨H4,m4,r4,n4,k4⟩:=row_newL H3 (w25 (.ptr none) w h nS nS) (n:=25) rfl
 obtain⟨H5,m5,r5,n5,k5⟩:=row_st r4 (n:=25) rfl (i:=0) om (x:=cellR H3.next 25 0) rfl (l':=w25 (cellR H3.next 25 0) w h nS nS) rfl
 have r15:Row H5 H.next (skyL w h):=r12.same (by rw[k5 _ om,k4 _ om,E3.old _ om])
 obtain⟨l18,l19,_,_⟩:=ld21 r15
 obtain⟨K,hK⟩:∃K,K=H5.push (.cells [] 0 false):=⟨_,rfl⟩
 have kn:K.next=H5.next+1:=by rw[hK,push_next]
 have ko:∀c,c<H5.next→K.get c=H5.get c:=fun c hc=>by rw[hK]; exact get_push_lt hc
 have m6:aMake 56 [nS,.int .i64 0,nS] H5 (.int .i64 0) (.int .i64 0)=some (.slice (some ⟨H5.next,0,0⟩) 0 (.known 0),H5.push (.cells [] 0 false)):=rfl
 rw[← hK]at m6
 obtain⟨H7,m7,r7,n7,k7⟩:=row_st (r5.same (ko _ om)) (n:=25) rfl (i:=23) om (x:=.slice (some ⟨H5.next,0,0⟩) 0 (.known 0)) rfl (l':=w25 (cellR H3.next 25 0) w h (.slice (some ⟨H5.next,0,0⟩) 0 (.known 0)) nS) rfl
 obtain⟨K2,hK2⟩:∃K,K=H7.push (.cells [] 0 false):=⟨_,rfl⟩
 have kn2:K2.next=H7.next+1:=by rw[hK2,push_next]
 have ko2:∀c,c<H7.next→K2.get c=H7.get c:=fun c hc=>by rw[hK2]; exact get_push_lt hc
 have m8:aMake 40 [.int .i64 0,.int .i64 0,nS] H7 (.int .i64 0) (.int .i64 0)=some (.slice (some ⟨H7.next,0,0⟩) 0 (.known 0),H7.push (.cells [] 0 false)):=rfl
 rw[← hK2]at m8
 obtain⟨H9,m9,r9,n9,k9⟩:=row_st (r7.same (ko2 _ om)) (n:=25) rfl (i:=24) om (x:=.slice (some ⟨H7.next,0,0⟩) 0 (.known 0)) rfl (l':=w25 (cellR H3.next 25 0) w h (.slice (some ⟨H5.next,0,0⟩) 0 (.known 0)) (.slice (some ⟨H7.next,0,0⟩) 0 (.known 0))) rfl
 have r17:Row H7 H.next (skyL w h):=r15.same (by rw[k7 _ om,ko _ om])
 obtain⟨q18,_,_,_⟩:=ld21 r17
 have r19:Row H9 H.next (skyL w h):=r17.same (by rw[k9 _ om,ko2 _ om])
 obtain⟨p18,_,_,_⟩:=ld21 r19
 simp only[sA,sB,seval,bw,cells_agg,m4,nil_cell,fld0,m5,ln]
 refine aw_loopN (calls_mono _ _) 1 ?_
 simp only[wpN_s,sA,sB,seval,fldA,l19,ln]
 simp only[sA,sB,seval,fldA,l18,ln,m6,nil_cell,m7,q18,m8,m9,p18]
 refine aw_loopN (calls_mono _ _) 1 ?_
 simp only[wpN_s,sA,sB,seval]
 refine⟨H3.next,_,_,tt,om,om,r9,⟨om,fun c hc=>?_⟩⟩
 rw[k9 c om,ko2 c om,k7 c om,ko c om,k5 c om,k4 c om,E3.old c om,E2.old c om,k1 c om]
open Go.Abs Go.Abs.S
theorem fin_ctt{T:Env}{H:AHeap}(g:Bool)(n i j k:Nat)(K:AVal→AHeap→Prop):fin [.cell g n i,.t j,.t k] K .ret T H=OptP (oLoad g n H (T i)) fun v=>K (.tuple [v,T j,T k]) H:=by
 rw[fin_ret]
 simp only[wRes]
 cases oLoad g n H (T i) with
 | none=>simp[OptP]
 | some v=>simp only[OptP_some]; rfl
def pth0(px:Int):Pth:=⟨px,0,0,⟨V0,V0⟩,V0,V0,false,0,0⟩
theorem begin_spec{H:AHeap}{wb:Nat}{w:Wrl}{vm vb vu x1 x2 x3:AVal}(r:Row H wb (wrL wb w.sc vm vb vu x1 x2 x3))(hwn:wb<H.next)(I:ScIn (·<H.next) H w.sc vm vb vu)(SO:ScOk w.sc)(sd:w.sc.seed<18446744073709551616){px:Int}(h1:0≤px)(h2:px<w.sc.w*w.sc.h) :
  ACalls Tryz.prog noNat 78 [cellR wb 25 0,.int .i64 px] H fun r H'=>r=.tuple [cellR H.next 20 0,.int .i64 0]∧Ext H.next H H'∧PR H' wb H.next w (startF w (pth0 px)) vm vb vu x1 x2 x3:=by
 obtain⟨l1,l2,_⟩:=ldW2 r
 have hw:=SO.w
 have hh:=SO.h
 have hmul:0≤w.sc.w*w.sc.h∧w.sc.w*w.sc.h≤1024*1024:=⟨Int.mul_nonneg om om,Int.mul_le_mul hw.2 hh.2 om om⟩
 have wm:IntKind.i64.wrap (w.sc.w*w.sc.h)=w.sc.w*w.sc.h:=w64
 have c1:¬px<0:=om
 have c2:¬w.sc.w*w.sc.h≤px:=om
 obtain⟨zz,hzz⟩:∃z:List AVal,z=([.ptr none,cellR wb 25 0,.int .i64 px,.int .i64 0,.int .i64 0]++(V0.cells++V0.cells++(V0.cells++(V0.cells++[.bool false,.int .i64 0,.int .i64 0])))):=⟨_,rfl⟩
 have hzl:zz.length=20:=by rw[hzz]; rfl
 obtain⟨H1,m1,r1,n1,k1⟩:=row_newL H zz (n:=20) hzl
 have bP:aBuild [.ptr none,.ptr none,.int .i64 0,.int .i64 0,.int .i64 0,.int .i64 0,.int .i64 0,.int .i64 0,.int .i64 0,.int .i64 0,.int .i64 0,.int .i64 0,.int .i64 0,.int .i64 0,.int .i64 0,.int .i64 0,.int .i64 0,.bool false,.int .i64 0,.int .i64 0] [(1,1,cellR wb 25 0),(2,1,.int .i64 px)]=some (.agg zz):=by rw[hzz]; rfl
 obtain⟨H2,m2,r2,n2,k2⟩:=row_st r1 (n:=20) hzl (i:=0) om (x:=cellR H.next 20 0) rfl (l':=pthL H.next (cellR wb 25 0) (pth0 px)) (by rw[hzz]; rfl)
 have R2:PR H2 wb H.next w (pth0 px) vm vb vu x1 x2 x3:=⟨r.same (by rw[k2 _ om,k1 _ om]),r2,om,om,om⟩
 refine acalls_ofN rfl za78 rfl ?_
 simp only[c78,sA,sB,seval]
 refine (wmade_spec r).mono ?_
 rintro _ _ ⟨rfl,rfl⟩
 simp only[sA,sB,seval,nil_cell,fldA,Nat.reduceAdd,l1,l2,wm,c1,c2,bP,cells_agg,m1,fld0,m2]
 refine (pstart_spec R2 sd SO I ⟨h1,by show px≤_; omega⟩).mono ?_
 rintro _ H3 ⟨rfl,O,R3⟩
 simp only[sA,sB,seval]
 exact⟨tt,⟨by have:=O.1; omega,fun c hc=>by rw[O.2 c om om,k2 c om,k1 c om]⟩,R3⟩
theorem color_spec{H:AHeap}{wb pb:Nat}{w:Wrl}{p:Pth}{vm vb vu x1 x2 x3:AVal}(R:PR H wb pb w p vm vb vu x1 x2 x3)(js:p.sum.j)(ho:p.over=true) :
  ACalls Tryz.prog noNat 82 [cellR pb 20 0] H fun r H'=>r=.agg (pixC (pixelF p.sum w.sc.sm))∧Ext H.next H H':=by
 have wn:=R.wn
 have pn:=R.pn
 obtain⟨H1,m1,r1,n1,k1⟩:=row_newL H [.int .u8 0,.int .u8 0,.int .u8 0,.int .u8 0] (n:=4) rfl
 have E1:Ext H.next H H1:=⟨om,fun c hc=>k1 c om⟩
 have R1:=R.ext E1
 obtain⟨_,q1,_⟩:=ldP R1.p
 obtain⟨_,_,_,q14,q17,_⟩:=ldP2 R1.p
 obtain⟨_,_,w3,_⟩:=ldW2 R1.w
 rw[ho]at q17
 refine acalls_ofN rfl za82 rfl ?_
 simp only[c82,sA,sB,seval,m1]
 refine (pmade_spec R1.p).mono ?_
 rintro _ _ ⟨rfl,rfl⟩
 simp only[sA,sB,seval,nil_cell,fldA,Nat.reduceAdd,q17,q14,q1,w3]
 refine (pixel_spec js).mono ?_
 rintro _ H2 ⟨rfl,E2⟩
 have e2:=E2.next
 obtain⟨H3,m3,r3,n3,k3⟩:=row_storeN (r1.same (H':=H2) (E2.old _ om)) (n:=4) rfl (xs:=pixC (pixelF p.sum w.sc.sm)) rfl rfl
 have l3:=row_loadN r3 (n:=4) rfl
 simp only[sA,sB,seval,m3,fin_cc,OptP_some,l3]
 exact⟨tt,⟨om,fun c hc=>by rw[k3 c om,E2.old c om,k1 c om]⟩⟩
def skyW(w h:Nat):Wrl:=⟨skyS w h,[],[],[]⟩
theorem size0_spec{wb w h:Nat}{x2 x3:AVal}{H:AHeap}(r:Row H wb (wrL wb (skyS w h) nS nS nS nS x2 x3)):ACalls Tryz.prog noNat 64 [cellR wb 25 0] H fun v H'=>v=.tuple [.int .i64 (w:Int),.int .i64 (h:Int)]∧H=H':=by
 obtain⟨l1,l2,_⟩:=ldW2 r
 have l1':oLoad false 1 H (cellR wb 25 1)=some (.int .i64 (w:Int)):=l1
 have l2':oLoad false 1 H (cellR wb 25 2)=some (.int .i64 (h:Int)):=l2
 refine acalls_ofN rfl za64 rfl ?_
 simp only[c64,sA,sB,seval]
 refine (wmade_spec r).mono ?_
 rintro _ _ ⟨rfl,rfl⟩
 simp only[sA,sB,seval,nil_cell,fldA,Nat.reduceAdd,l1',l2']
 exact⟨tt,tt⟩
theorem used_spec{wb pb:Nat}{w:Wrl}{p:Pth}{vm vb vu x1 x2 x3:AVal}{H:AHeap}(R:PR H wb pb w p vm vb vu x1 x2 x3):ACalls Tryz.prog noNat 79 [cellR pb 20 0] H fun v H'=>v=.tuple [.int .i64 p.rays,.int .i64 p.shades]∧H=H':=by
 obtain⟨_,_,_,_,_,l18,l19⟩:=ldP2 R.p
 refine acalls_ofN rfl za79 rfl ?_
 simp only[c79,sA,sB,seval]
 refine (pmade_spec R.p).mono ?_
 rintro _ _ ⟨rfl,rfl⟩
 simp only[sA,sB,seval,nil_cell,fldA,l18,l19]
 exact⟨tt,tt⟩
theorem near0_spec{wb:Nat}{s:Sc}{vm vb vu x2 x3:AVal}{H:AHeap}(r:Row H wb (wrL wb s vm vb vu nS x2 x3))(hwn:wb<H.next){q:Ray}{least:Int}:ACalls Tryz.prog noNat 119 [cellR wb 25 0,.agg q.cells,.int .i64 least] H fun v H'=>v=.tuple [.agg noHit.cells,.int .i64 (-1),.int .i64 1]∧Ext H.next H H':=by
 obtain⟨H1,m1,r1,n1,k1⟩:=row_newL H q.cells (n:=6) rfl
 obtain⟨H2,m2,r2,n2,k2⟩:=row_newL H1 ([.int .i64 0,.int .i64 0,.int .i64 0,.int .i64 0]:List AVal) (n:=4) rfl
 obtain⟨H3,m3,r3,n3,k3⟩:=row_newL H2 ([.int .i64 0,.int .i64 0,.int .i64 0,.int .i64 0]:List AVal) (n:=4) rfl
 obtain⟨H4,m4,r4,n4,k4⟩:=row_storeN r3 (n:=4) rfl (xs:=noHit.cells) rfl rfl
 have cneg:(Int.negSucc 0)=-1:=rfl
 have bN:aBuild [.int .i64 0,.int .i64 0,.int .i64 0,.int .i64 0] [(1,1,.int .i64 (-1))]=some (.agg noHit.cells):=rfl
 have old4:∀c,c<H.next→H4.get c=H.get c:=fun c hc=>by rw[k4 c om,k3 c om,k2 c om,k1 c om]
 have rw4:=r.same (H':=H4) (old4 _ om)
 obtain⟨_,_,_,_,w22,_⟩:=ldW rw4
 have ln:aLenK false nS=some (.int .i64 0):=rfl
 have r24:Row H4 H1.next ([.int .i64 0,.int .i64 0,.int .i64 0,.int .i64 0]:List AVal):=r2.same (by rw[k4 _ om,k3 _ om])
 obtain⟨K2,m6,r6,n6,k6⟩:=row_storeN r24 (n:=4) rfl (xs:=noHit.cells) rfl rfl
 have l4:=row_loadN r4 (n:=4) rfl
 have l6:=row_loadN r6 (n:=4) rfl
 refine acalls_ofN rfl za119 rfl ?_
 simp only[c119,sA,sB,seval,cells_agg,m1,m2,m3,cneg,bN,m4]
 refine (wmade_spec rw4).mono ?_
 rintro _ _ ⟨rfl,rfl⟩
 simp only[sA,sB,seval,nil_cell,fldA,w22,ln]
 refine aw_loopN (calls_mono _ _) 1 ?_
 simp only[wpN_s,sA,sB,seval]
 simp only[sA,sB,seval,l4,m6,fin_ctt,OptP_some,l6]
 exact⟨tt,⟨om,fun c hc=>by rw[k6 c om,old4 c om]⟩⟩
open Go.Abs Go.Abs.S
abbrev z4:List AVal:=[.int .i64 0,.int .i64 0,.int .i64 0,.int .i64 0]
def skyP(w h:Nat)(p:Pth):Pth:=endF (skyW w h) (shineF { p with rays:=p.rays+1 } ⟨0,4294967296,0⟩)
theorem step0_spec{w h:Nat}{H:AHeap}{wb pb:Nat}{p:Pth}{x2 x3:AVal}(R:PR H wb pb (skyW w h) p nS nS nS nS x2 x3)(SO:ScOk (skyS w h))(jt:p.thr.j)(js:p.sum.j)(hb:p.bounce=0)(hs:p.sample=0)(hp:0≤p.pixel∧p.pixel≤1000000000)(hr:0≤p.rays∧p.rays≤1000000000)(ho:p.over=false) :
  ACalls Tryz.prog noNat 80 [cellR pb 20 0] H fun r H'=>r=.tuple [.int .i64 1,.bool true]∧Only pb H H'∧PR H' wb pb (skyW w h) (skyP w h p) nS nS nS nS x2 x3:=by
 obtain⟨_,_,_,_,l4⟩:=ldP R.p
 obtain⟨_,_,_,_,l17,_⟩:=ldP2 R.p
 rw[ho]at l17
 have wn:=R.wn
 have pn:=R.pn
 have c':(p.bounce:Int)=0:=om
 refine acalls_ofN rfl za80 rfl ?_
 refine wp_cutP [1,1,1,1] ?_
 simp only[c80,sC,sA,sB,seval]
 refine (pmade_spec R.p).mono ?_
 rintro _ _ ⟨rfl,rfl⟩
 simp only[sA,sB,seval,nil_cell,fldA,l17,l4,c']
 rw[hold_eq]
 refine wp_cutP [1,1,1,1,1,1,1,1,1] ?_
 simp only[c80,restP,sC,sA,sB,seval]
 refine aw_drawN ?_
 simp only[claims,newOf,reserves,resO_0,clOp_new]
 obtain⟨Hp,hHp⟩:∃L,L=H.push (.cells (z4) 0 false):=⟨_,rfl⟩
 rw[← hHp]
 have np:Hp.next=H.next+1:=by rw[hHp]; rfl
 obtain⟨hb0,hhb0⟩:∃b,b=H.next:=⟨_,rfl⟩
 have gp:Hp.get hb0=some (.cells (z4) 0 false):=by rw[hHp,hhb0,AHeap.get_push,if_pos rfl]
 have Ep:Ext H.next H Hp:=⟨om,fun c hc=>by rw[hHp]; exact get_push_lt hc⟩
 have d1:aClaim Hp hb0 (z4) none=some (cellR hb0 4 0):=claim_ok (z:=z4) gp rfl
 rw[← hhb0]
 have Rp:=R.ext Ep
 obtain⟨_,a1,_⟩:=ldP Rp.p
 obtain⟨a5,_⟩:=ldP2 Rp.p
 simp only[sR,sA,sB,seval,nil_cell,fldA,a1,a5]
 refine (near0_spec Rp.w om (q:=p.ray) (least:=1)).mono ?_
 rintro _ H1 ⟨rfl,E1⟩
 have e1:=E1.next
 have R1:=Rp.ext E1
 have gp1:H1.get hb0=some (.cells (z4) 0 false):=by rw[E1.old _ om]; exact gp
 have d2:aClaim H1 hb0 (z4) none=some (cellR hb0 4 0):=claim_ok (z:=z4) gp1 rfl
 obtain⟨H2,m2,r2,n2,k2⟩:=row_storeN (H:=H1) (b:=hb0) (l:=z4) ⟨0,gp1,Nat.zero_le _⟩ (n:=4) rfl (xs:=noHit.cells) rfl rfl
 have rp2:=R1.p.same (H':=H2) (k2 _ om)
 have rw2:=R1.w.same (H':=H2) (k2 _ om)
 obtain⟨_,_,_,_,_,a18,_⟩:=ldP2 rp2
 have wr:IntKind.i64.wrap (p.rays+1)=p.rays+1:=w64
 obtain⟨p1,hp1⟩:∃q:Pth,q={ p with rays:=p.rays+1 }:=⟨_,rfl⟩
 obtain⟨H3,m3,r3,n3,k3⟩:=row_st rp2 (n:=20) rfl (i:=18) om (x:=.int .i64 (p.rays+1)) rfl (l':=pthL pb (cellR wb 25 0) p1) (by rw[hp1]; rfl)
 have ne:=R.ne
 have R3:PR H3 wb pb (skyW w h) p1 nS nS nS nS x2 x3:=⟨rw2.same (k3 _ ne),r3,om,om,ne⟩
 have O3:Only pb H H3:=⟨om,fun c h1 h2=>by rw[k3 c h2,k2 c om,E1.old c om,Ep.old c h1]⟩
 have j1:p1.thr.j∧p1.sum.j:=by rw[hp1]; exact⟨jt,js⟩
 have hpx1:0≤p1.pixel∧p1.pixel≤1000000000:=by rw[hp1]; exact hp
 have hs1:p1.sample=0:=by rw[hp1]; exact hs
 simp only[sR,sA,sB,seval,ext_0,ext_1,ext_2,tr_claim,d2,m2]
 simp only[ck_nil',ck_cons,ckP_load,ckP_claim,ckP_nil,ck_end,and_true,true_and,List.map_cons,List.map_nil,sA,sB,seval]
 refine⟨⟨_,rfl,fun _=>⟨_,d1,aeq_cellR ..⟩⟩,?_⟩
 have cw:(-1:Int)<0:=by decide
 obtain⟨_,g1,_⟩:=ldP R3.p
 obtain⟨_,_,_,_,_,w16⟩:=ldW2 R3.w
 simp only[sA,sB,seval,nil_cell,fldA,Nat.reduceAdd,a18,wr,m3,cw,g1,w16]
 refine (pshine_spec R3 j1.1 j1.2 SO.sky).mono ?_
 rintro _ H4 ⟨rfl,O4,R4⟩
 simp only[sA,sB,seval]
 refine (pend_spec R4 (show (0:Nat)<18446744073709551616 by decide) SO (sky_in (·<H.next) H w h) hpx1 (by show p1.sample≤_; omega)).mono ?_
 rintro _ H5 ⟨rfl,O5,R5⟩
 obtain⟨_,_,_,_,l17',_⟩:=ldP2 R5.p
 have hov:(endF (skyW w h) (shineF p1 ⟨0,4294967296,0⟩)).over=true:=by
  unfold endF
  rw[if_pos (by show (1:Int).toNat≤p1.sample+1; rw[hs1]; decide)]
 have l17'':oLoad false 1 H5 (cellR pb 20 17)=some (.bool true):=by rw[← hov]; exact l17'
 simp only[sA,sB,seval,nil_cell,fldA,l17'']
 refine⟨tt,O3.trans (O4.trans O5),?_⟩
 have:skyP w h p=endF (skyW w h) (shineF p1 ⟨0,4294967296,0⟩):=by rw[hp1]; rfl
 rw[this]
 exact R5
end Go.Proofs.Tc
namespace Go.Proofs.Sd
open Go.Abs Go.Abs.S
structure Jbs where
 rays:Nat
 put:Nat
 debt:Nat
 ur:Nat
 spent:Bool
 work:Nat
def jLp(b:Nat)(wp ep op pv hv:AVal)(j:Jbs):List AVal:=[.int .i64 (j.rays:Int),.int .i64 0,cellR b 14 0,wp,ep,op,.int .i64 (j.put:Int),pv,.int .i64 (j.debt:Int),.int .i64 (j.ur:Int),.int .i64 0,.bool j.spent,hv,.int .i64 (j.work:Int)]
abbrev jL(b:Nat)(wp ep op hv:AVal)(j:Jbs):List AVal:=jLp b wp ep op (.ptr none) hv j
section
variable {H:AHeap} {b:Nat} {wp ep op hv:AVal} {j:Jbs}
theorem jmade_spec(r:Row H b (jL b wp ep op hv j)):ACalls Tryz.prog noNat 34 [cellR b 14 0] H fun v H'=>v=.bool true∧H=H':=by
 have l2:oLoad false 1 H (cellR b 14 2)=some (cellR b 14 0):=row_load r rfl rfl
 have e1:aPf (.eqv true .ptr) [cellR b 14 0,.ptr none]=some (.bool true):=rfl
 have e2:aPf (.eqv false .ptr) [cellR b 14 0,cellR b 14 0]=some (.bool true):=by rw[eq_ptr]; simp
 refine acalls_ofN rfl za34 rfl ?_
 simp only[c34,sA,sB,seval,e1,nil_cell,fldA,l2,e2]
 exact⟨tt,tt⟩
def Jbs.done(n:Nat)(j:Jbs):Bool:=decide (n≤j.put)&&decide (j.debt=0)
theorem jdone_spec(r:Row H b (jL b wp ep op hv j)){n:Nat}(ho:aLenK false op=some (.int .i64 (n:Int))):ACalls Tryz.prog noNat 27 [cellR b 14 0] H fun v H'=>v=.bool (j.done n)∧H=H':=by
 have l6:oLoad false 1 H (cellR b 14 6)=some (.int .i64 (j.put:Int)):=row_load r rfl rfl
 have l5:oLoad false 1 H (cellR b 14 5)=some op:=row_load r rfl rfl
 have l8:oLoad false 1 H (cellR b 14 8)=some (.int .i64 (j.debt:Int)):=row_load r rfl rfl
 refine acalls_ofN rfl za27 rfl ?_
 simp only[c27,sA,sB,seval]
 refine (jmade_spec r).mono ?_
 rintro _ _ ⟨rfl,rfl⟩
 unfold Jbs.done
 by_cases c1:n≤j.put
 ·have c1':(n:Int)≤(j.put:Int):=om
  by_cases c2:j.debt=0
  ·have c2':(j.debt:Int)=0:=om
   simp only[sA,sB,seval,nil_cell,fldA,l6,l5,l8,ho,c1',c2']
   exact⟨by simp[c1,c2],tt⟩
  ·have c2':¬(j.debt:Int)=0:=om
   simp only[sA,sB,seval,nil_cell,fldA,l6,l5,l8,ho,c1',c2']
   exact⟨by simp[c2],tt⟩
 ·have c1':¬(n:Int)≤(j.put:Int):=om
  simp only[sA,sB,seval,nil_cell,fldA,l6,l5,l8,ho,c1']
  exact⟨by simp[c1],tt⟩
theorem jheld_spec(r:Row H b (jL b wp ep op hv j)){n:Nat}(ho:aLenK false hv=some (.int .i64 (n:Int))):ACalls Tryz.prog noNat 45 [cellR b 14 0] H fun v H'=>v=.int .i64 (n:Int)∧H=H':=by
 have l12:oLoad false 1 H (cellR b 14 12)=some hv:=row_load r rfl rfl
 refine acalls_ofN rfl za45 rfl ?_
 simp only[c45,sA,sB,seval]
 refine (jmade_spec r).mono ?_
 rintro _ _ ⟨rfl,rfl⟩
 simp only[sA,sB,seval,nil_cell,fldA,l12,ho]
 exact⟨tt,tt⟩
theorem jstill_spec(r:Row H b (jL b wp ep op hv j)){n k:Nat}(ho:aLenK false op=some (.int .i64 (n:Int)))(hh:aLenK false hv=some (.int .i64 (k:Int))):ACalls Tryz.prog noNat 54 [cellR b 14 0] H fun v H'=>v=.bool (decide (2048≤k)||j.done n)∧H=H':=by
 have l12:oLoad false 1 H (cellR b 14 12)=some hv:=row_load r rfl rfl
 refine acalls_ofN rfl za54 rfl ?_
 by_cases c1:2048≤k
 ·have c1':(2048:Int)≤(k:Int):=om
  simp only[c54,sA,sB,seval,nil_cell,fldA,l12,hh,c1']
  exact⟨by simp[c1],tt⟩
 ·have c1':¬(2048:Int)≤(k:Int):=om
  simp only[c54,sA,sB,seval,nil_cell,fldA,l12,hh,c1']
  refine (jdone_spec r ho).mono ?_
  rintro _ _ ⟨rfl,rfl⟩
  simp only[sA,sB,seval]
  exact⟨by simp[c1],tt⟩
theorem passed_spec{x y u v:Int}:ACalls Tryz.prog noNat 81 [.agg [.int .i64 x,.int .i64 y],.int .i64 u,.int .i64 v] H fun r H'=>r=.bool (decide (x<u)||decide (y<v))∧Ext H.next H H':=by
 obtain⟨H1,m1,r1,n1,k1⟩:=row_newL H [.int .i64 x,.int .i64 y] (n:=2) rfl
 have E1:Ext H.next H H1:=⟨om,fun c hc=>k1 c om⟩
 have l0:oLoad false 1 H1 (cellR H.next 2 0)=some (.int .i64 x):=row_load r1 rfl rfl
 have l1:oLoad false 1 H1 (cellR H.next 2 1)=some (.int .i64 y):=row_load r1 rfl rfl
 refine acalls_ofN rfl za81 rfl ?_
 by_cases c1:x<u
 ·simp only[c81,sA,sB,seval,cells_agg,m1,fldA,fld0,l0,l1,c1]
  exact⟨by simp[c1],E1⟩
 ·simp only[c81,sA,sB,seval,cells_agg,m1,fldA,fld0,l0,l1,c1]
  exact⟨by by_cases c2:y<v <;> simp[c1,c2],E1⟩
end
open Go.Abs Go.Abs.S
open Go.Proofs.Tc (skyS wrL nS)
open Go.Proofs.Tb (PE Bs rowsS atS leadB putF idatF hdB endB8 headF kIEND chunkF orderL eput_spec nats src_cel row_st blk_flip cel_blk cel_same)
structure En where
 rows:List Nat
 at_:Nat
 bg:Bool
 b:Bs
structure En.ok(E:En)(left:Nat):Prop where
 s:E.rows.sum=left+E.at_
 m:∀r∈E.rows,1≤r∧r≤20
 a:∀m0 rest,E.rows=m0::rest→E.at_<m0
 l:E.b.length+5*left≤4000
def En.put(E:En)(p:Bs):En:=match E.rows with
 | []=>E
 | m0::rest=>⟨rowsS m0 rest E.at_,atS m0 E.at_,true,E.b++(leadB E.at_++p)⟩
def En.told(w h left:Nat)(E:En)(p:Bs):Bs:=
 if left=0 then (if left+1=w*h then headF w h else [])++idatF (hdB E.bg++endB8 true (E.b++(leadB E.at_++p)))++chunkF kIEND [] else putF w h left E.bg
theorem leadB_len(a:Nat):(leadB a).length≤1:=by unfold leadB; split <;> simp
theorem En.ok.cons{E:En}{left:Nat}(k:E.ok (left+1)):∃m0 rest,E.rows=m0::rest∧E.at_<m0∧m0≤20:=by
 cases hr:E.rows with
 | nil=>have:=k.s; rw[hr]at this; simp at this; omega
 | cons m0 rest=>exact⟨m0,rest,rfl,k.a _ _ hr,(k.m m0 (by rw[hr]; simp)).2⟩
theorem En.ok.put{E:En}{left:Nat}{p:Bs}(k:E.ok (left+1))(hp:p.length=4):(E.put p).ok left:=by
 obtain⟨m0,rest,hr,ha,h20⟩:=k.cons
 have hs:=k.s
 have hm:=k.m
 have hl:=k.l
 rw[hr]at hs hm
 rw[List.sum_cons]at hs
 have hb:=leadB_len E.at_
 unfold En.put
 rw[hr]
 simp only
 refine⟨?_,?_,?_,?_⟩
 ·show (rowsS m0 rest E.at_).sum=left+atS m0 E.at_
  unfold rowsS atS
  split
  ·omega
  ·rw[List.sum_cons]; omega
 ·show ∀r∈rowsS m0 rest E.at_,1≤r∧r≤20
  unfold rowsS
  split
  ·exact fun r h=>hm r (List.mem_cons_of_mem _ h)
  ·exact hm
 ·show ∀m1 rest1,rowsS m0 rest E.at_=m1::rest1→atS m0 E.at_<m1
  unfold rowsS atS
  split
  ·intro m1 rest1 h
   have:=hm m1 (by rw[h]; simp)
   omega
  ·rename_i hne
   intro m1 rest1 h
   simp only[List.cons.injEq]at h
   omega
 ·show (E.b++(leadB E.at_++p)).length+5*left≤4000
  simp only[lA,hp]; omega
theorem endB8_len2{bg:Bool}{b:Bs}(hl:b.length≤4096):(endB8 bg b).length≤b.length+16:=by
 have hbl:=Go.Proofs.Tb.blkB_len 1 ([]:List Bool).length (b:=b) (sent:=0) (to:=b.length) (Nat.zero_le _) rL
 have hf:Go.Proofs.Tb.fillN (([]:List Bool).length+(Go.Proofs.Tb.blkB 1 ([]:List Bool).length b 0 b.length).length)≤7:=by unfold Go.Proofs.Tb.fillN; omega
 have hp:(Go.Proofs.Tb.pack ([]++Go.Proofs.Tb.endX ([]:List Bool).length b 0)).length≤b.length+8:=by
  rw[Go.Proofs.Tb.pack_len]
  unfold Go.Proofs.Tb.endX
  simp only[List.nil_append,lA,List.length_replicate]; omega
 have hdl:(Go.Proofs.Tb.hd bg).length≤2:=by cases bg <;> simp[Go.Proofs.Tb.hd]
 simp only[endB8,List.length_map,lA,Go.Proofs.Tb.fourL,List.length_cons,List.length_nil]at hp ⊢; omega
theorem idatF_len(t:Bs):(idatF t).length≤t.length+12:=by
 unfold idatF
 split
 ·simp
 ·rw[Go.Proofs.Tb.chunkF_len rfl]; omega
theorem told_len{w h left:Nat}{E:En}{p:Bs}(hp:p.length=4)(hl:E.b.length≤4000):(E.told w h left p).length≤E.b.length+90:=by
 have hlb:=leadB_len E.at_
 have hdl:(hdB E.bg).length≤2:=by cases E.bg <;> simp[hdB,Go.Proofs.Tb.hd]
 have hh:(if left+1=w*h then headF w h else []).length≤33:=by
  split
  ·show (headF w h).length≤33
   exact Nat.le_of_eq rfl
  ·simp
 have hx:(E.b++(leadB E.at_++p)).length≤E.b.length+5:=by simp only[lA,hp]; omega
 unfold En.told putF
 split
 ·have a:=endB8_len2 (bg:=true) (b:=E.b++(leadB E.at_++p)) om
  have i:=idatF_len (hdB E.bg++endB8 true (E.b++(leadB E.at_++p)))
  have ic:(chunkF kIEND []).length=12:=rfl
  rw[lA]at i
  rw[lA,lA,ic]
  omega
 ·have i:=idatF_len (hdB E.bg)
  rw[lA]
  omega
structure JobI(S:Nat→Prop)(H:AHeap)(b w h:Nat)(j:Jbs)(E:En)(q:Bs)(pv:AVal)(τ:Nat→Nat)(m lo e z wb:Nat)(x2 x3 ov hv:AVal):Prop where
 r:Row H b (jLp b (cellR wb 25 0) (cellR e 7 0) ov pv hv j)
 rw:Row H wb (wrL wb (skyS w h) nS nS nS nS x2 x3)
 o:Cel H.next H ov (nats (orderL w h))
 pe:j.put<w*h→PE m lo τ H e z w h (w*h-j.put) E.rows E.at_ E.bg E.b
 hc:Cut H hv (byts q)
 mn:m≤H.next
 sb:S b
 sw:S wb
 se:S e
 sz:S z
 st:∀c,τ c≠0→S c
 sl:∀c,lo≤c→c<m→S c
 so:Blk ov S
 sh:Blk hv S
 sn:∀c,S c→c<H.next
 b1:τ b=0∧b≠e∧b≠z∧b≠wb∧¬(lo≤b∧b<m)
 b2:Blk ov fun c=>τ c=0∧c≠e∧c≠z∧c≠b
 b3:Blk hv fun c=>τ c=0∧c≠e∧c≠z∧c≠b∧c≠wb∧¬(lo≤c∧c<m)∧Blk ov (c≠·)
 b4:τ wb=0∧wb≠e∧wb≠z
def JobK(S:Nat→Prop)(H:AHeap)(b w h:Nat)(j:Jbs)(E:En)(q:Bs)(pv:AVal):Prop:=∃τ m lo e z wb x2 x3 ov hv,JobI S H b w h j E q pv τ m lo e z wb x2 x3 ov hv
def FrJ(S:Nat→Prop)(H:AHeap)(S':Nat→Prop)(H':AHeap):Prop:=H.next≤H'.next∧(∀c,S' c→S c∨H.next≤c)∧∀c,c<H.next→¬S c→H'.get c=H.get c
theorem FrJ.trans{S S' S'':Nat→Prop}{H H' H'':AHeap}(f:FrJ S H S' H')(g:FrJ S' H' S'' H''):FrJ S H S'' H'':=
 ⟨Nat.le_trans f.1 g.1,fun c hc=>(g.2.1 c hc).elim (fun k=>f.2.1 c k) fun k=>.inr (Nat.le_trans f.1 k),fun c hc hn=>by rw[g.2.2 c (Nat.lt_of_lt_of_le hc f.1) (fun k=>(f.2.1 c k).elim hn om),f.2.2 c hc hn]⟩
theorem u8c(p:Bs)(h:p.length=4):(byts p).length=4:=by rw[byts_len,h]
theorem finish_spec{S:Nat→Prop}{H:AHeap}{b w h:Nat}{j:Jbs}{E:En}{q p:Bs}{pv:AVal}(J:JobK S H b w h j E q pv)(hw:w≤6)(hh:h≤6)(hj:j.put<w*h)(k:E.ok (w*h-j.put))(hp:p.length=4)(hq:q.length≤100000) :
  ACalls Tryz.prog noNat 77 [cellR b 14 0,.agg (byts p)] H fun r H'=>r=.tuple []∧∃S',JobK S' H' b w h { j with put:=j.put+1 } (E.put p) (q++E.told w h (w*h-(j.put+1)) p) (.ptr none)∧FrJ S H S' H':=by
 obtain⟨τ,m,lo,e,z,wb,x2,x3,ov,hv,J⟩:=J
 obtain⟨left,hleft⟩:∃l,w*h-j.put=l+1:=⟨w*h-j.put-1,om⟩
 have hleft':w*h-(j.put+1)=left:=om
 have hwh:w*h≤6*6:=Nat.mul_le_mul hw hh
 rw[hleft]at k
 obtain⟨m0,rest,hr,ha,h20⟩:=k.cons
 have P:=J.pe hj
 rw[hleft,hr]at P
 obtain⟨H1,m1,r1,n1,k1⟩:=row_newL H (byts p) (n:=4) (u8c p hp)
 have hbn:=J.sn _ J.sb
 have R1:=J.r.same (H':=H1) (k1 _ om)
 have l4:oLoad false 1 H1 (cellR b 14 4)=some (cellR e 7 0):=row_load R1 rfl rfl
 have lp:oLoad true 4 H1 (cellR H.next 4 0)=some (.agg (byts p)):=row_loadN r1 (u8c p hp)
 have P1:PE m lo τ H1 e z w h (left+1) (m0::rest) E.at_ E.bg E.b:=P.fr2 J.mn om fun c hc _=>k1 c om
 have hbl:=k.l
 refine acalls_ofN rfl za77 rfl ?_
 simp only[c77,sA,sB,seval,cells_agg,m1,nil_cell,fldA,l4,lp]
 refine (eput_spec P1 om om om h20 ha (by have:=J.mn; omega) om hp).mono ?_
 rintro _ H2 ⟨v,τ',rfl,g1,g2,g3,g4⟩
 have told:∃A,A=E.told w h left p∧AppN 1 0 H2 v (byts A) A.length∧Blk v (H1.next≤·):=by
  by_cases h0:left=0
  ·obtain⟨l,hl,A,B⟩:=g2 h0
   exact⟨l,by unfold En.told; rw[if_pos h0,hl,h0],A,B⟩
  ·obtain⟨_,A,B⟩:=g1 h0
   exact⟨_,by unfold En.told; rw[if_neg h0],A,B.mono fun c hc=>hc.2⟩
 obtain⟨A,hA,AA,AB⟩:=told
 rw[hleft',← hA]
 have fr:∀c,c<H.next→τ c=0→τ' c=0∧(c≠z→c≠e→H2.get c=H.get c):=fun c hc h0=>by
  obtain⟨a1,a2⟩:=g4 c om h0
  exact⟨a1,fun h1 h2=>by rw[a2 h1 h2,k1 c om]⟩
 obtain⟨d1,d2,d3,d4,d5⟩:=J.b1
 have R2:Row H2 b (jLp b (cellR wb 25 0) (cellR e 7 0) ov pv hv j):=J.r.same ((fr b hbn d1).2 d3 d2)
 have l12:oLoad false 1 H2 (cellR b 14 12)=some hv:=row_load R2 rfl rfl
 have hvb:=J.hc.blk.and J.b3
 have C2:Cut H2 hv (byts q):=J.hc.same om (hvb.mono fun c hc=>(fr c hc.1 hc.2.1).2 hc.2.2.2.1 hc.2.2.1)
 have hal:A.length≤500000:=by have:=told_len (w:=w) (h:=h) (left:=left) hp (show E.b.length≤4000 by omega); rw[hA]; omega
 obtain⟨hv',H3,m3,C3,n3,b3,o3⟩:=C2.push (src_cel (AA.cel1 AA.blk')) (byts_len A) (byts_one _) (by rw[byts_len]; omega)
 have R3:Row H3 b (jLp b (cellR wb 25 0) (cellR e 7 0) ov pv hv j):=R2.same (o3 b om (hvb.mono fun c hc=>fun q=>hc.2.2.2.2.1 q.symm))
 obtain⟨H4,m4,R4,n4,k4⟩:=row_st R3 (n:=14) rfl (i:=12) om (x:=hv') C3.one (l':=jLp b (cellR wb 25 0) (cellR e 7 0) ov pv hv' j) rfl
 have l6:oLoad false 1 H4 (cellR b 14 6)=some (.int .i64 (j.put:Int)):=row_load R4 rfl rfl
 have w6:IntKind.i64.wrap ((j.put:Int)+1)=((j.put+1:Nat):Int):=w64
 obtain⟨H5,m5,R5,n5,k5⟩:=row_st R4 (n:=14) rfl (i:=6) om (x:=.int .i64 ((j.put+1:Nat):Int)) rfl (l':=jLp b (cellR wb 25 0) (cellR e 7 0) ov pv hv' { j with put:=j.put+1 }) rfl
 obtain⟨H6,m6,R6,n6,k6⟩:=row_st R5 (n:=14) rfl (i:=7) om (x:=.ptr none) rfl (l':=jLp b (cellR wb 25 0) (cellR e 7 0) ov (.ptr none) hv' { j with put:=j.put+1 }) rfl
 simp only[sA,sB,seval,ext_0,ext_1,nil_cell,fldA,l12,m3,m4,l6,w6,m5,m6,fin_n0]
 have e6:∀c,c≠b→H6.get c=H3.get c:=fun c hc=>by rw[k6 c hc,k5 c hc,k4 c hc]
 have en6:H6.next=H3.next:=om
 have f6:∀c,c<H2.next→c≠b→Blk hv (c≠·)→H6.get c=H2.get c:=fun c hc h1 h2=>by rw[e6 c h1,o3 c hc h2]
 obtain⟨τ2,t1,t2,t3⟩:∃τ2:Nat→Nat,(∀c,c<H.next→τ c=0→τ2 c=0)∧(∀c,τ2 c≠0→c<H2.next∧(S c∨H.next≤c))∧(left≠0→PE m lo τ2 H2 e z w h left (rowsS m0 rest E.at_) (atS m0 E.at_) true (E.b++(leadB E.at_++p))):=by
  by_cases h0:left=0
  ·exact⟨τ,fun c _ h=>h,fun c hc=>⟨by have:=J.sn _ (J.st c hc); omega,.inl (J.st c hc)⟩,fun h=>absurd h0 h⟩
  ·obtain⟨P2,_⟩:=g1 h0
   refine⟨τ',fun c h1 h2=>(fr c h1 h2).1,fun c hc=>⟨?_,?_⟩,fun _=>P2⟩
   ·obtain⟨n0,Kz,Z⟩:=P2.zw
    exact Nat.lt_of_not_le fun q=>hc (Z.lt.2.2 c q)
   ·by_cases hn:c<H.next
    ·exact .inl (J.st c fun q=>hc (fr c hn q).1)
    ·exact .inr om
 refine⟨tt,fun c=>S c∨(H.next≤c∧c<H6.next),⟨τ2,m,lo,e,z,wb,x2,x3,ov,hv',?_⟩,om,fun c hc=>hc.elim .inl fun k=>.inr k.1,fun c hc hn=>?_⟩
 ·have hhb:Blk hv fun c=>c<H.next∧τ c=0∧c≠e∧c≠z∧c≠b∧c≠wb∧¬(lo≤c∧c<m)∧Blk ov (c≠·):=hvb
  have hvn:∀c,(τ c≠0∨(lo≤c∧c<m)∨c=z∨c=e∨c=b∨c=wb)→Blk hv (c≠·):=fun c hc=>hhb.mono fun d hd q=>by
   subst q
   obtain⟨_,q1,q2,q3,q4,q5,q6,_⟩:=hd
   rcases hc with h | h | h | h | h | h
   ·exact h q1
   ·exact q6 h
   ·exact q3 h
   ·exact q2 h
   ·exact q4 h
   ·exact q5 h
  refine⟨R6,?_,?_,?_,?_,?_,.inl J.sb,.inl J.sw,.inl J.se,.inl J.sz,?_,fun c h1 h2=>.inl (J.sl c h1 h2),J.so.mono fun c hc=>.inl hc,?_,?_,?_,?_,?_,?_⟩
  ·have wn:=J.sn _ J.sw
   refine J.rw.same ?_
   rw[f6 wb om (fun q=>d4 q.symm) (hvn wb (.inr (.inr (.inr (.inr (.inr rfl)))))),(fr wb wn J.b4.1).2 J.b4.2.2 J.b4.2.1]
  ·have ob:=((cel_blk J.o).and J.b2).and (blk_flip (hhb.mono fun c hc=>hc.2.2.2.2.2.2.2))
   exact cel_same J.o om (ob.mono fun c hc=>by
    obtain⟨⟨q1,q2,q3,q4,q5⟩,q6⟩:=hc
    rw[f6 c om q5 q6,(fr c q1 q2).2 q4 q3])
  ·intro hlt
   have h0:left≠0:=fun q=>by have:j.put+1<w*h:=hlt; omega
   have P2:=(t3 h0).fr2 (H':=H6) (by have:=J.mn; omega) om fun c hc hq=>f6 c hc (fun q=>by
    subst q
    rcases hq with hq | hq | hq | hq
    ·exact hq (t1 _ hbn d1)
    ·exact d5 hq
    ·exact d3 hq
    ·exact d2 hq) (hhb.mono fun d hd q=>by
    subst q
    obtain⟨q0,q1,q2,q3,q4,q5,q6,_⟩:=hd
    rcases hq with hq | hq | hq | hq
    ·exact hq (t1 _ q0 q1)
    ·exact q6 hq
    ·exact q3 hq
    ·exact q2 hq)
   have e1:w*h-(j.put+1)=left:=hleft'
   have e2:E.put p=⟨rowsS m0 rest E.at_,atS m0 E.at_,true,E.b++(leadB E.at_++p)⟩:=by unfold En.put; rw[hr]
   rw[e2]
   show PE m lo τ2 H6 e z w h (w*h-(j.put+1)) _ _ _ _
   rw[e1]
   exact P2
  ·rw[byts_append]
   exact C3.same om ((b3 _ (hhb.mono fun c hc=>hc.2.2.2.2.1)).mono fun c hc=>e6 c (hc.elim id fun q=>om))
  ·have:=J.mn; omega
  ·exact fun c hc=>by
    obtain⟨q1,q2⟩:=t2 c hc
    exact q2.elim .inl fun q=>.inr ⟨q,om⟩
  ·exact (C3.blk.and (b3 _ J.sh)).mono fun c hc=>hc.2.elim .inl fun q=>.inr ⟨om,om⟩
  ·exact fun c hc=>hc.elim (fun q=>by have:=J.sn c q; omega) fun q=>q.2
  ·exact⟨t1 _ hbn d1,d2,d3,d4,d5⟩
  ·exact ((cel_blk J.o).and J.b2).mono fun c hc=>⟨t1 c hc.1 hc.2.1,hc.2.2⟩
  ·refine (b3 _ hhb).mono fun c hc=>?_
   rcases hc with⟨q0,q1,q2⟩ | hc
   ·exact⟨t1 c q0 q1,q2⟩
   ·have h1:=J.sn _ J.se
    have h2:=J.sn _ J.sz
    have h3:=J.sn _ J.sw
    have h4:=J.mn
    refine⟨Classical.byContradiction fun q=>by have:=(t2 c q).1; omega,om,om,om,om,om,(cel_blk J.o).mono fun d hd q=>om⟩
  ·exact⟨t1 _ (J.sn _ J.sw) J.b4.1,J.b4.2⟩
 ·have t0:τ c=0:=Classical.byContradiction fun q=>hn (J.st c q)
  rw[f6 c om (fun q=>hn (q ▸ J.sb)) (J.sh.mono fun d hd q=>hn (q ▸ hd)),(fr c hc t0).2 (fun q=>hn (q ▸ J.sz)) (fun q=>hn (q ▸ J.se))]
open Go.Abs Go.Abs.S
open Go.Proofs.Tc (skyS wrL nS skyW skyP pth0 startF pixC pixelF sky_in sky_ok checkB_ok)
open Go.Proofs.Tb (PE Bs orderL nats row_st cel_blk cel_same okP)
theorem JobI.fr{S:Nat→Prop}{H H':AHeap}{b w h:Nat}{j j':Jbs}{E:En}{q:Bs}{pv pv':AVal}{τ:Nat→Nat}{m lo e z wb:Nat}{x2 x3 ov hv:AVal}(J:JobI S H b w h j E q pv τ m lo e z wb x2 x3 ov hv)
  (hn:H.next≤H'.next) (ek:∀c,S c→c≠b→H'.get c=H.get c) (r:Row H' b (jLp b (cellR wb 25 0) (cellR e 7 0) ov pv' hv j')) (hp:j'.put=j.put):JobI S H' b w h j' E q pv' τ m lo e z wb x2 x3 ov hv:=by
 obtain⟨d1,d2,d3,d4,d5⟩:=J.b1
 exact⟨r,J.rw.same (ek _ J.sw d4.symm),cel_same J.o hn ((J.so.and J.b2).mono fun c hc=>ek c hc.1 hc.2.2.2.2),fun hlt=>by
  rw[hp]at hlt ⊢
  exact (J.pe hlt).fr2 J.mn hn fun c hc hq=>by
   rcases hq with hq | hq | hq | hq
   ·exact ek c (J.st c hq) (fun k=>hq (k ▸ d1))
   ·exact ek c (J.sl c hq.1 hq.2) (fun k=>d5 (k ▸ hq))
   ·exact ek c (hq ▸ J.sz) (fun k=>d3 (k ▸ hq))
   ·exact ek c (hq ▸ J.se) (fun k=>d2 (k ▸ hq)),J.hc.same hn ((J.sh.and J.b3).mono fun c hc=>ek c hc.1 hc.2.2.2.2.1),Nat.le_trans J.mn hn,J.sb,J.sw,J.se,J.sz,J.st,J.sl,J.so,J.sh,fun c hc=>Nat.lt_of_lt_of_le (J.sn c hc) hn,J.b1,J.b2,J.b3,J.b4⟩
def skyB:Bs:=[0,255,0,255]
def noB:Bs:=[0,0,0,0]
theorem sky_sum(w h:Nat)(px:Int):(skyP w h (startF (skyW w h) (pth0 px))).sum=⟨0,4294967296,0⟩:=by
 unfold skyP Go.Proofs.Tc.endF
 rw[if_pos (by show (1:Int).toNat≤0+1; decide)]
 show Go.Proofs.Tc.vAdd Go.Proofs.Tc.V0 (Go.Proofs.Tc.vMul ⟨4294967296,4294967296,4294967296⟩ ⟨0,4294967296,0⟩)=_
 decide
theorem sky_rest(w h:Nat)(px:Int):(skyP w h (startF (skyW w h) (pth0 px))).rays=1∧(skyP w h (startF (skyW w h) (pth0 px))).shades=0∧(skyP w h (startF (skyW w h) (pth0 px))).over=true:=by
 unfold skyP Go.Proofs.Tc.endF
 rw[if_pos (by show (1:Int).toNat≤0+1; decide)]
 exact⟨rfl,rfl,rfl⟩
theorem sky_pix:pixC (pixelF ⟨0,4294967296,0⟩ 1)=byts skyB:=by
 have:pixelF ⟨0,4294967296,0⟩ 1=(0,255,0):=by decide
 rw[this]; rfl
open Go.Abs Go.Abs.S
open Go.Proofs.Tc (skyS wrL nS skyW skyP pth0 startF pixC pixelF sky_in sky_ok checkB_ok begin_spec used_spec step0_spec color_spec)
open Go.Proofs.Tb (PE Bs orderL nats row_st cel_blk cel_same okP)
def Jbs.step(j:Jbs):Jbs×Bs:=
 if j.spent then ({ j with put:=j.put+1 },noB) else
 ({ j with put:=j.put+1,debt:=0,ur:=j.ur+1,spent:=decide (j.rays<j.ur+1) },if j.rays<j.ur+1 then noB else skyB)
theorem one_j:(⟨4294967296,4294967296,4294967296⟩:Go.Proofs.Tc.V).j:=⟨⟨by decide,by decide⟩,⟨by decide,by decide⟩,by decide,by decide⟩
theorem v0_j:Go.Proofs.Tc.V0.j:=⟨⟨by decide,by decide⟩,⟨by decide,by decide⟩,by decide,by decide⟩
theorem step_spec{S:Nat→Prop}{H:AHeap}{b w h:Nat}{j:Jbs}{E:En}{q:Bs}(J:JobK S H b w h j E q (.ptr none))(hw:1≤w∧w≤6)(hh:1≤h∧h≤6)(hj:j.put<w*h)(k:E.ok (w*h-j.put))(hq:q.length≤100000)(hu:j.ur≤1000000) :
  ACalls Tryz.prog noNat 55 [cellR b 14 0] H fun r H'=>r=.tuple []∧∃S',JobK S' H' b w h j.step.1 (E.put j.step.2) (q++E.told w h (w*h-(j.put+1)) j.step.2) (.ptr none)∧FrJ S H S' H':=by
 have J0:=J
 obtain⟨τ,m,lo,e,z,wb,x2,x3,ov,hv,J⟩:=J
 have hbn:=J.sn _ J.sb
 have bz:aBuild [.int .u8 0,.int .u8 0,.int .u8 0,.int .u8 0] []=some (.agg (byts noB)):=rfl
 have l11:oLoad false 1 H (cellR b 14 11)=some (.bool j.spent):=row_load J.r rfl rfl
 refine acalls_ofN rfl za55 rfl ?_
 cases hs:j.spent with
 | true=>
  rw[hs]at l11
  have e1:j.step=({ j with put:=j.put+1 },noB):=by unfold Jbs.step; rw[if_pos hs]
  rw[e1]
  simp only[c55,sA,sB,seval,nil_cell,fldA,l11,bz]
  refine (finish_spec J0 hw.2 hh.2 hj k (p:=noB) rfl hq).mono ?_
  rintro _ H' ⟨rfl,S',K,F⟩
  simp only[sA,sB,seval,Go.Proofs.Tc.fin_r0]
  exact⟨tt,S',K,F⟩
 | false=>
  rw[hs]at l11
  have e1:j.step=({ j with put:=j.put+1,debt:=0,ur:=j.ur+1,spent:=decide (j.rays<j.ur+1) },if j.rays<j.ur+1 then noB else skyB):=by unfold Jbs.step; rw[if_neg (by rw[hs]; simp)]
  rw[e1]
  have OK:=okP hw.1 om hh.1 om
  have hlen:=OK.len
  obtain⟨px,hpx⟩:∃px,(orderL w h)[j.put]?=some px:=⟨_,List.getElem?_eq_getElem om⟩
  have hpx2:px<w*h:=OK.lt px (List.mem_of_getElem? hpx)
  have l3:oLoad false 1 H (cellR b 14 3)=some (cellR wb 25 0):=row_load J.r rfl rfl
  have l5:oLoad false 1 H (cellR b 14 5)=some ov:=row_load J.r rfl rfl
  have l6:oLoad false 1 H (cellR b 14 6)=some (.int .i64 (j.put:Int)):=row_load J.r rfl rfl
  have l7:oLoad false 1 H (cellR b 14 7)=some (.ptr none):=row_load J.r rfl rfl
  have epn:aPf (.eqv false .ptr) [.ptr none,.ptr none]=some (.bool true):=rfl
  have ix:=J.o.idx .i64 (i:=j.put) (by simp[nats,hlen]; omega)
  have lx:oLoad false 1 H (cellP ov j.put)=some (.int .i64 (px:Int)):=J.o.load (by simp[nats,hpx])
  have SO:=checkB_ok (sky_ok hw hh)
  have pxw:(px:Int)<(w:Int)*(h:Int):=by rw[← Int.natCast_mul]; omega
  refine wp_cutP [1,1] ?_
  simp only[c55,sC,sA,sB,seval,nil_cell,fldA,l11,l7,epn,l3,l5,l6,ix,lx]
  refine (begin_spec (w:=skyW w h) J.rw (J.sn _ J.sw) (sky_in _ _ _ _) SO (show (0:Nat)<18446744073709551616 by decide) (px:=(px:Int)) om pxw).mono ?_
  rintro _ H1 ⟨rfl,E1,PR1⟩
  have e1n:=E1.next
  have hpb:H.next<H1.next:=PR1.pn
  obtain⟨d1,d2,d3,d4,d5⟩:=J.b1
  have J1:=J.fr (H':=H1) e1n (fun c hc _=>E1.old c (J.sn c hc)) (J.r.same (E1.old _ hbn)) rfl
  obtain⟨pb,hpbe⟩:∃pb,pb=H.next:=⟨_,rfl⟩
  rw[← hpbe]at PR1 hpb ⊢
  obtain⟨H2,m2,R2,n2,k2⟩:=row_st J1.r (n:=14) rfl (i:=7) om (x:=cellR pb 20 0) rfl (l':=jLp b (cellR wb 25 0) (cellR e 7 0) ov (cellR pb 20 0) hv j) rfl
  have J2:=J1.fr (H':=H2) om (fun c _ hc=>k2 c hc) R2 rfl
  have PR2:Go.Proofs.Tc.PR H2 wb pb (skyW w h) (startF (skyW w h) (pth0 (px:Int))) nS nS nS nS x2 x3:=⟨PR1.w.same (k2 _ d4.symm),PR1.p.same (k2 _ om),by have:=PR1.wn; omega,om,PR1.ne⟩
  have g7:oLoad false 1 H2 (cellR b 14 7)=some (cellR pb 20 0):=row_load R2 rfl rfl
  simp only[sA,sB,seval,ext_0,ext_1,nil_cell,fldA,m2]
  rw[hold_eq]
  simp only[c55,restP,sA,sB,seval,nil_cell,fldA,g7]
  refine (used_spec PR2).mono ?_
  rintro _ _ ⟨rfl,rfl⟩
  have z0:(startF (skyW w h) (pth0 (px:Int))).rays=0:=rfl
  have z1:(startF (skyW w h) (pth0 (px:Int))).shades=0:=rfl
  simp only[sA,sB,seval,ext_0,ext_1,nil_cell,fldA,g7,z0,z1]
  refine (step0_spec PR2 SO one_j v0_j rfl rfl ⟨by show (0:Int)≤px; omega,by show (px:Int)≤_; have:=Nat.mul_le_mul hw.2 hh.2; omega⟩ ⟨Int.le_refl 0,show (0:Int)≤1000000000 by decide⟩ rfl).mono ?_
  rintro _ H3 ⟨rfl,O3,PR3⟩
  have J3:=J2.fr (H':=H3) O3.1 (fun c hc _=>O3.2 c (by have:=J2.sn c hc; omega) (by have:=J.sn c hc; omega)) (R2.same (O3.2 b om om)) rfl
  have g37:oLoad false 1 H3 (cellR b 14 7)=some (cellR pb 20 0):=row_load J3.r rfl rfl
  obtain⟨s1,s2,s3⟩:=sky_rest w h px
  have s4:=sky_sum w h px
  simp only[sA,sB,seval,ext_0,ext_1,nil_cell,fldA,g37]
  refine (used_spec PR3).mono ?_
  rintro _ _ ⟨rfl,rfl⟩
  rw[s1,s2]
  have R3:=J3.r
  have h9:oLoad false 1 H3 (cellR b 14 9)=some (.int .i64 (j.ur:Int)):=row_load R3 rfl rfl
  have w9:IntKind.i64.wrap ((j.ur:Int)+1)=((j.ur+1:Nat):Int):=w64
  have wa:IntKind.i64.wrap 1=1:=by decide
  have wb0:IntKind.i64.wrap 0=0:=by decide
  have mm0:aPf (.mm true) [.int .i64 0,.int .i64 0]=some (.int .i64 0):=rfl
  obtain⟨H4,m4,R4,n4,k4⟩:=row_st R3 (n:=14) rfl (i:=9) om (x:=.int .i64 ((j.ur+1:Nat):Int)) rfl (l':=jLp b (cellR wb 25 0) (cellR e 7 0) ov (cellR pb 20 0) hv { j with ur:=j.ur+1 }) rfl
  have h10:oLoad false 1 H4 (cellR b 14 10)=some (.int .i64 0):=row_load R4 rfl rfl
  obtain⟨H5,m5,R5,n5,k5⟩:=row_st R4 (n:=14) rfl (i:=10) om (x:=.int .i64 0) rfl (l':=jLp b (cellR wb 25 0) (cellR e 7 0) ov (cellR pb 20 0) hv { j with ur:=j.ur+1 }) rfl
  obtain⟨H6,m6,R6,n6,k6⟩:=row_st R5 (n:=14) rfl (i:=8) om (x:=.int .i64 0) rfl (l':=jLp b (cellR wb 25 0) (cellR e 7 0) ov (cellR pb 20 0) hv { j with debt:=0,ur:=j.ur+1 }) rfl
  have o6:∀c,c≠b→H6.get c=H3.get c:=fun c hc=>by rw[k6 c hc,k5 c hc,k4 c hc]
  have en6:H6.next=H3.next:=om
  have J6:=J3.fr (H':=H6) om (fun c _ hc=>o6 c hc) R6 rfl
  have i0:oLoad true 2 H6 (cellR b 14 0)=some (.agg [.int .i64 (j.rays:Int),.int .i64 0]):=row_loadK R6 (n:=14) rfl (i:=0) (k:=2) om
  have i9:oLoad false 1 H6 (cellR b 14 9)=some (.int .i64 ((j.ur+1:Nat):Int)):=row_load R6 rfl rfl
  have i10:oLoad false 1 H6 (cellR b 14 10)=some (.int .i64 0):=row_load R6 rfl rfl
  simp only[sA,sB,seval,ext_0,ext_1,nil_cell,fldA,h9,wa,w9,m4,h10,wb0,m5,mm0,m6,fld0,i0,i9,i10]
  refine passed_spec.mono ?_
  rintro _ H7 ⟨rfl,E7⟩
  have e7:=E7.next
  have J7:=J6.fr (H':=H7) e7 (fun c hc _=>E7.old c (J6.sn c hc)) (R6.same (E7.old _ (J6.sn b J6.sb))) rfl
  have h3:H3.next=H6.next:=om
  have bl3:b<H3.next:=J3.sn b J3.sb
  have fr7:∀c,c<H.next→¬S c→H7.get c=H.get c:=fun c hc hn=>by
   have hcb:c≠b:=fun q=>hn (q ▸ J.sb)
   rw[E7.old c (by have:=O3.1; omega),o6 c hcb,O3.2 c om om,k2 c hcb,E1.old c hc]
  have n7:H.next≤H7.next:=by have:=O3.1; omega
  by_cases c1:j.rays<j.ur+1
  ·have c1':(j.rays:Int)<((j.ur+1:Nat):Int):=om
   have bt:(decide ((j.rays:Int)<((j.ur+1:Nat):Int))||decide ((0:Int)<0))=true:=by rw[decide_eq_true c1']; rfl
   rw[bt]
   obtain⟨H8,m8,R8,n8,k8⟩:=row_st J7.r (n:=14) rfl (i:=11) om (x:=.bool true) rfl (l':=jLp b (cellR wb 25 0) (cellR e 7 0) ov (cellR pb 20 0) hv { j with debt:=0,ur:=j.ur+1,spent:=true }) rfl
   have J8:=J7.fr (H':=H8) om (fun c _ hc=>k8 c hc) R8 rfl
   simp only[sA,sB,seval,nil_cell,fldA,m8,bz]
   refine (finish_spec (j:={ j with debt:=0,ur:=j.ur+1,spent:=true }) ⟨_,_,_,_,_,_,_,_,_,_,J8⟩ hw.2 hh.2 hj k (p:=noB) rfl hq).mono ?_
   rintro _ H' ⟨rfl,S',K,F⟩
   simp only[sA,sB,seval,Go.Proofs.Tc.fin_r0]
   rw[decide_eq_true c1,if_pos c1]
   exact⟨tt,S',K,FrJ.trans (S':=S) (H':=H8) ⟨om,fun c hc=>.inl hc,fun c hc hn=>by rw[k8 c (fun q=>hn (q ▸ J.sb)),fr7 c hc hn]⟩ F⟩
  ·have c1':¬(j.rays:Int)<((j.ur+1:Nat):Int):=om
   have bf:(decide ((j.rays:Int)<((j.ur+1:Nat):Int))||decide ((0:Int)<0))=false:=by rw[decide_eq_false c1']; rfl
   rw[bf]
   have g77:oLoad false 1 H7 (cellR b 14 7)=some (cellR pb 20 0):=row_load J7.r rfl rfl
   have wbn:=PR3.wn
   have pbn:=PR3.pn
   have PR7:Go.Proofs.Tc.PR H7 wb pb (skyW w h) (skyP w h (startF (skyW w h) (pth0 (px:Int)))) nS nS nS nS x2 x3:=⟨PR3.w.same (by rw[E7.old _ om,o6 _ d4.symm]),PR3.p.same (by rw[E7.old _ om,o6 _ om]),om,om,PR3.ne⟩
   simp only[sA,sB,seval,nil_cell,fldA,g77]
   refine (color_spec PR7 (by rw[s4]; exact⟨⟨by decide,by decide⟩,⟨by decide,by decide⟩,by decide,by decide⟩) s3).mono ?_
   rintro _ H8 ⟨rfl,E8⟩
   have e8:=E8.next
   rw[s4,show (skyW w h).sc.sm=1 from rfl,sky_pix]
   have J8:=J7.fr (H':=H8) e8 (fun c hc _=>E8.old c (J7.sn c hc)) (J7.r.same (E8.old _ (J7.sn b J7.sb))) rfl
   simp only[sA,sB,seval]
   refine (finish_spec (j:={ j with debt:=0,ur:=j.ur+1 }) ⟨_,_,_,_,_,_,_,_,_,_,J8⟩ hw.2 hh.2 hj k (p:=skyB) rfl hq).mono ?_
   rintro _ H' ⟨rfl,S',K,F⟩
   simp only[sA,sB,seval,fin_n0]
   rw[decide_eq_false c1,if_neg c1]
   refine⟨tt,S',?_,FrJ.trans (S':=S) (H':=H8) ⟨om,fun c hc=>.inl hc,fun c hc hn=>by rw[E8.old c om,fr7 c hc hn]⟩ F⟩
   have:({ j with put:=j.put+1,debt:=0,ur:=j.ur+1,spent:=false }:Jbs)={ j with put:=j.put+1,debt:=0,ur:=j.ur+1 }:=by rw[hs]
   rw[this]
   exact K
end Go.Proofs.Sd
