/- Part of a proof (UM6 UM7 UM8 UM9 UMA UMB UN1 L1); no condition. -/
import Derived.OpenShut
import Derived.SizedLaws
import Derived.WalkKit
import Derived.Below
import Derived.ChangeSame
import Derived.ReadAgain
import Derived.ProofKit
import Derived.Test.YtkkjbpmlejjhjaaGreatP5
import Derived.Test.YtkkjbpmlejjhjaaGreatP12
set_option linter.unusedSimpArgs false
set_option linter.unusedVariables false
set_option linter.defProp false
set_option linter.unnecessarySimpa false
namespace Go.Proofs.Tc
open Go.Abs Go.Abs.S
def stepR(w:Wrl)(p:Pth)(least:Int):(Nat×Bool)×Pth:=
 let nr:=nearestF w p.ray least
 let h:=nr.1
 let cost:=nr.2.2
 let p:={ p with rays:=p.rays+1 }
 if nr.2.1<0 then doneF w cost (shineF p w.sc.sky) else
 match w.parts[nr.2.1.toNat]? with
 | none=>doneF w cost (shineF p w.sc.sky)
 | some pr=>
  match w.sc.ms[pr.mat h.i.toNat]? with
  | none=>doneF w cost p
  | some m=>
   let n:=normalF pr.msh h (movedF pr p.ray)
   let pt:=lookP p.ray h
   if m.k=3 then doneF w cost (shineF p m.c) else surfF w m pt n (shdF w m.k (pr.mat h.i.toNat) h pt n) cost p
theorem stepF_R{w:Wrl}{p:Pth}(h:p.over=false):stepF w p=stepR w p (if p.bounce=0 then 1 else 65536):=by
 unfold stepF; rw[if_neg (by rw[h]; simp)]; rfl
theorem mat1_spec{b k:Nat}{u:Us}{H:AHeap}(r:Row H b (usL u)):ACalls Tryz.prog noNat 14 [.int .i64 (k:Int),cellR b 5 0] H fun v H'=>v=.int .i64 u.m∧H=H':=by
 have l:oLoad false 1 H (cellR b 5 4)=some (.int .i64 u.m):=row_load r rfl rfl
 refine acalls_ofN rfl za14 rfl ?_
 simp only[c14,sA,sB,seval,fldA,l]
 exact⟨tt,tt⟩
theorem mat2_spec{P:Nat→Prop}{b k:Nat}{v:AVal}{l:List Rd}{x:Rd}{H:AHeap}(r:Row H b [v])(S:SlK P H 5 v l.length (l.flatMap rdL))(hx:l[k]?=some x):ACalls Tryz.prog noNat 15 [.int .i64 (k:Int),cellR b 1 0] H fun v H'=>v=.int .i64 x.m∧H=H':=by
 have lv:oLoad false 1 H (cellR b 1 0)=some v:=row_load r rfl rfl
 have hk:=(List.getElem?_eq_some_iff.1 hx).1
 have ix:=S.idx hk
 have f4:=S.fldO hk 4
 have l4:=S.loadO rd_len hx (o:=4) om (y:=.int .i64 x.m) rfl
 refine acalls_ofN rfl za15 rfl ?_
 simp only[c15,sA,sB,seval,lv,ix,f4,l4]
 exact⟨tt,tt⟩
theorem mat_call{P:Nat→Prop}{H:AHeap}{f:AVal}{n k:Nat}{g:Nat→Nat}(F:MtF P H f n g)(hk:k<n){Q:AVal→AHeap→Prop}(hQ:Q (.int .i64 (g k:Int)) H):callvP (ACalls Tryz.prog noNat) f [.int .i64 (k:Int)] H Q:=by
 rcases F with⟨b,u,rfl,_,r,h0,hg⟩ | ⟨b,v,l,rfl,_,r,S,hl,hg⟩
 ·rw[callvP_func _ _ _ _ _ om]
  refine (mat1_spec (k:=k) r).mono ?_
  rintro _ _ ⟨rfl,rfl⟩
  rw[hg]at hQ
  rw[show ((u.m.toNat:Nat):Int)=u.m by omega]at hQ
  exact hQ
 ·obtain⟨x,hx⟩:=isSome_of_lt (l:=l) (i:=k) om
  obtain⟨h0,h1⟩:=hg k x hx
  rw[callvP_func _ _ _ _ _ om]
  refine (mat2_spec r S hx).mono ?_
  rintro _ _ ⟨rfl,rfl⟩
  rw[h1]at hQ
  rw[show ((x.m.toNat:Nat):Int)=x.m by omega]at hQ
  exact hQ
set_option maxHeartbeats 4000000 in
theorem step_rest{n0:Nat}{H:AHeap}{wb pb:Nat}{w:Wrl}{p:Pth}{vm vb vu x1 x2 x3:AVal}(R:PR H wb pb w p vm vb vu x1 x2 x3)(W:WR n0 H wb w vm vb vu x1 x2 x3)(hpb:n0≤pb)(ok:w.ok)(j:PJ p)(hb:p.bounce≤100)(hs:p.sample≤100)(hp:0≤p.pixel∧p.pixel≤1000000000)(hr:0≤p.rays∧p.rays≤1000000000)(hsh:0≤p.shades∧p.shades≤1000000000)
  {least:Int} {T:Env} (t0:T 0=cellR pb 20 0) (t4:T 4=.int .i64 least) {Q:AVal→AHeap→Prop}
  (hQ:∀H',Only pb H H'→PR H' wb pb w (stepR w p least).2 vm vb vu x1 x2 x3→PJ (stepR w p least).2→Q (.tuple [.int .i64 ((stepR w p least).1.1:Int),.bool (stepR w p least).1.2]) H') :
  wp (ACalls Tryz.prog noNat) (hold (restP q1 c8.body)) (fin c8.res Q) T H:=by
 have SO:=checkB_ok ok.s
 have hn0:=W.n
 have hwn:=W.wn
 have pn:=R.pn
 have hpl:=ok.pl
 rw[hold_eq]
 refine wp_cutP [1,1,1,1,1,1,1,1,1] ?_
 simp only[c8,restP,q1,sC,sA,sB,seval]
 refine aw_drawN ?_
 simp only[claims,newOf,reserves,resO_0,clOp_new]
 obtain⟨Hp,hHp⟩:∃L,L=H.push (.cells (h4 0 0 0 0) 0 false):=⟨_,rfl⟩
 rw[← hHp]
 have np:Hp.next=H.next+1:=by rw[hHp]; rfl
 obtain⟨hb0,hhb0⟩:∃b,b=H.next:=⟨_,rfl⟩
 have gp:Hp.get hb0=some (.cells (h4 0 0 0 0) 0 false):=by rw[hHp,hhb0,AHeap.get_push,if_pos rfl]
 have Ep:Ext H.next H Hp:=⟨om,fun c hc=>by rw[hHp]; exact get_push_lt hc⟩
 have d1:aClaim Hp hb0 (h4 0 0 0 0) none=some (cellR hb0 4 0):=claim_ok (z:=h4 0 0 0 0) gp rfl
 rw[← hhb0]
 have Rp:=R.ext Ep
 obtain⟨_,a1,_⟩:=ldP Rp.p
 obtain⟨a5,_⟩:=ldP2 Rp.p
 simp only[sR,sA,sB,seval,t0,t4,nil_cell,fldA,a1,a5]
 refine (wnear_spec (W.to om fun b hb=>Ep.old b om) ok j.1 (least:=least)).mono ?_
 rintro _ H1 ⟨rfl,E1,NO⟩
 have e1:=E1.next
 have R1:=Rp.ext E1
 simp only[stepR]at hQ
 obtain⟨nr,hnr⟩:∃q,q=nearestF w p.ray least:=⟨_,rfl⟩
 rw[← hnr]at NO hQ ⊢
 obtain⟨h,which,cost⟩:=nr
 clear hnr
 obtain⟨hj,hwh,hco⟩:=NO
 simp only at hj hwh hco hQ ⊢
 have gp1:H1.get hb0=some (.cells (h4 0 0 0 0) 0 false):=by rw[E1.old _ om]; exact gp
 have d2:aClaim H1 hb0 (h4 0 0 0 0) none=some (cellR hb0 4 0):=claim_ok (z:=h4 0 0 0 0) gp1 rfl
 obtain⟨H2,m2,r2,n2,k2⟩:=row_storeN (H:=H1) (b:=hb0) (l:=h4 0 0 0 0) ⟨0,gp1,Nat.zero_le _⟩ (n:=4) rfl (xs:=h.cells) rfl rfl
 have rp2:=R1.p.same (H':=H2) (k2 _ om)
 have rw2:=R1.w.same (H':=H2) (k2 _ om)
 obtain⟨_,_,_,_,_,a18,_⟩:=ldP2 rp2
 have wr:IntKind.i64.wrap (p.rays+1)=p.rays+1:=w64
 obtain⟨p1,hp1⟩:∃q:Pth,q={ p with rays:=p.rays+1 }:=⟨_,rfl⟩
 rw[← hp1]at hQ
 obtain⟨H3,m3,r3,n3,k3⟩:=row_st rp2 (n:=20) rfl (i:=18) om (x:=.int .i64 (p.rays+1)) rfl (l':=pthL pb (cellR wb 25 0) p1) (by rw[hp1]; rfl)
 have ne:=R.ne
 have R3:PR H3 wb pb w p1 vm vb vu x1 x2 x3:=⟨rw2.same (k3 _ ne),r3,om,om,ne⟩
 have O3:Only pb H H3:=⟨om,fun c h1 h2=>by rw[k3 c h2,k2 c om,E1.old c om,Ep.old c h1]⟩
 have W3:WR n0 H3 wb w vm vb vu x1 x2 x3:=W.to om fun b hb=>O3.2 b om om
 have rh3:Row H3 hb0 h.cells:=r2.same (k3 _ om)
 have j1:PJ p1:=by rw[hp1]; exact j
 have hb1:p1.bounce≤100:=by rw[hp1]; exact hb
 have hs1:p1.sample≤100:=by rw[hp1]; exact hs
 have hpx1:0≤p1.pixel∧p1.pixel≤1000000000:=by rw[hp1]; exact hp
 have hsh1:0≤p1.shades∧p1.shades≤1000000000:=by rw[hp1]; exact hsh
 have hra:p1.ray=p.ray:=by rw[hp1]
 simp only[sR,sA,sB,seval,ext_0,ext_1,ext_2,tr_claim,d2,m2]
 simp only[ck_nil',ck_cons,ckP_load,ckP_claim,ckP_nil,ck_end,and_true,true_and,List.map_cons,List.map_nil,sA,sB,seval,t0]
 refine⟨⟨_,rfl,fun _=>⟨_,d1,aeq_cellR ..⟩⟩,?_⟩
 rcases hwh with rfl | ⟨i,pr,rfl,hpr,k,hk,hkn⟩
 ·have cw:(-1:Int)<0:=by decide
  rw[if_pos cw]at hQ
  obtain⟨_,g1,_⟩:=ldP R3.p
  obtain⟨_,_,_,_,_,w16⟩:=ldW2 R3.w
  simp only[sA,sB,seval,t0,nil_cell,fldA,Nat.reduceAdd,a18,wr,m3,cw,g1,w16]
  refine (pshine_spec R3 j1.2.1 j1.2.2 SO.sky).mono ?_
  rintro _ H4 ⟨rfl,O4,R4⟩
  simp only[sA,sB,seval,t0]
  refine (pend_spec R4 ok.sd SO W.s hpx1 (by show p1.sample≤_; omega)).mono ?_
  rintro _ H5 ⟨rfl,O5,R5⟩
  obtain⟨_,_,_,_,l17,_⟩:=ldP2 R5.p
  simp only[sA,sB,seval,t0,nil_cell,fldA,l17]
  exact hQ H5 (O3.trans (O4.trans O5)) R5 (endF_j SO (shineF_j j1))
 have cw:¬(i:Int)<0:=om
 rw[if_neg cw,Int.toNat_natCast,hpr]at hQ
 simp only[hk,Int.toNat_natCast]at hQ
 have prk:=ok.p pr (List.mem_of_getElem? hpr)
 obtain⟨mt,hmt⟩:=isSome_of_lt (l:=w.sc.ms) (i:=pr.mat k) (prk.g k hkn)
 rw[hmt]at hQ
 simp only at hQ
 have hmtj:=SO.ms mt (List.mem_of_getElem? hmt)
 obtain⟨_,g1,_⟩:=ldP R3.p
 obtain⟨_,_,_,_,w22,_⟩:=ldW R3.w
 obtain⟨C,SC,QC⟩:=W3.p
 obtain⟨vp,vt,vbb,ptr,f,eC,oP,MI,TK,MF⟩:=QC i pr hpr
 have hi:=(List.getElem?_eq_some_iff.1 hpr).1
 have ix:=SC.idx hi
 have lx:=SC.load hi
 rw[eC]at lx
 obtain⟨H4,m4,r4,n4,k4⟩:=row_newL H3 z8p (n:=8) rfl
 obtain⟨H5,m5,r5,n5,k5⟩:=row_storeN r4 (n:=8) rfl (xs:=ptL vp vt vbb ptr pr.at_ f) rfl oP
 obtain⟨tb,htb⟩:∃b,b=H3.next:=⟨_,rfl⟩
 rw[← htb]at m4 r4 k4 m5 r5 k5
 have o5:∀c,c<H3.next→H5.get c=H3.get c:=fun c hc=>by rw[k5 c om,k4 c om]
 have f7:oLoad false 1 H5 (cellR tb 8 7)=some f:=row_load r5 rfl rfl
 have rh5:Row H5 hb0 h.cells:=rh3.same (o5 _ om)
 have li:oLoad false 1 H5 (cellR hb0 4 1)=some (.int .i64 (k:Int)):=by rw[← hk]; exact (ldH rh5).2.1
 have R5:=R3.ext (H':=H5) ⟨om,o5⟩
 simp only[sA,sB,seval,t0,nil_cell,fldA,Nat.reduceAdd,a18,wr,m3,cw,g1,w22,ix,lx,m4,m5,f7,li]
 refine mat_call (MF.mono (Q:=fun _=>True) fun b hb=>⟨trivial,o5 b (by have:b<n0:=hb; omega)⟩) hkn ?_
 obtain⟨_,g15,_⟩:=ldP R5.p
 obtain⟨_,w19,_⟩:=ldW R5.w
 have Sm:SlK (·<n0) H5 6 vm w.sc.ms.length (w.sc.ms.flatMap mtL):=W3.s.m.mono fun b hb=>⟨hb,o5 b (by have:b<n0:=hb; omega)⟩
 have hmi:=(List.getElem?_eq_some_iff.1 hmt).1
 have ixm:=Sm.idx hmi
 have lxm:=Sm.loadE mt_len hmt
 obtain⟨H6,m6,r6,n6,k6⟩:=row_newL H5 [.int .u8 0,.int .i64 0,.int .i64 0,.int .i64 0,.str [],.str []] (n:=6) rfl
 obtain⟨H7,m7,r7,n7,k7⟩:=row_storeN r6 (n:=6) rfl (xs:=mtL mt) rfl rfl
 obtain⟨mb,hmb⟩:∃b,b=H5.next:=⟨_,rfl⟩
 rw[← hmb]at m6 r6 k6 m7 r7 k7
 have o7:∀c,c<H5.next→H7.get c=H5.get c:=fun c hc=>by rw[k7 c om,k6 c om]
 simp only[sA,sB,seval,t0,nil_cell,fldA,Nat.reduceAdd,g15,w19,ixm,lxm,m6,m7]
 refine aw_drawN ?_
 simp only[claims,newOf,reserves,resO_0,clOp_new]
 obtain⟨Hq,hHq⟩:∃L,L=H7.push (.cells (v3 0 0 0) 0 false):=⟨_,rfl⟩
 rw[← hHq]
 obtain⟨nb,hnb⟩:∃b,b=H7.next:=⟨_,rfl⟩
 rw[← hnb]
 have nq:Hq.next=H7.next+1:=by rw[hHq]; rfl
 have gq:Hq.get nb=some (.cells (v3 0 0 0) 0 false):=by rw[hHq,hnb,AHeap.get_push,if_pos rfl]
 have oq:∀c,c<H7.next→Hq.get c=H7.get c:=fun c hc=>by rw[hHq]; exact get_push_lt hc
 have E5q:Ext H5.next H5 Hq:=⟨om,fun c hc=>by rw[oq c om,o7 c hc]⟩
 have Rq:=R5.ext E5q
 have ll:∀{L:AHeap},Ext Hq.next Hq L→oLoad true 3 L (cellR tb 8 0)=some (.agg (mshL vp vt vbb))∧oLoad true 4 L (cellR hb0 4 0)=some (.agg h.cells)∧oLoad true 8 L (cellR tb 8 0)=some (.agg (ptL vp vt vbb ptr pr.at_ f))∧aClaim L nb (v3 0 0 0) none=some (cellR nb 3 0):=fun {L} e=>by
  have a:=r5.same (H':=L) (by rw[e.old _ om,E5q.old _ om])
  have b:=rh5.same (H':=L) (by rw[e.old _ om,E5q.old _ om])
  exact⟨row_loadK a (n:=8) rfl (i:=0) (k:=3) om,row_loadN b rfl,row_loadN a rfl,claim_ok (z:=v3 0 0 0) (by rw[e.old _ om]; exact gq) rfl⟩
 obtain⟨b3,b4,b8,b9⟩:=ll (.refl _ _)
 obtain⟨b5,_⟩:=ldP2 Rq.p
 rw[hra]at b5
 simp only[sR,sA,sB,seval,t0,nil_cell,fld0,fldA,b3,b4,b8,b5]
 refine (moved_spec prk.a j.1 oP).mono ?_
 rintro _ Ha ⟨rfl,Ea⟩
 have ea:=Ea.next
 obtain⟨c3,c4,c8,c9⟩:=ll Ea
 have upn:∀{L:AHeap},Ext Hq.next Hq L→∀b,b<n0→b<L.next∧L.get b=H3.get b:=fun {L} e b hb=>⟨by have:=e.next; omega,by rw[e.old b om,E5q.old b om,o5 b om]⟩
 have mok:pr.msh.ok:=by rw[← prk.m]; exact prk.t.m
 simp only[sR,sA,sB,seval]
 refine (normal_spec mok (h:=h) hj.1 hk hkn (r:=Ray.mk (vSub p.ray.o pr.at_) p.ray.d) ⟨vSub_j j.1.1 prk.a,j.1.2⟩ (MI.mono (upn Ea))).mono ?_
 rintro _ Hb ⟨rfl,Eb⟩
 have eb:=Eb.next
 have Eab:=Ea.trans (Eb.less Ea.next)
 obtain⟨e3,e4,e8,e9⟩:=ll Eab
 obtain⟨nv,hnv⟩:∃v,v=normalF pr.msh h (Ray.mk (vSub p.ray.o pr.at_) p.ray.d):=⟨_,rfl⟩
 have jnv:nv.j:=by rw[hnv]; exact normalF_j
 have hnv2:normalF pr.msh h (movedF pr p.ray)=nv:=by rw[hnv]; rfl
 rw[hnv2]at hQ
 rw[← hnv]
 obtain⟨Hc,mc,rc,nc,kc⟩:=row_storeN (H:=Hb) (b:=nb) (l:=v3 0 0 0) ⟨0,by rw[Eab.old _ om]; exact gq,Nat.zero_le _⟩ (n:=3) rfl (xs:=nv.cells) rfl rfl
 simp only[sR,sA,sB,seval,tr_claim,e9,mc]
 simp only[ck_nil',ck_cons,ckP_load,ckP_claim,ckP_nil,ck_end,and_true,true_and,List.map_cons,List.map_nil,sA,sB,seval,fld0,fldA]
 refine⟨?_,?_⟩
 ·have am:aeq (.agg (mshL vp vt vbb)) (.agg (mshL vp vt vbb))=true:=by simp[mshL,aeq,aeqs,MI.p.aeq,MI.t.aeq,MI.b.aeq]
  have ah:aeq (.agg h.cells) (.agg h.cells)=true:=by simp[Hit.cells,aeq,aeqs,aeq_int,eqF_eq]
  and_intros <;> first | rfl | exact⟨_,rfl,fun _=>⟨_,by first | assumption | (simp only[sA,sB,seval,fld0,fldA]; assumption),by first | exact aeq_cellR .. | exact am | exact ah⟩⟩
 have oc:∀c,c<H7.next→Hc.get c=H7.get c:=fun c hc=>by rw[kc c om,Eab.old c om,oq c hc]
 have E5c:Ext H5.next H5 Hc:=⟨om,fun c hc=>by rw[oc c om,o7 c hc]⟩
 refine aw_drawN ?_
 simp only[claims,newOf,reserves,resO_0,clOp_new]
 obtain⟨Hr,hHr⟩:∃L,L=Hc.push (.cells (lookC 0 0 V0 V0) 0 false):=⟨_,rfl⟩
 have hHr':Hc.push (.cells [.int .i64 0,.int .i64 0,.int .i64 0,.int .i64 0,.int .i64 0,.int .i64 0,.int .i64 0,.int .i64 0] 0 false)=Hr:=hHr.symm
 rw[hHr']
 obtain⟨lb,hlb⟩:∃b,b=Hc.next:=⟨_,rfl⟩
 rw[← hlb]
 have nr:Hr.next=Hc.next+1:=by rw[hHr]; rfl
 have gr:Hr.get lb=some (.cells (lookC 0 0 V0 V0) 0 false):=by rw[hHr,hlb,AHeap.get_push,if_pos rfl]
 have or_:∀c,c<Hc.next→Hr.get c=Hc.get c:=fun c hc=>by rw[hHr]; exact get_push_lt hc
 have E5r:Ext H5.next H5 Hr:=⟨om,fun c hc=>by rw[or_ c om,E5c.old c hc]⟩
 have Rr:=R5.ext E5r
 obtain⟨f5,_⟩:=ldP2 Rr.p
 rw[hra]at f5
 have f4:oLoad true 4 Hr (cellR hb0 4 0)=some (.agg h.cells):=row_loadN (rh5.same (E5r.old _ om)) rfl
 have f3:oLoad true 3 Hr (cellR nb 3 0)=some (.agg nv.cells):=row_loadN (rc.same (or_ _ om)) (n:=3) rfl
 have dl:∀{L:AHeap},Ext Hr.next Hr L→aClaim L lb [.int .i64 0,.int .i64 0,.int .i64 0,.int .i64 0,.int .i64 0,.int .i64 0,.int .i64 0,.int .i64 0] none=some (cellR lb 8 0):=fun {L} e=>claim_ok (z:=lookC 0 0 V0 V0) (by rw[e.old _ om]; exact gr) rfl
 have d5:=dl (.refl _ _)
 simp only[sR,sA,sB,seval,t0,nil_cell,fldA,f5,f4,f3]
 refine (look_spec j.1 hj).mono ?_
 rintro _ Hd ⟨rfl,Ed⟩
 have ed:=Ed.next
 have d6:=dl Ed
 obtain⟨pt,hpt⟩:∃v,v=lookP p.ray h:=⟨_,rfl⟩
 have jpt:pt.j:=by rw[hpt]; exact lookP_j j.1
 rw[← hpt]at hQ ⊢
 obtain⟨He,me,re,nee,ke⟩:=row_storeN (H:=Hd) (b:=lb) (l:=lookC 0 0 V0 V0) ⟨0,by rw[Ed.old _ om]; exact gr,Nat.zero_le _⟩ (n:=8) rfl (xs:=lookC h.u h.v pt nv) rfl rfl
 simp only[sR,sA,sB,seval,tr_claim,d6,me]
 simp only[ck_nil',ck_cons,ckP_load,ckP_claim,ckP_nil,ck_end,and_true,true_and,List.map_cons,List.map_nil]
 refine⟨⟨_,rfl,fun _=>⟨_,d5,aeq_cellR ..⟩⟩,?_⟩
 have oe:∀c,c<Hc.next→He.get c=Hc.get c:=fun c hc=>by rw[ke c om,Ed.old c om,or_ c hc]
 have E5e:Ext H5.next H5 He:=⟨om,fun c hc=>by rw[oe c om,E5c.old c hc]⟩
 have Re:=R5.ext E5e
 have Oe:Only pb H He:=⟨om,fun c h1 h2=>by rw[E5e.old c om,o5 c om,O3.2 c h1 h2]⟩
 have We:WR n0 He wb w vm vb vu x1 x2 x3:=W.to om fun b hb=>Oe.2 b om om
 have rme:Row He mb (mtL mt):=r7.same (by rw[oe _ om,oc _ om])
 have k0:oLoad false 1 He (cellR mb 6 0)=some (.int .u8 (mt.k:Int)):=row_load rme rfl rfl
 have k1':oLoad true 3 He (cellR mb 6 1)=some (.agg mt.c.cells):=row_loadK rme (n:=6) rfl (i:=1) (k:=3) om
 by_cases h3:mt.k=3
 ·rw[if_pos h3]at hQ
  rw[h3]at k0
  simp only[Int.cast_ofNat_Int]at k0
  simp only[sA,sB,seval,t0,fld0,fldA,k0,k1']
  refine (pshine_spec Re j1.2.1 j1.2.2 hmtj.2).mono ?_
  rintro _ L4 ⟨rfl,O4,R4⟩
  simp only[sA,sB,seval,t0]
  refine (pend_spec R4 ok.sd SO W.s hpx1 (by show p1.sample≤_; omega)).mono ?_
  rintro _ L5 ⟨rfl,O5,R5'⟩
  obtain⟨_,_,_,_,l17,_⟩:=ldP2 R5'.p
  simp only[sA,sB,seval,t0,nil_cell,fldA,l17]
  exact hQ L5 (Oe.trans (O4.trans O5)) R5' (endF_j SO (shineF_j j1))
 rw[if_neg h3,surf_rest]at hQ
 by_cases h4:mt.k=4
 ·obtain⟨sc,hsc⟩:=isSome_of_lt (l:=w.shades) (i:=pr.mat k) (by rw[ok.sl]; exact hmi)
  obtain⟨tx,htx⟩:=isSome_of_lt (l:=w.pics) (i:=pr.mat k) (by rw[ok.xl]; exact hmi)
  have esh:shdF w mt.k (pr.mat k) h pt nv=shadeF sc tx h.u h.v pt nv:=by
   unfold shdF; rw[if_pos h4,hsc,htx]
  rw[esh,if_pos h4]at hQ
  rw[h4]at k0
  simp only[Int.cast_ofNat_Int]at k0
  have ll8:oLoad true 8 He (cellR lb 8 0)=some (.agg (lookC h.u h.v pt nv)):=row_loadN re (n:=8) rfl
  simp only[sA,sB,seval,t0,fld0,fldA,k0,ll8]
  refine (pshade_spec Re We ok hmt h4 hsc htx hj.2.2.1 hj.2.2.2 jpt jnv).mono ?_
  rintro _ Hf ⟨rfl,Ef,jcol,lst⟩
  have ef:=Ef.next
  obtain⟨col,hcol⟩:∃c,c=(shadeF sc tx h.u h.v pt nv).1:=⟨_,rfl⟩
  obtain⟨stp,hstp⟩:∃c,c=(shadeF sc tx h.u h.v pt nv).2:=⟨_,rfl⟩
  rw[← hcol,← hstp]at hQ
  rw[← hcol]at jcol ⊢
  rw[← hstp]at lst ⊢
  obtain⟨Hg,mg,rg',ng,kg⟩:=row_newL Hf (v3 0 0 0) (n:=3) rfl
  obtain⟨Hh,mh,rh',nh,kh⟩:=row_storeN rg' (n:=3) rfl (xs:=col.cells) rfl rfl
  have Eh:Ext He.next He Hh:=⟨om,fun c hc=>by rw[kh c om,kg c om,Ef.old c om]⟩
  have Rh:=Re.ext Eh
  obtain⟨_,_,t11,_⟩:=ldP2 Rh.p
  have l13:=row_loadN rh' (n:=3) rfl
  simp only[sA,sB,seval,ext_0,ext_1,mg,mh]
  refine aw_drawC rfl ?_
  simp only[sR,sA,sB,seval,t0,nil_cell,fldA,t11,l13]
  refine (clamp_spec jcol).mono ?_
  rintro _ Hi ⟨rfl,Ei⟩
  have Ri:=Rh.ext Ei
  obtain⟨_,_,u11,_⟩:=ldP2 Ri.p
  simp only[sR,sA,sB,seval]
  refine (vmul_spec j1.2.1 (vClamp_j _)).mono ?_
  rintro _ Hj ⟨rfl,Ej⟩
  have Eij:=Ei.trans (Ej.less Ei.next)
  have Rj:=Rh.ext Eij
  have ej:=Eij.next
  obtain⟨p2,hp2⟩:∃q:Pth,q={ p1 with thr:=vMul p1.thr (vClamp col) }:=⟨_,rfl⟩
  obtain⟨Hk,mk,rk,nk,kk⟩:=row_stK Rj.p (n:=20) rfl (i:=11) (k:=3) om (xs:=(vMul p1.thr (vClamp col)).cells) rfl rfl (l':=pthL pb (cellR wb 25 0) p2) (by rw[hp2]; rfl)
  have Rk:=Rj.set nk rk kk
  obtain⟨_,_,_,_,_,_,s19⟩:=ldP2 Rk.p
  have es:p2.shades=p1.shades:=by rw[hp2]
  rw[es]at s19
  have ws:IntKind.i64.wrap (p1.shades+(stp:Int))=p1.shades+(stp:Int):=w64
  have wc:IntKind.i64.wrap ((cost:Int)+(stp:Int))=((cost+stp:Nat):Int):=w64
  obtain⟨p3,hp3⟩:∃q:Pth,q={ p1 with thr:=vMul p1.thr (vClamp col),shades:=p1.shades+stp }:=⟨_,rfl⟩
  obtain⟨Hl,ml,rl,nl,kl⟩:=row_st rk (n:=20) rfl (i:=19) om (x:=.int .i64 (p1.shades+(stp:Int))) rfl (l':=pthL pb (cellR wb 25 0) p3) (by rw[hp2,hp3]; rfl)
  have Rl:=Rk.set nl rl kl
  simp only[sR,sA,sB,seval,nil_cell,fldA,mk]
  simp only[ck_nil',ck_cons,ckP_load,ckP_nil,ck_end,and_true,true_and,List.map_cons,List.map_nil,sA,sB,seval,t0,nil_cell,fldA,s19,ws,ml,wc]
  refine⟨⟨_,rfl,fun _=>⟨_,u11,aeq_V _⟩⟩,?_⟩
  have ol:∀c,c<He.next→c≠pb→Hl.get c=He.get c:=fun c h1 h2=>by rw[kl c h2,kk c h2,Eij.old c om,Eh.old c h1]
  have Ol:Only pb H Hl:=⟨om,fun c h1 h2=>by rw[ol c om h2,Oe.2 c h1 h2]⟩
  rw[← hp3]at hQ
  refine step_tail (cost:=((cost+stp:Nat):Int)) Rl W.s ok (by rw[hp3]; exact⟨j1.1,vMul_j _ _,j1.2.2⟩) (by rw[hp3]; exact hb1) (by rw[hp3]; exact hs1) (by rw[hp3]; exact hpx1) jpt jnv (rme.same (ol _ om om)) (re.same (ol _ om om)) ⟨om,om⟩ ⟨om,om⟩ (by simp only[sA,sB,seval,t0]) (by simp only[sA,sB,seval]) (by simp only[sA,sB,seval]) (by simp only[sA,sB,seval]) fun H' O' R' J'=>?_
  exact hQ H' (Ol.trans O') R' J'
 ·rw[if_neg h4]at hQ
  have k3':¬(mt.k:Int)=3:=om
  have k4':¬(mt.k:Int)=4:=om
  have esh:shdF w mt.k (pr.mat k) h pt nv=(V0,0):=by unfold shdF; rw[if_neg h4]
  rw[esh]at hQ
  obtain⟨_,_,t11,_⟩:=ldP2 Re.p
  simp only[sA,sB,seval,t0,nil_cell,fld0,fldA,k0,k3',k4',t11,k1']
  refine (vmul_spec j1.2.1 hmtj.2).mono ?_
  rintro _ Hf ⟨rfl,Ef⟩
  have ef:=Ef.next
  have Rf:=Re.ext Ef
  obtain⟨p3,hp3⟩:∃q:Pth,q={ p1 with thr:=vMul p1.thr mt.c }:=⟨_,rfl⟩
  obtain⟨Hl,ml,rl,nl,kl⟩:=row_stK Rf.p (n:=20) rfl (i:=11) (k:=3) om (xs:=(vMul p1.thr mt.c).cells) rfl rfl (l':=pthL pb (cellR wb 25 0) p3) (by rw[hp3]; rfl)
  have Rl:=Rf.set nl rl kl
  simp only[sA,sB,seval,nil_cell,fldA,ml]
  have ol:∀c,c<He.next→c≠pb→Hl.get c=He.get c:=fun c h1 h2=>by rw[kl c h2,Ef.old c h1]
  have Ol:Only pb H Hl:=⟨om,fun c h1 h2=>by rw[ol c om h2,Oe.2 c h1 h2]⟩
  rw[← hp3]at hQ
  refine step_tail (cost:=(cost:Int)) Rl W.s ok (by rw[hp3]; exact⟨j1.1,vMul_j _ _,j1.2.2⟩) (by rw[hp3]; exact hb1) (by rw[hp3]; exact hs1) (by rw[hp3]; exact hpx1) jpt jnv (rme.same (ol _ om om)) (re.same (ol _ om om)) ⟨om,om⟩ ⟨om,om⟩ (by simp only[sA,sB,seval,t0]) (by simp only[sA,sB,seval]) (by simp only[sA,sB,seval]) (by simp only[sA,sB,seval]) fun H' O' R' J'=>?_
  exact hQ H' (Ol.trans O') R' J'
open Go.Abs Go.Abs.S
theorem step_spec{n0:Nat}{H:AHeap}{wb pb:Nat}{w:Wrl}{p:Pth}{vm vb vu x1 x2 x3:AVal}(R:PR H wb pb w p vm vb vu x1 x2 x3)(W:WR n0 H wb w vm vb vu x1 x2 x3)(hpb:n0≤pb)(ok:w.ok)(j:PJ p)(hb:p.bounce≤100)(hs:p.sample≤100)(hp:0≤p.pixel∧p.pixel≤1000000000)(hr:0≤p.rays∧p.rays≤1000000000)(hsh:0≤p.shades∧p.shades≤1000000000)(ho:p.over=false) :
  ACalls Tryz.prog noNat 8 [cellR pb 20 0] H fun r H'=>r=.tuple [.int .i64 ((stepF w p).1.1:Int),.bool (stepF w p).1.2]∧Only pb H H'∧PR H' wb pb w (stepF w p).2 vm vb vu x1 x2 x3∧PJ (stepF w p).2:=by
 obtain⟨_,_,_,_,l4⟩:=ldP R.p
 obtain⟨_,_,_,_,l17,_⟩:=ldP2 R.p
 rw[ho]at l17
 rw[stepF_R ho]
 refine acalls_ofN rfl za8 rfl ?_
 refine wp_cutP q1 ?_
 by_cases c:p.bounce=0
 ·have c':(p.bounce:Int)=0:=om
  rw[if_pos c]
  simp only[c8,q1,sC,sA,sB,seval]
  refine (pmade_spec R.p).mono ?_
  rintro _ _ ⟨rfl,rfl⟩
  simp only[sA,sB,seval,nil_cell,fldA,l17,l4,c']
  exact step_rest (least:=1) R W hpb ok j hb hs hp hr hsh (by simp only[sA,sB,seval]) (by simp only[sA,sB,seval]) fun H' O R' J=>⟨rfl,O,R',J⟩
 ·have c':¬(p.bounce:Int)=0:=om
  rw[if_neg c]
  simp only[c8,q1,sC,sA,sB,seval]
  refine (pmade_spec R.p).mono ?_
  rintro _ _ ⟨rfl,rfl⟩
  simp only[sA,sB,seval,nil_cell,fldA,l17,l4,c']
  exact step_rest (least:=65536) R W hpb ok j hb hs hp hr hsh (by simp only[sA,sB,seval]) (by simp only[sA,sB,seval]) fun H' O R' J=>⟨rfl,O,R',J⟩
theorem step_over{H:AHeap}{wb pb:Nat}{w:Wrl}{p:Pth}{vm vb vu x1 x2 x3:AVal}(R:PR H wb pb w p vm vb vu x1 x2 x3)(ho:p.over=true) :
  ACalls Tryz.prog noNat 8 [cellR pb 20 0] H fun r H'=>r=.tuple [.int .i64 0,.bool true]∧H=H':=by
 obtain⟨_,_,_,_,l17,_⟩:=ldP2 R.p
 rw[ho]at l17
 refine acalls_ofN rfl za8 rfl ?_
 simp only[c8,sA,sB,seval]
 refine (pmade_spec R.p).mono ?_
 rintro _ _ ⟨rfl,rfl⟩
 simp only[sA,sB,seval,nil_cell,fldA,l17]
 exact⟨tt,tt⟩
theorem vmF_le(s:Cod)(t:Tex):∀(k at_:Nat) (regs:List V) (st:Nat),(vmF s t k at_ regs st).2≤st+k
 | 0,_,_,st=>Nat.le_refl _
 | k+1,at_,regs,st=>by
  have ih:=fun a r=>vmF_le s t k a r (st+1)
  unfold vmF
  split
  ·show st≤_; omega
  repeat' split
  all_goals first | (show st+1≤_; omega) | exact Nat.le_trans (ih _ _) om
theorem endF_cnt(w:Wrl)(p:Pth):(endF w p).rays=p.rays∧(endF w p).shades=p.shades:=by unfold endF; split <;> exact⟨rfl,rfl⟩
theorem stopsF_cnt(w:Wrl)(p:Pth):(stopsF w p).2.rays=p.rays∧(stopsF w p).2.shades=p.shades:=by
 unfold stopsF
 split
 ·exact⟨rfl,rfl⟩
 ·split
  ·exact⟨rfl,rfl⟩
  ·simp only
   split <;> exact⟨rfl,rfl⟩
theorem restF_cnt(w:Wrl)(k:Nat)(pt n:V)(q:Pth):(restF w k pt n q).rays=q.rays∧(restF w k pt n q).shades=q.shades:=by
 obtain⟨h1,h2⟩:=stopsF_cnt w q
 unfold restF
 split
 ·obtain⟨h3,h4⟩:=endF_cnt w (stopsF w q).2
  exact⟨by rw[h3,h1],by rw[h4,h2]⟩
 ·exact⟨h1,h2⟩
theorem shdF_le(w:Wrl)(k:Nat)(i:Nat)(h:Hit)(pt n:V):(shdF w k i h pt n).2≤200:=by
 unfold shdF
 split
 ·split
  ·exact Nat.le_trans (vmF_le _ _ 200 0 _ 0) om
  ·exact Nat.zero_le _
 ·exact Nat.zero_le _
theorem step_cnt{w:Wrl}{p:Pth}(ho:p.over=false):(stepF w p).2.rays=p.rays+1∧p.shades≤(stepF w p).2.shades∧(stepF w p).2.shades≤p.shades+200:=by
 rw[stepF_R ho]
 generalize (if p.bounce=0 then (1:Int) else 65536)=least
 unfold stepR
 generalize nearestF w p.ray least=nr
 obtain⟨p1,hp1⟩:∃q:Pth,q={ p with rays:=p.rays+1 }:=⟨_,rfl⟩
 have hr1:p1.rays=p.rays+1:=by rw[hp1]
 have hs1:p1.shades=p.shades:=by rw[hp1]
 simp only
 rw[← hp1]
 have dn:∀(c:Nat) (q:Pth),q.rays=p.rays+1→q.shades=p.shades→(doneF w c q).2.rays=p.rays+1∧p.shades≤(doneF w c q).2.shades∧(doneF w c q).2.shades≤p.shades+200:=fun c q h1 h2=>by
  obtain⟨h3,h4⟩:=endF_cnt w q
  show (endF w q).rays=_∧_≤(endF w q).shades∧(endF w q).shades≤_
  rw[h3,h4,h1,h2]; exact⟨rfl,om,om⟩
 split
 ·exact dn _ _ hr1 hs1
 split
 ·exact dn _ _ hr1 hs1
 split
 ·exact dn _ _ hr1 hs1
 rename_i m _
 by_cases h3:m.k=3
 ·rw[if_pos h3]
  exact dn _ _ hr1 hs1
 ·rw[if_neg h3,surf_rest]
  obtain⟨k,hk⟩:∃k,k=m.k:=⟨_,rfl⟩
  rename_i pr _ _ _
  have hl:=shdF_le w m.k (pr.mat nr.1.i.toNat) nr.1 (lookP p.ray nr.1) (normalF pr.msh nr.1 (movedF pr p.ray))
  obtain⟨sh,hsh⟩:∃s,s=shdF w m.k (pr.mat nr.1.i.toNat) nr.1 (lookP p.ray nr.1) (normalF pr.msh nr.1 (movedF pr p.ray)):=⟨_,rfl⟩
  rw[← hsh]at hl ⊢
  simp only
  obtain⟨h1,h2⟩:=restF_cnt w m.k (lookP p.ray nr.1) (normalF pr.msh nr.1 (movedF pr p.ray)) (if m.k=4 then { p1 with thr:=vMul p1.thr (vClamp sh.1),shades:=p1.shades+sh.2 } else { p1 with thr:=vMul p1.thr m.c })
  rw[h1,h2]
  by_cases h4:m.k=4
  ·rw[if_pos h4]
   exact⟨hr1,by show p.shades≤p1.shades+(sh.2:Int); omega,by show p1.shades+(sh.2:Int)≤_; omega⟩
  ·rw[if_neg h4]
   exact⟨hr1,by show p.shades≤p1.shades; omega,by show p1.shades≤_; omega⟩
open Go.Abs Go.Abs.S
def gwL(s:Sc)(vm vb vu vms vsh vpc:AVal):List AVal:=scL s vm vb vu++[vms,vsh,vpc]
theorem ldG{H:AHeap}{b:Nat}{s:Sc}{vm vb vu vms vsh vpc:AVal}(r:Row H b (gwL s vm vb vu vms vsh vpc)):oLoad false 1 H (cellR b 24 0)=some (.int .i64 s.w)∧oLoad false 1 H (cellR b 24 1)=some (.int .i64 s.h)∧oLoad false 1 H (cellR b 24 2)=some (.int .i64 s.sm)∧oLoad false 1 H (cellR b 24 3)=some (.int .i64 s.bo)∧oLoad false 1 H (cellR b 24 18)=some vm∧oLoad false 1 H (cellR b 24 19)=some vb∧oLoad false 1 H (cellR b 24 20)=some vu∧oLoad false 1 H (cellR b 24 21)=some vms∧oLoad false 1 H (cellR b 24 22)=some vsh∧oLoad false 1 H (cellR b 24 23)=some vpc∧oLoad true 21 H (cellR b 24 0)=some (.agg (scL s vm vb vu))∧oLoad true 24 H (cellR b 24 0)=some (.agg (gwL s vm vb vu vms vsh vpc)):=
 ⟨row_load r rfl rfl,row_load r rfl rfl,row_load r rfl rfl,row_load r rfl rfl,row_load r rfl rfl,row_load r rfl rfl,row_load r rfl rfl,row_load r rfl rfl,row_load r rfl rfl,row_load r rfl rfl,row_loadK r (n:=24) rfl (i:=0) (k:=21) om,row_loadN r rfl⟩
def mN(m:Msh):Nat:=m.tris.length+m.balls.length+m.pts.length / 8
def sumM(l:List Msh):Nat:=(l.map mN).sum
theorem sumM_take{l:List Msh}{i:Nat}{m:Msh}(h:l[i]?=some m):sumM (l.take (i+1))=sumM (l.take i)+mN m:=by
 unfold sumM; rw[List.take_add_one,h,List.map_append,List.sum_append]; simp
theorem sumM_bd{B:Nat}:∀(l:List Msh),(∀m∈l,mN m≤B)→sumM l≤l.length*B
 | [],_=>Nat.zero_le _
 | m::l,h=>by
  have h1:=sumM_bd l fun x hx=>h x (List.mem_cons_of_mem _ hx)
  have h2:=h m (List.mem_cons_self ..)
  show mN m+sumM l≤(l.length+1)*B
  rw[Nat.succ_mul]; omega
theorem sumM_mem{l:List Msh}{m:Msh}(h:m∈l):mN m≤sumM l:=by
 induction l with
 | nil=>simp at h
 | cons x l ih=>
  show mN m≤mN x+sumM l
  rcases List.mem_cons.1 h with rfl | h
  ·omega
  ·have:=ih h; omega
structure Small(s:Sc)(ms:List Msh)(shs:List Cod)(pcs:List Tex):Prop where
 n:s.bs.length+sumM ms≤8
 ms:ms.length≤4
 mt:s.ms.length≤8
 us:s.us.length≤4
 sh:shs.length≤8
 px:pcs.length≤8
 c:∀c∈shs,c.code.length+c.consts.length≤200
 x:∀t∈pcs,t.pix.length≤4000
set_option maxHeartbeats 2000000 in
theorem great_spec{H:AHeap}{s:Sc}{ms:List Msh}{shs:List Cod}{pcs:List Tex}{vm vb vu vms vsh vpc:AVal}(IS:ScIn (·<H.next) H s vm vb vu)(IM:MssIn (·<H.next) H vms ms)(IC:CdsIn (·<H.next) H vsh shs)(IX:PcsIn (·<H.next) H vpc pcs)
  (tot:s.bs.length≤281474976710656) (hM:∀m∈ms,m.pts.length≤281474976710656∧m.tris.length≤281474976710656∧m.balls.length≤281474976710656) (l1:ms.length≤1152921504606846976) (l2:shs.length≤1152921504606846976) (l3:pcs.length≤1152921504606846976) (hc:∀c∈shs,c.code.length≤1152921504606846976∧c.consts.length≤1152921504606846976) :
  ACalls Tryz.prog noNat 4 [.agg (gwL s vm vb vu vms vsh vpc)] H fun r H'=>∃b,r=.bool b∧(b=false→Small s ms shs pcs)∧Ext H.next H H':=by
 obtain⟨CM,SM,QM⟩:=IM
 obtain⟨CC,SC,QC⟩:=IC
 obtain⟨CX,SX,QX⟩:=IX
 obtain⟨H1,m1,r1,n1,k1⟩:=row_newL H (gwL s vm vb vu vms vsh vpc) (n:=24) rfl
 have E1:Ext H.next H H1:=⟨om,fun c hc=>k1 c om⟩
 have up:∀b,b<H.next→b<H1.next∧H1.get b=H.get b:=fun b hb=>⟨om,E1.old b hb⟩
 have gca:(AVal.agg (gwL s vm vb vu vms vsh vpc)).cells=gwL s vm vb vu vms vsh vpc:=rfl
 obtain⟨_,_,g2,g3,g18,g19,g20,g21,g22,g23,_,_⟩:=ldG r1
 have lvb:=IS.b.len
 have lvm:=IS.m.len
 have lvu:=IS.u.len
 have lms:=SM.len
 have lsh:=SC.len
 have lpc:=SX.len
 have SM1:=SM.mono up
 have SC1:=SC.mono up
 have SX1:=SX.mono up
 refine acalls_ofN rfl za4 rfl ?_
 simp only[c4,sA,sB,seval,gca,m1,fld0,fldA,Nat.reduceAdd,g19,lvb]
 refine aw_loop (fun q (T:Env) K=>∃i:Nat,q=ms.length-i∧i≤ms.length∧H1=K∧T 1=cellR H.next 24 0∧(∃z:Int,T 3=.int .i64 z∧(ms.length≤4→z=((s.bs.length+sumM (ms.take i):Nat):Int)))∧T 4=.int .i64 (i:Int)) ms.length
  ⟨0,rfl,Nat.zero_le _,rfl,by simp only[sA,sB,seval],⟨_,(by simp only[sA,sB,seval] <;> rfl),fun _=>rfl⟩,(by simp only[sA,sB,seval] <;> rfl)⟩ ?_
 rintro q T _ ⟨i,rfl,hi,rfl,t1,⟨z,t3,hz⟩,t4⟩
 by_cases hlt:i<ms.length
 ·have hlt':(i:Int)<(ms.length:Int):=om
  obtain⟨m,hm⟩:=isSome_of_lt hlt
  obtain⟨vp,vt,vbb,eC,Im⟩:=QM i m hm
  have ix:=SM1.idx hlt
  have pt:=SM1.pt hlt
  rw[eC]at pt
  have f0:=pt.fld 0
  have f1:=pt.fld 1
  have f2:=pt.fld 2
  have d0:=pt.load (o:=0) (x:=vp) rfl
  have d1:=pt.load (o:=1) (x:=vt) rfl
  have d2:=pt.load (o:=2) (x:=vbb) rfl
  have a0:=Im.p.len
  have a1:=Im.t.len
  have a2:=Im.b.len
  have wk:=wrap1 i om
  have et:=sumM_take hm
  have hmn:mN m=m.tris.length+m.balls.length+m.pts.length / 8:=rfl
  obtain⟨hm1,hm2,hm3⟩:=hM m (List.mem_of_getElem? hm)
  have w1:IntKind.i64.wrap ((m.tris.length:Int)+(m.balls.length:Int))=((m.tris.length+m.balls.length:Nat):Int):=w64
  have hq:aBin .quo (.int .i64 (m.pts.length:Int)) (.int .i64 8)=some (.int .i64 ((m.pts.length / 8:Nat):Int)):=by
   rw[quoC dD ⟨om,om⟩]; rfl
  have w2:IntKind.i64.wrap (((m.tris.length+m.balls.length:Nat):Int)+((m.pts.length / 8:Nat):Int))=(mN m:Int):=w64
  have w3:ms.length≤4→IntKind.i64.wrap (z+(mN m:Int))=((s.bs.length+sumM (ms.take (i+1)):Nat):Int):=fun h4=>by
   have hz':=hz h4
   have hbd:=sumM_bd (B:=1000000000000000) (ms.take i) fun x hx=>by
    obtain⟨g1,g2,g3⟩:=hM x (List.mem_of_mem_take hx)
    unfold mN; omega
   rw[List.length_take]at hbd
   have:min i ms.length≤4:=om
   have hb2:min i ms.length*1000000000000000≤4*1000000000000000:=Nat.mul_le_mul_right _ this
   rw[IntKind.wrap_i64]; omega
  simp only[sA,sB,seval,t4,t1,fld0,fldA,Nat.reduceAdd,g21,lms,hlt',t3,ix,f0,f1,f2,d0,d1,d2,a0,a1,a2,w1,hq,w2,wk]
  exact⟨_,(by omega:ms.length-(i+1)<ms.length-i),i+1,rfl,om,tt,(by first | exact t1 | trivial),⟨_,rfl,w3⟩,tt⟩
 obtain rfl:i=ms.length:=om
 have hlt':¬(ms.length:Int)<(ms.length:Int):=om
 rw[List.take_length]at hz
 simp only[sA,sB,seval,t4,t1,fldA,g21,lms,hlt']
 refine aw_loop (fun q (T:Env) K=>∃i:Nat,q=shs.length-i∧i≤shs.length∧(∀(j:Nat) (c:Cod),j<i→shs[j]?=some c→c.code.length+c.consts.length≤200)∧H1=K∧T 1=cellR H.next 24 0∧T 3=.int .i64 z∧T 5=.int .i64 (i:Int)) shs.length
  ⟨0,rfl,Nat.zero_le _,fun j c h=>om,rfl,by simp only[sA,sB,seval,t1],by simp only[sA,sB,seval,t3],(by simp only[sA,sB,seval] <;> rfl)⟩ ?_
 rintro q T _ ⟨i,rfl,hi,hcs,rfl,t1,t3,t5⟩
 by_cases hlt:i<shs.length
 ·have hlt':(i:Int)<(shs.length:Int):=om
  obtain⟨c,hcc⟩:=isSome_of_lt hlt
  obtain⟨vc,vd,eC,Ic⟩:=QC i c hcc
  have ix:=SC1.idx hlt
  have pt:=SC1.pt hlt
  rw[eC]at pt
  have f0:=pt.fld 0
  have f2:=pt.fld 2
  have d0:=pt.load (o:=0) (x:=vc) rfl
  have d2:=pt.load (o:=2) (x:=vd) rfl
  have a0:=Ic.c.len
  have a2:=Ic.d.len
  obtain⟨b1,b2⟩:=hc c (List.mem_of_getElem? hcc)
  have wk:=wrap1 i om
  have w1:IntKind.i64.wrap ((c.code.length:Int)+(c.consts.length:Int))=((c.code.length+c.consts.length:Nat):Int):=w64
  by_cases h200:200<c.code.length+c.consts.length
  ·have h':(200:Int)<((c.code.length+c.consts.length:Nat):Int):=om
   simp only[sA,sB,seval,t5,t1,fldA,g22,lsh,hlt',ix,f0,f2,d0,d2,a0,a2,w1,h']
   exact⟨_,rfl,(fun h=>by cases h),E1⟩
  ·have h':¬(200:Int)<((c.code.length+c.consts.length:Nat):Int):=om
   simp only[sA,sB,seval,t5,t1,fldA,g22,lsh,hlt',ix,f0,f2,d0,d2,a0,a2,w1,h',wk]
   refine⟨_,(by omega:shs.length-(i+1)<shs.length-i),i+1,rfl,om,fun j c' hj hj'=>?_,tt,by simp only[t1,t3,and_true]⟩
   by_cases he:j=i
   ·subst he
    rw[hcc]at hj'
    simp only[sJ]at hj'
    subst hj'; omega
   ·exact hcs j c' om hj'
 obtain rfl:i=shs.length:=om
 have hlt':¬(shs.length:Int)<(shs.length:Int):=om
 simp only[sA,sB,seval,t5,t1,fldA,g22,lsh,hlt']
 refine aw_loop (fun q (T:Env) K=>∃i:Nat,q=pcs.length-i∧i≤pcs.length∧(∀(j:Nat) (c:Tex),j<i→pcs[j]?=some c→c.pix.length≤4000)∧H1=K∧T 1=cellR H.next 24 0∧T 3=.int .i64 z∧T 6=.int .i64 (i:Int)) pcs.length
  ⟨0,rfl,Nat.zero_le _,fun j c h=>om,rfl,by simp only[sA,sB,seval,t1],by simp only[sA,sB,seval,t3],(by simp only[sA,sB,seval] <;> rfl)⟩ ?_
 rintro q T _ ⟨i,rfl,hi,hxs,rfl,t1,t3,t6⟩
 by_cases hlt:i<pcs.length
 ·have hlt':(i:Int)<(pcs.length:Int):=om
  obtain⟨x,hx⟩:=isSome_of_lt hlt
  obtain⟨vp,eX,Ix⟩:=QX i x hx
  have ix:=SX1.idx hlt
  have pt:=SX1.pt hlt
  rw[eX]at pt
  have f2:=pt.fld 2
  have d2:=pt.load (o:=2) (x:=vp) rfl
  have a2:=Ix.len
  have wk:=wrap1 i om
  by_cases h4:4000<x.pix.length
  ·have h':(4000:Int)<(x.pix.length:Int):=om
   simp only[sA,sB,seval,t6,t1,fldA,g23,lpc,hlt',ix,f2,d2,a2,h']
   exact⟨_,rfl,(fun h=>by cases h),E1⟩
  ·have h':¬(4000:Int)<(x.pix.length:Int):=om
   simp only[sA,sB,seval,t6,t1,fldA,g23,lpc,hlt',ix,f2,d2,a2,h',wk]
   refine⟨_,(by omega:pcs.length-(i+1)<pcs.length-i),i+1,rfl,om,fun j c' hj hj'=>?_,tt,by simp only[t1,t3,and_true]⟩
   by_cases he:j=i
   ·subst he
    rw[hx]at hj'
    simp only[sJ]at hj'
    subst hj'; omega
   ·exact hxs j c' om hj'
 obtain rfl:i=pcs.length:=om
 have hlt':¬(pcs.length:Int)<(pcs.length:Int):=om
 have hcs':∀c∈shs,c.code.length+c.consts.length≤200:=fun c hc=>by
  obtain⟨j,hj⟩:=List.getElem?_of_mem hc
  exact hcs j c (List.getElem?_eq_some_iff.1 hj).1 hj
 have hxs':∀c∈pcs,c.pix.length≤4000:=fun c hc=>by
  obtain⟨j,hj⟩:=List.getElem?_of_mem hc
  exact hxs j c (List.getElem?_eq_some_iff.1 hj).1 hj
 by_cases c1:(8:Int)<z
 ·simp only[sA,sB,seval,t6,t1,t3,fld0,fldA,Nat.reduceAdd,g23,lpc,hlt',c1]
  exact⟨_,rfl,(fun h=>by cases h),E1⟩
 by_cases c2:(4:Int)<(ms.length:Int)
 ·simp only[sA,sB,seval,t6,t1,t3,fld0,fldA,Nat.reduceAdd,g23,lpc,hlt',c1,g21,lms,c2]
  exact⟨_,rfl,(fun h=>by cases h),E1⟩
 by_cases c3:(8:Int)<(s.ms.length:Int)
 ·simp only[sA,sB,seval,t6,t1,t3,fld0,fldA,Nat.reduceAdd,g23,lpc,hlt',c1,g21,lms,c2,g18,lvm,c3]
  exact⟨_,rfl,(fun h=>by cases h),E1⟩
 by_cases c4:(4:Int)<(s.us.length:Int)
 ·simp only[sA,sB,seval,t6,t1,t3,fld0,fldA,Nat.reduceAdd,g23,lpc,hlt',c1,g21,lms,c2,g18,lvm,c3,g20,lvu,c4]
  exact⟨_,rfl,(fun h=>by cases h),E1⟩
 by_cases c5:(4:Int)<s.sm
 ·simp only[sA,sB,seval,t6,t1,t3,fld0,fldA,Nat.reduceAdd,g23,lpc,hlt',c1,g21,lms,c2,g18,lvm,c3,g20,lvu,c4,g2,c5]
  exact⟨_,rfl,(fun h=>by cases h),E1⟩
 by_cases c6:(5:Int)<s.bo
 ·simp only[sA,sB,seval,t6,t1,t3,fld0,fldA,Nat.reduceAdd,g23,lpc,hlt',c1,g21,lms,c2,g18,lvm,c3,g20,lvu,c4,g2,c5,g3,c6]
  exact⟨_,rfl,(fun h=>by cases h),E1⟩
 by_cases c7:(8:Int)<(shs.length:Int)
 ·simp only[sA,sB,seval,t6,t1,t3,fld0,fldA,Nat.reduceAdd,g23,lpc,hlt',c1,g21,lms,c2,g18,lvm,c3,g20,lvu,c4,g2,c5,g3,c6,g22,lsh,c7]
  exact⟨_,rfl,(fun h=>by cases h),E1⟩
 by_cases c8:(8:Int)<(pcs.length:Int)
 ·simp only[sA,sB,seval,t6,t1,t3,fld0,fldA,Nat.reduceAdd,g23,lpc,hlt',c1,g21,lms,c2,g18,lvm,c3,g20,lvu,c4,g2,c5,g3,c6,g22,lsh,c7,c8]
  exact⟨_,rfl,(fun h=>by cases h),E1⟩
 ·simp only[sA,sB,seval,t6,t1,t3,fld0,fldA,Nat.reduceAdd,g23,lpc,hlt',c1,g21,lms,c2,g18,lvm,c3,g20,lvu,c4,g2,c5,g3,c6,g22,lsh,c7,c8]
  exact⟨_,rfl,fun _=>⟨by have:=hz om; omega,om,om,om,om,om,hcs',hxs'⟩,E1⟩
open Go.Abs Go.Abs.S
def sE:Sc:=⟨1,1,1,2,0,⟨0,0,-17179869184⟩,V0,⟨0,4294967296,0⟩,4294967296,⟨4294967296,4294967296,4294967296⟩,[],[],[]⟩
def sG:Sc:={ sE with wide:=536870912,ms:=[⟨3,⟨4294967296,0,0⟩,[],[]⟩],bs:=[⟨V0,4294967296,0⟩] }
def wE:Wrl:=worldF sE [] [] []
def wG:Wrl:=worldF sG [] [C0] [X0t]
theorem eE:errW sE [] [] []=0:=by decide +kernel
theorem eG:errW sG [] [C0] [X0t]=0:=by decide +kernel
theorem stE:(stepF wE (startF wE (pth0 0))).1=(1,true)∧(stepF wE (startF wE (pth0 0))).2.over=true∧pixelF (stepF wE (startF wE (pth0 0))).2.sum 1=(255,255,255):=by decide +kernel
theorem stG:(stepF wG (startF wG (pth0 0))).1.2=true∧(stepF wG (startF wG (pth0 0))).2.over=true∧pixelF (stepF wG (startF wG (pth0 0))).2.sum 1=(255,0,0):=by decide +kernel
open Go.Abs Go.Abs.S
theorem empty_spec{H:AHeap}:ACalls Tryz.prog noNat 10 [] H fun r H'=>r=.agg (scL sE nS nS nS)∧Ext H.next H H':=by
 obtain⟨H1,m1,r1,n1,k1⟩:=row_newL H zSc (n:=21) rfl
 obtain⟨H2,m2,r2,n2,k2⟩:=row_storeN r1 (n:=21) rfl (xs:=scL sE nS nS nS) rfl rfl
 have l2:=row_loadN r2 (n:=21) rfl
 have c0:Int.negSucc 17179869183=-17179869184:=rfl
 have b1:aBuild [.int .i64 0,.int .i64 0,.int .i64 0] [(2,1,.int .i64 (-17179869184))]=some (.agg (v3 0 0 (-17179869184))):=rfl
 have b2:aBuild [.int .i64 0,.int .i64 0,.int .i64 0] [(1,1,.int .i64 4294967296)]=some (.agg (v3 0 4294967296 0)):=rfl
 have b3:aBuild [.int .i64 0,.int .i64 0,.int .i64 0] [(0,1,.int .i64 4294967296),(1,1,.int .i64 4294967296),(2,1,.int .i64 4294967296)]=some (.agg (v3 4294967296 4294967296 4294967296)):=rfl
 have b4:aBuild zSc [(0,1,.int .i64 1),(1,1,.int .i64 1),(2,1,.int .i64 1),(3,1,.int .i64 2),(5,3,.agg (v3 0 0 (-17179869184))),(11,3,.agg (v3 0 4294967296 0)),(14,1,.int .i64 4294967296),(15,3,.agg (v3 4294967296 4294967296 4294967296))]=some (.agg (scL sE nS nS nS)):=rfl
 refine acalls_ofN rfl za10 rfl ?_
 simp only[c10,sA,sB,seval,m1,c0,b1,b2,b3,b4,m2,fin_cc,OptP_some,l2]
 exact⟨tt,⟨om,fun c hc=>by rw[k2 c om,k1 c om]⟩⟩
theorem nil_ls{α:Type}{m:Nat}{Q:α→List AVal→Prop}{P:Nat→Prop}{H:AHeap}:LsIn m Q P H nS ([]:List α):=⟨[],.inl ⟨rfl,rfl,rfl⟩,fun i x h=>by simp at h⟩
theorem inE(H:AHeap):InN H sE [] [] [] nS nS nS nS nS nS:=
 ⟨⟨.inl ⟨rfl,rfl,rfl⟩,.inl ⟨rfl,rfl,rfl⟩,.inl ⟨rfl,rfl,rfl⟩⟩,nil_ls,nil_ls,nil_ls,fun _ h=>by simp at h,by decide,fun _ h=>by simp at h,fun _ h=>by simp at h,by decide,by decide,by decide,by decide⟩
theorem okE:wE.ok:=world_ok eE dD (fun _ h=>by simp at h) dD (fun _ h=>by simp at h)
theorem okG:wG.ok:=world_ok eG dD (fun _ h=>by simp at h) dD (fun c h=>by
 simp only[List.mem_singleton]at h; subst h
 exact⟨fun _ h=>by simp[C0]at h,by decide⟩)
theorem PR.to{H H':AHeap}{wb pb:Nat}{w:Wrl}{p:Pth}{vm vb vu x1 x2 x3:AVal}(h:PR H wb pb w p vm vb vu x1 x2 x3)(n:H.next≤H'.next)(a:H'.get wb=H.get wb)(b:H'.get pb=H.get pb):PR H' wb pb w p vm vb vu x1 x2 x3:=
 ⟨h.w.same a,h.p.same b,Nat.lt_of_lt_of_le h.wn n,Nat.lt_of_lt_of_le h.pn n,h.ne⟩
theorem start0_j{w:Wrl}{px:Int}(ok:w.ok):PJ (startF w (pth0 px)):=startF_j (checkB_ok ok.s) V0_j
theorem eq_pix(a b c:Int):aPf (.eqS false [(0,.int),(1,.int),(2,.int),(3,.int)]) [.agg (pixC (a,b,c)),.agg (pixC (a,b,c))]=some (.bool true):=by
 simp[aPf,aEqSs,aEqFs,fEq,fEqI,pixC,eqF_eq]
set_option maxHeartbeats 4000000 in
theorem awake_spec{H:AHeap}:ACalls Tryz.prog noNat 5 [] H fun r _=>r=.bool true:=by
 refine acalls_ofN rfl za5 rfl ?_
 simp only[c5,sA,sB,seval]
 refine empty_spec.mono ?_
 rintro _ H1 ⟨rfl,E1⟩
 obtain⟨H2,m2,r2,n2,k2⟩:=row_newL H1 zSc (n:=21) rfl
 obtain⟨H3,m3,r3,n3,k3⟩:=row_storeN r2 (n:=21) rfl (xs:=scL sE nS nS nS) rfl rfl
 obtain⟨sb,hsb⟩:∃b,b=H1.next:=⟨_,rfl⟩
 rw[← hsb]at m2 r2 k2 m3 r3 k3
 have l3:=row_loadN r3 (n:=21) rfl
 simp only[sA,sB,seval,m2,m3,l3]
 refine (new_spec (inE H3)).mono ?_
 rintro _ H4 ⟨p,st,rfl,E4,WK⟩
 rw[eE]
 have e4:=E4.next
 obtain⟨wb,vm,vb,vu,x1,x2,x3,rfl,W4⟩:=WR.of (WK eE) rL
 replace W4:WR H4.next H4 wb wE vm vb vu x1 x2 x3:=W4
 have c0:((0:Nat):Int)=0:=rfl
 simp only[sA,sB,seval,c0,ext_0,ext_1,ext_2]
 refine (begin_spec W4 okE (px:=0) dD dD).mono ?_
 rintro _ H5 ⟨rfl,E5,R5⟩
 obtain⟨pb,hpb⟩:∃b,b=H4.next:=⟨_,rfl⟩
 rw[← hpb]at R5 ⊢
 have e5:=E5.next
 have W5:=W4.to e5 fun b hb=>E5.old b hb
 obtain⟨s1,s2,s3⟩:=stE
 simp only[sA,sB,seval,ext_0,ext_1]
 refine (step_spec R5 W5 om okE (start0_j okE) dD dD dD dD dD rfl).mono ?_
 rintro _ H6 ⟨rfl,O6,R6,J6⟩
 have o6:=O6.1
 have hwb:=W4.wn
 rw[s1]
 have r6:Row H6 sb (scL sE nS nS nS):=r3.same (by rw[O6.2 _ om om,E5.old _ om,E4.old _ om])
 obtain⟨H7,m7,r7,n7,k7⟩:=row_st r6 (n:=21) rfl (i:=14) om (x:=.int .i64 536870912) rfl (l':=scL { sE with wide:=536870912 } nS nS nS) rfl
 obtain⟨mt,hmt⟩:∃m:Mt,m=⟨3,⟨4294967296,0,0⟩,[],[]⟩:=⟨_,rfl⟩
 obtain⟨rd,hrd⟩:∃m:Rd,m=⟨V0,4294967296,0⟩:=⟨_,rfl⟩
 have b1:aBuild [.int .i64 0,.int .i64 0,.int .i64 0] [(0,1,.int .i64 4294967296)]=some (.agg (v3 4294967296 0 0)):=rfl
 have b2:aBuild [.int .u8 0,.int .i64 0,.int .i64 0,.int .i64 0,.str [],.str []] [(0,1,.int .u8 3),(1,3,.agg (v3 4294967296 0 0))]=some (.agg (mtL mt)):=by rw[hmt]; rfl
 have b3:=buildM (m:=6) H7 (z:=[.int .u8 0,.int .i64 0,.int .i64 0,.int .i64 0,.str [],.str []]) (xs:=mtL mt) rfl rfl
 obtain⟨H8,hH8⟩:∃K,K=H7.push (.cells (mtL mt) 0 false):=⟨_,rfl⟩
 rw[← hH8]at b3
 have n8:H8.next=H7.next+1:=by rw[hH8]; rfl
 have k8:∀c,c<H7.next→H8.get c=H7.get c:=fun c hc=>by rw[hH8]; exact get_push_lt hc
 have g8:H8.get H7.next=some (.cells (mtL mt) 0 false):=by rw[hH8,AHeap.get_push,if_pos rfl]
 obtain⟨H9,m9,r9,n9,k9⟩:=row_st (r7.same (H':=H8) (k8 _ om)) (n:=21) rfl (i:=18) om (x:=oneM H7 6) rfl (l':=scL { sE with wide:=536870912 } (oneM H7 6) nS nS) rfl
 have b4:aBuild [.int .i64 0,.int .i64 0,.int .i64 0,.int .i64 0] [(3,1,.int .i64 4294967296)]=some (.agg (Bll.mk V0 4294967296).cells):=rfl
 have b5:aBuild [.int .i64 0,.int .i64 0,.int .i64 0,.int .i64 0,.int .i64 0] [(0,4,.agg (Bll.mk V0 4294967296).cells)]=some (.agg (rdL rd)):=by rw[hrd]; rfl
 have b6:=buildM (m:=5) H9 (z:=[.int .i64 0,.int .i64 0,.int .i64 0,.int .i64 0,.int .i64 0]) (xs:=rdL rd) rfl rfl
 obtain⟨Ha,hHa⟩:∃K,K=H9.push (.cells (rdL rd) 0 false):=⟨_,rfl⟩
 rw[← hHa]at b6
 have na:Ha.next=H9.next+1:=by rw[hHa]; rfl
 have ka:∀c,c<H9.next→Ha.get c=H9.get c:=fun c hc=>by rw[hHa]; exact get_push_lt hc
 have ga:Ha.get H9.next=some (.cells (rdL rd) 0 false):=by rw[hHa,AHeap.get_push,if_pos rfl]
 obtain⟨Hb,mb,rb,nb,kb⟩:=row_st (r9.same (H':=Ha) (ka _ om)) (n:=21) rfl (i:=19) om (x:=oneM H9 5) rfl (l':=scL sG (oneM H7 6) (oneM H9 5) nS) rfl
 have lb:=row_loadN rb (n:=21) rfl
 simp only[sA,sB,seval,ext_0,ext_1,fldA,m7,b1,b2,b3,m9,b4,b5,b6,mb]
 refine aw_drawN ?_
 have hb1:Nat.ble 1 9223372036854775807=true:=rfl
 have hb2:Nat.ble (56*1) 281474976710656=true:=rfl
 have hb3:Nat.ble (40*1) 281474976710656=true:=rfl
 have hb4:Nat.ble 1 1=true:=rfl
 have hmp:isMp (some (1,1))=false:=rfl
 simp only[claims,newOf,reserves,resO,clOp,natOf,hb1,hb2,hb3,hb4,hmp,cond_false,cond_true,Bool.and_self,rep,List.append_nil]
 obtain⟨Hc,hHc⟩:∃K,K=(Hb.push (.cells [nS,.int .i64 0,nS] 0 false)).push (.cells [.int .i64 0,.int .i64 0,nS] 0 false):=⟨_,rfl⟩
 rw[← hHc]
 have nc:Hc.next=Hb.next+2:=by rw[hHc]; rfl
 have kc:∀c,c<Hb.next→Hc.get c=Hb.get c:=fun c hc=>by rw[hHc,get_push_lt (by show c<Hb.next+1; omega),get_push_lt hc]
 have gc1:Hc.get Hb.next=some (.cells [nS,.int .i64 0,nS] 0 false):=by rw[hHc,get_push_lt (by show Hb.next<Hb.next+1; omega),AHeap.get_push,if_pos rfl]
 have gc2:Hc.get (Hb.next+1)=some (.cells [.int .i64 0,.int .i64 0,nS] 0 false):=by rw[hHc,AHeap.get_push]; exact if_pos rfl
 have d1:aClaim Hc Hb.next [.slice none 0 (.known 0),.int .i64 0,.slice none 0 (.known 0)] (some (1,1))=some (.slice (some ⟨Hb.next,3,0⟩) 1 (.known 1)):=by
  unfold aClaim; rw[gc1]; rfl
 have d2:aClaim Hc (Hb.next+1) [.int .i64 0,.int .i64 0,.slice none 0 (.known 0)] (some (1,1))=some (.slice (some ⟨Hb.next+1,3,0⟩) 1 (.known 1)):=by
  unfold aClaim; rw[gc2]; rfl
 have lc:=row_loadN (rb.same (H':=Hc) (kc _ om)) (n:=21) rfl
 have gm:Hc.get H7.next=some (.cells (mtL mt) 0 false):=by rw[kc _ om,kb _ om,ka _ om,k9 _ om]; exact g8
 have gr:Hc.get H9.next=some (.cells (rdL rd) 0 false):=by rw[kc _ om,kb _ om]; exact ga
 have sgm:sG.ms=[mt]:=by rw[hmt]; rfl
 have sgb:sG.bs=[rd]:=by rw[hrd]; rfl
 have InG:InN Hc sG [] [C0] [X0t] (oneM H7 6) (oneM H9 5) nS nS (.slice (some ⟨Hb.next,3,0⟩) 1 (.known 1)) (.slice (some ⟨Hb.next+1,3,0⟩) 1 (.known 1)):=by
  refine⟨⟨?_,?_,.inl ⟨rfl,rfl,rfl⟩⟩,nil_ls,⟨[nS,.int .i64 0,nS],?_,?_⟩,⟨[.int .i64 0,.int .i64 0,nS],?_,?_⟩,fun _ h=>by simp at h,by decide,?_,?_,by decide,by decide,by decide,by decide⟩
  ·rw[sgm]
   exact SlK.row (b:=H7.next) (n:=6) (k:=1) (m:=6) (C:=mtL mt) (r:=.known 1) ⟨0,gm,Nat.zero_le _⟩ rfl rfl (by show H7.next<_; omega)
  ·rw[sgb]
   exact SlK.row (b:=H9.next) (n:=5) (k:=1) (m:=5) (C:=rdL rd) (r:=.known 1) ⟨0,gr,Nat.zero_le _⟩ rfl rfl (by show H9.next<_; omega)
  ·exact SlK.row (b:=Hb.next) (n:=3) (k:=1) (m:=3) (r:=.known 1) ⟨0,gc1,Nat.zero_le _⟩ rfl rfl (by show Hb.next<_; omega)
  ·intro i x hx
   cases i with
   | zero=>simp only[List.getElem?_cons_zero,sJ]at hx; subst hx; exact⟨nS,nS,rfl,.inl ⟨rfl,rfl,rfl⟩,.inl ⟨rfl,rfl,rfl⟩⟩
   | succ i=>simp at hx
  ·exact SlK.row (b:=Hb.next+1) (n:=3) (k:=1) (m:=3) (r:=.known 1) ⟨0,gc2,Nat.zero_le _⟩ rfl rfl (by show Hb.next+1<_; omega)
  ·intro i x hx
   cases i with
   | zero=>simp only[List.getElem?_cons_zero,sJ]at hx; subst hx; exact⟨nS,rfl,.inl ⟨rfl,rfl,rfl⟩⟩
   | succ i=>simp at hx
  ·intro c hc
   simp only[List.mem_singleton]at hc; subst hc
   exact⟨by decide,by decide,fun _ h=>by simp[C0]at h⟩
  ·intro c hc
   simp only[List.mem_singleton]at hc; subst hc
   decide
 simp only[sR,sA,sB,seval,lc,tr_claim,d1,d2]
 refine (new_spec InG).mono ?_
 rintro _ Hd ⟨p,st2,rfl,Ed,WK2⟩
 rw[eG]
 have ed:=Ed.next
 obtain⟨wc,vm2,vb2,vu2,y1,y2,y3,rfl,Wd⟩:=WR.of (WK2 eG) rL
 replace Wd:WR Hd.next Hd wc wG vm2 vb2 vu2 y1 y2 y3:=Wd
 have old:∀c,c<H6.next→c≠sb→Hd.get c=H6.get c:=fun c h1 h2=>by rw[Ed.old c om,kc c om,kb c h2,ka c om,k9 c h2,k8 c om,k7 c h2]
 have wn6:=R6.wn
 have pn6:=R6.pn
 have Rd:=R6.to (H':=Hd) om (old _ om (by
  have:sb<H4.next:=om
  intro h
  have:=R6.w
  rw[h]at this
  obtain⟨l1,g1,_⟩:=this
  obtain⟨l2,g2,_⟩:=r6
  rw[g1]at g2
  simp only[sJ,AObj.cells.injEq]at g2
  have:=congrArg List.length g2.1
  simp[wrL,scL]at this)) (old _ om om)
 simp only[sR,sA,sB,seval,c0,ext_0,ext_1,ext_2]
 simp only[ck_nil',ck_cons,ckP_load,ckP_claim,ckP_nil,ck_end,and_true,true_and,List.map_cons,List.map_nil,sA,sB,seval]
 refine (begin_spec Wd okG (px:=0) dD dD).mono ?_
 rintro _ He ⟨rfl,Ee,Re⟩
 obtain⟨qb,hqb⟩:∃b,b=Hd.next:=⟨_,rfl⟩
 rw[← hqb]at Re ⊢
 have ee:=Ee.next
 have We:=Wd.to ee fun b hb=>Ee.old b hb
 obtain⟨u1,u2,u3⟩:=stG
 simp only[sA,sB,seval,ext_0,ext_1]
 refine (step_spec Re We om okG (start0_j okG) dD dD dD dD dD rfl).mono ?_
 rintro _ Hf ⟨rfl,Of,Rf,Jf⟩
 have of_:=Of.1
 rw[u1]
 have oldf:∀c,c<Hd.next→Hf.get c=Hd.get c:=fun c hc=>by rw[Of.2 c om om,Ee.old c hc]
 have Rp:=Rd.to (H':=Hf) om (oldf _ Rd.wn) (oldf _ Rd.pn)
 have sE1:wE.sc.sm=1:=rfl
 have sG1:wG.sc.sm=1:=rfl
 have bw:aBuild [.int .u8 0,.int .u8 0,.int .u8 0,.int .u8 0] [(0,1,.int .u8 255),(1,1,.int .u8 255),(2,1,.int .u8 255),(3,1,.int .u8 255)]=some (.agg (pixC (255,255,255))):=rfl
 have bg:aBuild [.int .u8 0,.int .u8 0,.int .u8 0,.int .u8 0] [(0,1,.int .u8 255),(1,1,.int .u8 0),(2,1,.int .u8 0),(3,1,.int .u8 255)]=some (.agg (pixC (255,0,0))):=rfl
 have c1:((1:Nat):Int)=1:=rfl
 simp only[sA,sB,seval,c1,ext_0,ext_1]
 refine (color_spec Rp J6.2.2 s2).mono ?_
 rintro _ Hg ⟨rfl,Eg⟩
 rw[sE1,s3]
 have eq1:=eq_pix 255 255 255
 have eq2:=eq_pix 255 0 0
 simp only[sA,sB,seval,bw,eq1]
 refine (color_spec (Rf.ext Eg) Jf.2.2 u2).mono ?_
 rintro _ Hh ⟨rfl,Eh⟩
 rw[sG1,u3]
 simp only[sA,sB,seval,bg,eq2]
open Go.Abs Go.Abs.S
theorem WR.more{n0 n1:Nat}{H:AHeap}{wb:Nat}{w:Wrl}{vm vb vu x1 x2 x3:AVal}(h:WR n0 H wb w vm vb vu x1 x2 x3)(a:n0≤n1)(b:n1≤H.next):WR n1 H wb w vm vb vu x1 x2 x3:=by
 have m:∀c,c<n0→c<n1∧H.get c=H.get c:=fun c hc=>⟨om,rfl⟩
 exact⟨h.r,h.s.mono m,h.p.mono m (PtQ.mono m),h.c.mono m (CdQ.mono m),h.x.mono m (PcQ.mono m),Nat.lt_of_lt_of_le h.wn a,b⟩
theorem modW{a b:Int}(hb:1≤b)(hb2:b≤1048576):IntKind.i64.wrap (a.tmod b+b)=a.tmod b+b∧0≤(a.tmod b+b).tmod b∧(a.tmod b+b).tmod b<b:=by
 have h1:=Int.tmod_lt_of_pos a (show 0<b by omega)
 have h2:-b<a.tmod b:=by
  rcases Int.le_total 0 a with h | h
  ·have:=Int.tmod_nonneg b h; omega
  ·obtain⟨c,rfl⟩:∃c,a=-c:=⟨-a,om⟩
   rw[Int.neg_tmod]
   have:=Int.tmod_lt_of_pos c (show 0<b by omega)
   omega
 exact⟨w64,Int.tmod_nonneg _ om,Int.tmod_lt_of_pos _ om⟩
def PO(w:Wrl)(p:Pth):Prop:=PJ p∧(0≤p.pixel∧p.pixel≤1000000000)∧(p.over=false→Going w p∧(0≤p.rays∧p.rays≤(posF w p:Int))∧(0≤p.shades∧p.shades≤200*(posF w p:Int)))
def topN(w:Wrl):Nat:=w.samples*(w.bounces+1)
theorem po_start{w:Wrl}(ok:w.ok){px:Int}(h:0≤px∧px≤1000000000):PO w (startF w (pth0 px)):=by
 have SO:=checkB_ok ok.s
 have:=SO.sm
 refine⟨start0_j ok,h,fun _=>⟨⟨rfl,?_,Nat.zero_le _⟩,⟨Int.le_refl _,?_⟩,Int.le_refl _,?_⟩⟩
 ·show 0<w.sc.sm.toNat; omega
 ·show (0:Int)≤_; omega
 ·show (0:Int)≤_; omega
theorem po_step{w:Wrl}{p:Pth}(h:PO w p)(ho:p.over=false)(j:PJ (stepF w p).2):PO w (stepF w p).2∧1≤(stepF w p).1.1∧(stepF w p).2.over=(stepF w p).1.2∧((stepF w p).2.over=false→posF w p<posF w (stepF w p).2):=by
 obtain⟨_,h2,h3⟩:=h
 obtain⟨g,r,s⟩:=h3 ho
 obtain⟨c,a1,a2,a3⟩:=step_after w g
 obtain⟨b1,b2,b3⟩:=step_cnt (w:=w) ho
 refine⟨⟨j,by rw[a2]; exact h2,fun hf=>?_⟩,c,a1,fun hf=>(a3 (by rw[← a1]; exact hf)).2⟩
 obtain⟨g1,g2⟩:=a3 (by rw[← a1]; exact hf)
 exact⟨g1,⟨om,om⟩,om,om⟩
structure LS(n0:Nat)(K:AHeap)(wa wc pb qb rb:Nat)(w:Wrl)(P Q:Pth)(vm vb vu x1 x2 x3 um ub uu y1 y2 y3:AVal):Prop where
 p:PR K wa pb w P vm vb vu x1 x2 x3
 q:PR K wa qb w Q vm vb vu x1 x2 x3
 r:PR K wc rb w P um ub uu y1 y2 y3
 a:WR n0 K wa w vm vb vu x1 x2 x3
 c:WR n0 K wc w um ub uu y1 y2 y3
theorem neqv_b(a:Bool):aPf (.eqv true .bool) [.bool a,.bool a]=some (.bool false):=by cases a <;> rfl
theorem law_loop_rng{w:Wrl}(ok:w.ok):topN w≤576∧w.samples≤64∧w.bounces≤8:=by
 have SO:=checkB_ok ok.s
 have h1:=SO.sm
 have h2:=SO.bo
 have a:w.samples≤64:=by show w.sc.sm.toNat≤64; omega
 have b:w.bounces≤8:=by show w.sc.bo.toNat≤8; omega
 exact⟨by have:=Nat.mul_le_mul a (show w.bounces+1≤9 by omega); exact this,a,b⟩
structure Pre(H:AHeap)(s:Sc)(ms:List Msh)(shs:List Cod)(pcs:List Tex)(vm vb vu vms vsh vpc:AVal):Prop where
 S:ScIn (·<H.next) H s vm vb vu
 m:MssIn (·<H.next) H vms ms
 c:CdsIn (·<H.next) H vsh shs
 x:PcsIn (·<H.next) H vpc pcs
 tot:s.bs.length≤281474976710656
 hM:∀m∈ms,m.pts.length≤281474976710656∧m.tris.length≤281474976710656∧m.balls.length≤281474976710656
 l1:ms.length≤1152921504606846976
 l2:shs.length≤1152921504606846976
 l3:pcs.length≤1152921504606846976
 hc:∀c∈shs,(c.code.length≤1152921504606846976∧c.consts.length≤1152921504606846976)∧∀x∈c.consts,J64 x
 sd:s.seed<18446744073709551616
theorem Pre.small{H H':AHeap}{s:Sc}{ms:List Msh}{shs:List Cod}{pcs:List Tex}{vm vb vu vms vsh vpc:AVal}(I:Pre H s ms shs pcs vm vb vu vms vsh vpc)(E:Ext H.next H H')(S:Small s ms shs pcs):InN H' s ms shs pcs vm vb vu vms vsh vpc:=by
 have up:∀b,b<H.next→b<H'.next∧H'.get b=H.get b:=fun b hb=>⟨Nat.lt_of_lt_of_le hb E.next,E.old b hb⟩
 refine⟨I.S.mono up,I.m.mono up (MsQ.mono up),I.c.mono up (CdQ.mono up),I.x.mono up (PcQ.mono up),fun m hm=>?_,by have:=S.n; omega,fun c hc=>?_,fun t ht=>by have:=S.x t ht; omega,by have:=S.ms; omega,by have:=S.mt; omega,by have:=S.us; omega,I.sd⟩
 ·have h1:=sumM_mem hm
  have h2:=S.n
  have h3:mN m=m.tris.length+m.balls.length+m.pts.length / 8:=rfl
  exact⟨om,om,om,by show m.tris.length+m.balls.length≤12; omega⟩
 ·have h1:=S.c c hc
  exact⟨om,om,(I.hc c hc).2⟩
set_option maxHeartbeats 8000000 in
theorem lsteps_spec{H:AHeap}{s:Sc}{ms:List Msh}{shs:List Cod}{pcs:List Tex}{vm vb vu vms vsh vpc vtu:AVal}(I:Pre H s ms shs pcs vm vb vu vms vsh vpc){b0 b1:Int}{tu:List Bool}(ST:SlK (·<H.next) H 1 vtu tu.length (tu.map .bool))(hT:tu.length≤1152921504606846976) :
  ACalls Tryz.prog noNat 3 [.agg (gwL s vm vb vu vms vsh vpc),.agg [.int .i64 b0,.int .i64 b1],vtu] H fun r _=>r=.bool true:=by
 obtain⟨H1,m1,r1,n1,k1⟩:=row_newL H (gwL s vm vb vu vms vsh vpc) (n:=24) rfl
 obtain⟨H2,m2,r2,n2,k2⟩:=row_newL H1 [.int .i64 b0,.int .i64 b1] (n:=2) rfl
 have E2:Ext H.next H H2:=⟨om,fun c hc=>by rw[k2 c om,k1 c om]⟩
 have gca:(AVal.agg (gwL s vm vb vu vms vsh vpc)).cells=gwL s vm vb vu vms vsh vpc:=rfl
 obtain⟨gb,hgb⟩:∃b,b=H.next:=⟨_,rfl⟩
 obtain⟨tb,htb⟩:∃b,b=H1.next:=⟨_,rfl⟩
 have r12:=r1.same (H':=H2) (k2 _ om)
 rw[← hgb]at r12 m1
 rw[← htb]at r2 m2
 have up:∀{K:AHeap},Ext H.next H K→∀b,b<H.next→b<K.next∧K.get b=H.get b:=fun x b hb=>⟨Nat.lt_of_lt_of_le hb x.next,x.old b hb⟩
 obtain⟨_,_,_,_,_,_,_,_,_,_,_,l24⟩:=ldG r12
 refine acalls_ofN rfl za3 rfl ?_
 simp only[c3,sA,sB,seval,gca,cells_agg,m1,m2,l24]
 refine (great_spec (I.S.mono (up E2)) (I.m.mono (up E2) (MsQ.mono (up E2))) (I.c.mono (up E2) (CdQ.mono (up E2))) (I.x.mono (up E2) (PcQ.mono (up E2))) I.tot I.hM I.l1 I.l2 I.l3 fun c hc=>(I.hc c hc).1).mono ?_
 rintro _ H3 ⟨gr,rfl,hsm,E3⟩
 have e3:=E3.next
 cases gr with
 | true=>
  simp only[sA,sB,seval]
  refine awake_spec.mono ?_
  rintro _ K rfl
  simp only[sA,sB,seval]
 | false=>
 have SM:=hsm rfl
 have r13:=r12.same (H':=H3) (E3.old _ om)
 obtain⟨_,_,_,_,_,_,_,l21,l22,l23,lsc,_⟩:=ldG r13
 have E13:Ext H.next H H3:=⟨om,fun c hc=>by rw[E3.old c om,E2.old c hc]⟩
 simp only[sA,sB,seval,fld0,fldA,lsc,l21,l22,l23]
 refine (new_spec (I.small E13 SM)).mono ?_
 rintro _ H4 ⟨pa,sta,rfl,E4,WK1⟩
 have e4:=E4.next
 have r14:=r13.same (H':=H4) (E4.old _ om)
 obtain⟨_,_,_,_,_,_,_,l21,l22,l23,lsc,_⟩:=ldG r14
 have E14:Ext H.next H H4:=⟨om,fun c hc=>by rw[E4.old c om,E13.old c hc]⟩
 simp only[sA,sB,seval,ext_0,ext_1,ext_2,fld0,fldA,lsc,l21,l22,l23]
 refine (new_spec (I.small E14 SM)).mono ?_
 rintro _ H5 ⟨pc,stc,rfl,E5,WK2⟩
 have e5:=E5.next
 by_cases he:errW s ms shs pcs=0
 case neg=>
  have he':¬((errW s ms shs pcs:Nat):Int)=0:=om
  simp only[sA,sB,seval,ext_0,ext_1,ext_2,he']
  refine awake_spec.mono ?_
  rintro _ K rfl
  simp only[sA,sB,seval]
 rw[he]
 have ok:=world_ok he I.sd (fun m hm=>((I.small E14 SM).hm m hm).2.2.2) (I.small E14 SM).hb (fun c hc=>⟨(I.hc c hc).2,((I.small E14 SM).hc c hc).1⟩)
 obtain⟨w,hw⟩:∃w,w=worldF s ms shs pcs:=⟨_,rfl⟩
 have WK1':=WK1 he
 have WK2':=WK2 he
 rw[← hw]at WK1' WK2' ok
 have hsc:w.sc=s:=by rw[hw]; rfl
 obtain⟨wa,um1,ub1,uu1,x1,x2,x3,rfl,Wa4⟩:=WR.of WK1' rL
 obtain⟨wc,um2,ub2,uu2,y1,y2,y3,rfl,Wc5⟩:=WR.of WK2' rL
 have Wa5:=(Wa4.to e5 fun b hb=>E5.old b hb).more (n1:=H5.next) e5 rL
 have SO:=checkB_ok ok.s
 rw[hsc]at SO
 have hw1:=SO.w
 have hh1:=SO.h
 have hmul:1≤s.w*s.h∧s.w*s.h≤1024*1024:=⟨by have:=Int.mul_le_mul hw1.1 hh1.1 om om; omega,Int.mul_le_mul hw1.2 hh1.2 om om⟩
 obtain⟨al,hal⟩:∃a,a=s.w*s.h:=⟨_,rfl⟩
 rw[← hal]at hmul
 have wm:IntKind.i64.wrap (s.w*s.h)=al:=by rw[← hal,IntKind.wrap_i64]; omega
 obtain⟨a1,a2,a3⟩:=modW (a:=b0) hmul.1 om
 obtain⟨d1,d2,d3⟩:=modW (a:=b1) hmul.1 om
 have q1:=remW (a:=b0) hmul.1
 have q2:=remW (a:=b0.tmod al+al) hmul.1
 have q3:=remW (a:=b1) hmul.1
 have q4:=remW (a:=b1.tmod al+al) hmul.1
 obtain⟨u0,hu0⟩:∃u,u=(b0.tmod al+al).tmod al:=⟨_,rfl⟩
 obtain⟨u1,hu1⟩:∃u,u=(b1.tmod al+al).tmod al:=⟨_,rfl⟩
 rw[← hu0]at a2 a3 q2
 rw[← hu1]at d2 d3 q4
 have r15:=r14.same (H':=H5) (E5.old _ om)
 have r25:Row H5 tb [.int .i64 b0,.int .i64 b1]:=r2.same (by rw[E5.old _ om,E4.old _ om,E3.old _ om])
 obtain⟨lw,lh,lsm,lbo,_⟩:=ldG r15
 have lt0:oLoad false 1 H5 (cellR tb 2 0)=some (.int .i64 b0):=row_load r25 rfl rfl
 have lt1:oLoad false 1 H5 (cellR tb 2 1)=some (.int .i64 b1):=row_load r25 rfl rfl
 have c0:((0:Nat):Int)=0:=rfl
 have i20:aIdxArr 2 1 (cellR tb 2 0) (.int .i64 0)=some (cellR tb 2 0):=rfl
 have i21:aIdxArr 2 1 (cellR tb 2 0) (.int .i64 1)=some (cellR tb 2 1):=rfl
 simp only[sA,sB,seval,c0,ext_0,ext_1,ext_2,fld0,fldA,Nat.reduceAdd,lw,lh,wm,i20,i21,lt0,lt1,q1,q2,q3,q4,a1,d1]
 refine (begin_spec Wa5 ok (px:=u0) a2 (by rw[hsc,← hal]; exact a3)).mono ?_
 rintro _ H6 ⟨rfl,E6,Rp⟩
 have e6:=E6.next
 obtain⟨pb,hpb⟩:∃b,b=H5.next:=⟨_,rfl⟩
 rw[← hpb]at Rp ⊢
 have Wa6:=Wa5.to e6 fun b hb=>E6.old b hb
 simp only[sA,sB,seval,ext_0,ext_1]
 refine (begin_spec Wa6 ok (px:=u1) d2 (by rw[hsc,← hal]; exact d3)).mono ?_
 rintro _ H7 ⟨rfl,E7,Rq⟩
 have e7:=E7.next
 obtain⟨qb,hqb⟩:∃b,b=H6.next:=⟨_,rfl⟩
 rw[← hqb]at Rq ⊢
 have Wc7:=Wc5.to (H':=H7) om fun b hb=>by rw[E7.old b om,E6.old b hb]
 simp only[sA,sB,seval,ext_0,ext_1]
 refine (begin_spec Wc7 ok (px:=u0) a2 (by rw[hsc,← hal]; exact a3)).mono ?_
 rintro _ H8 ⟨rfl,E8,Rr⟩
 have e8:=E8.next
 obtain⟨rb,hrb⟩:∃b,b=H7.next:=⟨_,rfl⟩
 rw[← hrb]at Rr ⊢
 have hpn:=Rp.pn
 have hqn:=Rq.pn
 have L8:LS H5.next H8 wa wc pb qb rb w (startF w (pth0 u0)) (startF w (pth0 u1)) um1 ub1 uu1 x1 x2 x3 um2 ub2 uu2 y1 y2 y3:=
  ⟨(Rp.ext E7).ext E8,Rq.ext E8,Rr,Wa6.to om fun b hb=>by rw[E8.old b om,E7.old b om],Wc7.to e8 fun b hb=>E8.old b om⟩
 have r18:=r15.same (H':=H8) (by rw[E8.old _ om,E7.old _ om,E6.old _ om])
 obtain⟨_,_,lsm,lbo,_⟩:=ldG r18
 obtain⟨N,hN⟩:∃N,N=topN w:=⟨_,rfl⟩
 obtain⟨hN1,hN2,hN3⟩:=law_loop_rng ok
 have hsm1:=SO.sm
 have hbo1:=SO.bo
 have wb1:IntKind.i64.wrap (s.bo+1)=s.bo+1:=w64
 have eN:s.sm*(s.bo+1)=(N:Int):=by
  rw[hN]; unfold topN Wrl.samples Wrl.bounces; rw[hsc]
  have h1:((s.sm.toNat:Nat):Int)=s.sm:=om
  have h2:((s.bo.toNat:Nat):Int)=s.bo:=om
  simp only[Int.natCast_mul,Int.natCast_add,h1,h2]; rfl
 have wN:IntKind.i64.wrap (s.sm*(s.bo+1))=(N:Int):=by rw[eN,IntKind.wrap_i64]; omega
 simp only[sA,sB,seval,ext_0,ext_1,fld0,fldA,Nat.reduceAdd,lsm,lbo,wb1,wN]
 have hnp:H5.next≤pb∧H5.next≤qb∧H5.next≤rb∧pb≠qb∧pb≠rb∧qb≠rb:=om
 obtain⟨hp1,hp2,hp3,np1,np2,np3⟩:=hnp
 have hpx:∀u:Int,0≤u→u<al→0≤u∧u≤1000000000:=fun u h1 h2=>⟨h1,om⟩
 refine aw_loop (fun m (T:Env) K=>∃(P Q:Pth) (i n:Nat),m=(tu.length-i)+(if P.over then 0 else N+1-posF w P)∧LS H5.next K wa wc pb qb rb w P Q um1 ub1 uu1 x1 x2 x3 um2 ub2 uu2 y1 y2 y3∧(∀c,c<H.next→K.get c=H.get c)∧H.next≤K.next∧PO w P∧PO w Q∧i≤tu.length+n∧n≤N∧(P.over=false→n≤posF w P) ∧
   T 2=vtu∧T 16=cellR pb 20 0∧T 18=cellR qb 20 0∧T 20=cellR rb 20 0∧T 22=.int .i64 (N:Int)∧T 23=.int .i64 (n:Int)∧T 24=.bool P.over∧T 25=.int .i64 (i:Int)) (tu.length+(N+1))
  ⟨startF w (pth0 u0),startF w (pth0 u1),0,0,by have h1:(startF w (pth0 u0)).over=false:=rfl; have h2:posF w (startF w (pth0 u0))=0:=(by show 0*_+0=0; omega); rw[h1,h2]; simp,L8,fun c hc=>by rw[E8.old c om,E7.old c om,E6.old c om,E5.old c om,E14.old c hc],om,po_start ok (hpx _ a2 a3),po_start ok (hpx _ d2 d3),om,om,fun _=>Nat.zero_le _,by simp only[sA,sB,seval],by simp only[sA,sB,seval],by simp only[sA,sB,seval],by simp only[sA,sB,seval],by simp only[sA,sB,seval],by simp only[sA,sB,seval],by simp only[sA,sB,seval]; rfl,by simp only[sA,sB,seval]⟩ ?_
 rintro m T K ⟨P,Q,i,n,rfl,L,kg,kn,hP,hQ,hi,hn,hnp,t2,t16,t18,t20,t22,t23,t24,t25⟩
 cases hov:P.over with
 | true=>
  rw[hov]at t24
  have c1:(n:Int)≤(N:Int):=om
  simp only[sA,sB,seval,t24,t23,t22,t16,t20,c1]
  refine (color_spec L.p hP.1.2.2 hov).mono ?_
  rintro _ K1 ⟨rfl,F1⟩
  simp only[sA,sB,seval,t20]
  refine (color_spec (L.r.ext F1) hP.1.2.2 hov).mono ?_
  rintro _ K2 ⟨rfl,F2⟩
  obtain⟨⟨ca,cb,cc⟩,hcol⟩:∃q,q=pixelF P.sum w.sc.sm:=⟨_,rfl⟩
  rw[← hcol]
  have eq1:=eq_pix ca cb cc
  simp only[sA,sB,seval,eq1,t16]
  refine (color_spec ((L.p.ext F1).ext F2) hP.1.2.2 hov).mono ?_
  rintro _ K3 ⟨rfl,F3⟩
  rw[← hcol]
  have ix3:aIdx 4 1 false (.agg (pixC (ca,cb,cc))) (.int .i64 3)=some (.int .u8 255):=rfl
  simp only[sA,sB,seval,ix3]
  refine awake_spec.mono ?_
  rintro _ K4 rfl
  simp only[sA,sB,seval]
 | false=>
  rw[hov]at t24
  have hnpos:=hnp hov
  obtain⟨gP,rP,sP⟩:=hP.2.2 hov
  have hpl:=pos_lt w gP
  have c1:(n:Int)≤(N:Int):=om
  have hNt:posF w P<N:=by rw[hN]; exact hpl
  have wi:IntKind.i64.wrap ((i:Int)+1)=((i+1:Nat):Int):=w64
  have wn1:IntKind.i64.wrap ((n:Int)+1)=((n+1:Nat):Int):=w64
  have STK:SlK (·<K.next) K 1 vtu tu.length (tu.map .bool):=ST.mono fun b hb=>⟨Nat.lt_of_lt_of_le hb kn,kg b hb⟩
  have ltu:=STK.len
  have hb1:P.bounce≤100:=by have:=gP.2.2; omega
  have hs1:P.sample≤100:=by have:=gP.2.1; omega
  have wa4:=L.a.wn
  have wc4:=L.c.wn
  have hkn5:=L.a.n
  by_cases hturn:i<tu.length∧tu[i]?=some true
  ·obtain⟨hlt,htu⟩:=hturn
   have hlt':(i:Int)<(tu.length:Int):=om
   have ix:=STK.idx hlt
   have lx:=STK.load1 hlt (x:=.bool true) (by rw[List.getElem?_map,htu]; rfl)
   have hmm:∀x:Nat,(tu.length-(i+1))+x<(tu.length-i)+x:=fun x=>om
   cases hoq:Q.over with
   | true=>
    simp only[sA,sB,seval,t24,t23,t22,c1,t25,t2,ltu,hlt',ix,lx,t18]
    refine (step_over L.q hoq).mono ?_
    rintro _ _ ⟨rfl,rfl⟩
    simp only[sA,sB,seval,t25,wi]
    exact⟨_,hmm _,P,Q,i+1,n,by rw[hov]; rfl,L,kg,kn,hP,hQ,om,hn,hnp,by simp only[t2,t16,t18,t20,t22,t23,t24,hov,and_true]⟩
   | false=>
    obtain⟨gQ,rQ,sQ⟩:=hQ.2.2 hoq
    have hqp:=pos_lt w gQ
    simp only[sA,sB,seval,t24,t23,t22,c1,t25,t2,ltu,hlt',ix,lx,t18]
    refine (step_spec L.q L.a hp2 ok hQ.1 (by have:=gQ.2.2; omega) (by have:=gQ.2.1; omega) hQ.2.1 ⟨rQ.1,by have:topN w=w.samples*(w.bounces+1):=rfl; omega⟩ ⟨sQ.1,by have:topN w=w.samples*(w.bounces+1):=rfl; omega⟩ hoq).mono ?_
    rintro _ K1 ⟨rfl,O1,R1,J1⟩
    obtain⟨pq,_,_,_⟩:=po_step hQ hoq J1
    have lt1:=L.p.pn
    have lt2:=L.r.pn
    have L1:LS H5.next K1 wa wc pb qb rb w P (stepF w Q).2 um1 ub1 uu1 x1 x2 x3 um2 ub2 uu2 y1 y2 y3:=
     ⟨L.p.to O1.1 (O1.2 _ om om) (O1.2 _ lt1 np1),R1,L.r.to O1.1 (O1.2 _ om om) (O1.2 _ lt2 (Ne.symm np3)),L.a.to O1.1 fun b hb=>O1.2 b om om,L.c.to O1.1 fun b hb=>O1.2 b om om⟩
    simp only[sA,sB,seval,t25,wi]
    exact⟨_,hmm _,P,(stepF w Q).2,i+1,n,by rw[hov]; rfl,L1,fun c hc=>by rw[O1.2 c om om,kg c hc],Nat.le_trans kn O1.1,hP,pq,om,hn,hnp,by simp only[t2,t16,t18,t20,t22,t23,t24,hov,and_true]⟩
  have lstep:=step_spec L.p L.a hp1 ok hP.1 hb1 hs1 hP.2.1 ⟨rP.1,om⟩ ⟨sP.1,om⟩ hov
  by_cases hlt:i<tu.length
  case' pos=>
   have hlt':(i:Int)<(tu.length:Int):=om
   have htu:tu[i]?=some false:=by
    obtain⟨b,hb⟩:=isSome_of_lt hlt
    cases b with
    | true=>exact absurd ⟨hlt,hb⟩ hturn
    | false=>exact hb
   have ix:=STK.idx hlt
   have lx:=STK.load1 hlt (x:=.bool false) (by rw[List.getElem?_map,htu]; rfl)
   simp only[sA,sB,seval,t24,t23,t22,c1,t25,t2,ltu,hlt',ix,lx,t16]
  case' neg=>
   have hlt':¬(i:Int)<(tu.length:Int):=om
   simp only[sA,sB,seval,t24,t23,t22,c1,t25,t2,ltu,hlt',t16]
  all_goals
   refine lstep.mono ?_
   rintro _ K1 ⟨rfl,O1,R1,J1⟩
   obtain⟨pp,c2,c3,c4⟩:=po_step hP hov J1
   have lt1:=L.q.pn
   have lt2:=L.r.pn
   have Rr1:=L.r.to O1.1 (O1.2 _ om om) (O1.2 _ lt2 (Ne.symm np2))
   have Wc1:=L.c.to O1.1 fun b hb=>O1.2 b om om
   simp only[sA,sB,seval,ext_0,ext_1,t20]
   refine (step_spec Rr1 Wc1 hp3 ok hP.1 hb1 hs1 hP.2.1 ⟨rP.1,om⟩ ⟨sP.1,om⟩ hov).mono ?_
   rintro _ K2 ⟨rfl,O2,R2,_⟩
   have o1:=O1.1
   have lt3:=R1.pn
   have L2:LS H5.next K2 wa wc pb qb rb w (stepF w P).2 Q um1 ub1 uu1 x1 x2 x3 um2 ub2 uu2 y1 y2 y3:=
    ⟨R1.to O2.1 (O2.2 _ om om) (O2.2 _ lt3 np2),(L.q.to O1.1 (O1.2 _ om om) (O1.2 _ lt1 (Ne.symm np1))).to O2.1 (O2.2 _ om om) (O2.2 _ om np3),R2,(L.a.to O1.1 fun b hb=>O1.2 b om om).to O2.1 fun b hb=>O2.2 b om om,Wc1.to O2.1 fun b hb=>O2.2 b om om⟩
   have d1:¬((stepF w P).1.1:Int)<1:=om
   have nb:=neqv_b (stepF w P).1.2
   simp only[sA,sB,seval,ext_0,ext_1,t23,wn1,d1,nb,t25,wi]
   refine⟨_,?_,(stepF w P).2,Q,i+1,n+1,rfl,L2,fun c hc=>by rw[O2.2 c om om,O1.2 c om om,kg c hc],by have:=O2.1; omega,pp,hQ,om,om,fun hf=>by have:=c4 hf; omega,by simp only[t2,t16,t18,t20,t22,c3,and_true]⟩
   cases hf:(stepF w P).2.over with
   | true=>first | omega | (simp; omega)
   | false=>
    have:=c4 hf
    first | omega | (simp; omega)
open Go.Abs Go.Abs.S
open Go.WideShapes Go.ChangeShapes
variable {K:Type} {enc:TypeId×Value→K}
theorem mapM_none{α:Type}{f:Nat→Option α}{m:Nat}(h:f 0=none)(hm:0<m):(List.range m).mapM f=none:=by
 obtain⟨m,rfl⟩:∃k,m=k+1:=⟨m-1,om⟩
 rw[List.range_succ_eq_map,List.mapM_cons,h]; rfl
theorem cells_spot{W:World}{c off:Nat}{q}{m:Nat}(hm:0<m):W.cells? 0 ⟨c,off,some q⟩ m=none:=by
 unfold World.cells?
 split
 ·refine mapM_none ?_ hm
  show W.cell? ⟨c,off,some q⟩=none
  unfold World.cell?
  split
  ·rfl
  ·rfl
 ·rfl
theorem SlK.empty{W:World}{m:Nat}{a:Addr}:SlK (·<(heapW W).next) (heapW W) m (absW W (.slice (some a) 0 0)) 0 []:=by
 obtain⟨c,off,spot⟩:=a
 cases spot with
 | some q=>exact .inl ⟨rfl,rfl,rfl⟩
 | none=>
  cases hr:rowOf W c with
  | none=>exact .inl ⟨by simp only[absW,Nat.le_refl,if_true,hr]; rfl,rfl,rfl⟩
  | some n=>
   by_cases ho:off≤n
   ·obtain⟨C,e',fz,g1,g2,g3⟩:=objW_some hr
    have hlt:c<(heapW W).next:=(Array.getElem?_eq_some_iff.1 g1).1
    refine .inr ⟨⟨c,n,off⟩,.known 0,by simp only[absW,Nat.le_refl,if_true,hr,ho],hlt,?_⟩
    unfold rdCells
    rw[heapW_get,g3]
    simp only[List.length_map,Array.length_toList,g2,Nat.mul_zero,Nat.add_zero,List.take_zero,Nat.ble_eq_true_of_le (Nat.zero_le _),Nat.ble_eq_true_of_le rL,Nat.ble_eq_true_of_le ho,Bool.and_self,cond_true]
   ·exact .inl ⟨by simp only[absW,Nat.le_refl,if_true,hr]; rw[if_neg ho]; rfl,rfl,rfl⟩
theorem trod_sl{P:Program}{W:World}{t e:TypeId}{m fuel:Nat}{cs:List Value}{x:DataW K×List MemPlace}(ht:P.underlying t=some (.slice e))(hm:P.cellsOf e=m)(h0:0<m)
  (hf:DataW.trod enc P W 0 (fun _=>true) true fuel t cs=some x) :
  ∃v k C,cs=[v]∧(k=0∨∃el sp,x.1=.slice el sp∧el.length=k)∧SlK (·<(heapW W).next) (heapW W) m (absW W v) k C∧C.length=m*k∧∀i,i<k→∃f es y,f<fuel∧es.map (absW W)=(C.drop (i*m)).take m∧DataW.trod enc P W 0 (fun _=>true) true f e es=some y∧∃el sp,x.1=.slice el sp∧el[i]?=some y.1:=by
 subst hm
 rcases DataW.trod_slice ht hf with⟨rfl,_⟩ | ⟨a,len,cap,elems,rest,n',hfu,rfl,hx,_,h3,h4,h5,h6,h7,_⟩
 ·exact⟨_,0,[],rfl,.inl rfl,.inl ⟨by simp only[absW]; rfl,rfl,rfl⟩,rfl,fun i hi=>om⟩
 obtain⟨h7a,h7b⟩:=h7 rfl
 by_cases hc:cap=0
 ·obtain rfl:len=0:=om
  subst hc
  exact⟨_,0,[],rfl,.inl rfl,SlK.empty,rfl,fun i hi=>om⟩
 have hal:∀i,i<cap→∃es,W.cells? 0 (a.add (i*P.cellsOf e)) (P.cellsOf e)=some es:=by
  intro i hi
  by_cases hlt:i<len
  ·have:=h6 i hlt
   rw[List.getElem?_eq_getElem om]at this
   obtain⟨es,q,_⟩:=Option.bind_eq_some_iff.1 this
   exact⟨es,q⟩
  ·have:=h7b (i-len) om
   rw[List.getElem?_eq_getElem om,show len+(i-len)=i by omega]at this
   obtain⟨es,q,_⟩:=Option.bind_eq_some_iff.1 this
   exact⟨es,q⟩
 obtain⟨c,off,spot⟩:=a
 cases spot with
 | some q=>
  obtain⟨es,hes⟩:=hal 0 om
  rw[Nat.zero_mul,show (⟨c,off,some q⟩:Addr).add 0=⟨c,off,some q⟩ from rfl,cells_spot h0]at hes
  simp at hes
 | none=>
  have key:∀i,i<cap→∀es,W.cells? 0 ((⟨c,off,none⟩:Addr).add (i*P.cellsOf e)) (P.cellsOf e)=some es→es.length=P.cellsOf e∧∀j,j<P.cellsOf e→W.cell? ⟨c,off+i*P.cellsOf e+j,none⟩=es[j]?:=by
   intro i _ es hes
   rw[add_none]at hes
   exact cells_at hes
  obtain⟨es0,hes0⟩:=hal (cap-1) om
  obtain⟨q1,q2⟩:=key (cap-1) om es0 hes0
  have q3:=q2 (P.cellsOf e-1) om
  rw[List.getElem?_eq_getElem om]at q3
  obtain⟨n,hn⟩:∃n,rowOf W c=some n:=by
   unfold World.cell? at q3
   unfold rowOf
   split at q3
   ·rename_i C _ _ hC; exact⟨C.size,by simp only at hC; rw[hC]⟩
   ·simp at q3
  obtain⟨C,e',fz,g1,g2,g3⟩:=objW_some hn
  rw[cell?_of g1]at q3
  have hb:=(Array.getElem?_eq_some_iff.1 q3).1
  have hcap:(cap-1)*P.cellsOf e+P.cellsOf e=cap*P.cellsOf e:=by
   rw[← Nat.succ_mul]; congr 1; omega
  have hlc:len*P.cellsOf e≤cap*P.cellsOf e:=Nat.mul_le_mul_right _ h3
  have hlt:c<(heapW W).next:=(Array.getElem?_eq_some_iff.1 g1).1
  have hmul:P.cellsOf e*len=len*P.cellsOf e:=Nat.mul_comm _ _
  refine⟨_,len,((C.toList.map (absW W)).drop off).take (P.cellsOf e*len),rfl,.inr ⟨_,_,congrArg Prod.fst hx,by rw[List.length_map]; omega⟩,.inr ⟨⟨c,n,off⟩,.known cap,?_,hlt,?_⟩,?_,?_⟩
  ·simp only[absW,h3,if_true,hn,show off≤n by omega]
  ·unfold rdCells
   rw[heapW_get,g3]
   simp only[List.length_map,Array.length_toList,g2,Nat.ble_eq_true_of_le (Nat.zero_le _),Nat.ble_eq_true_of_le rL,Nat.ble_eq_true_of_le (show off+P.cellsOf e*len≤n by omega),Bool.and_self,cond_true]
  ·rw[List.length_take,List.length_drop,List.length_map,Array.length_toList]; omega
  ·intro i hi
   have:=h6 i hi
   rw[List.getElem?_eq_getElem om]at this
   obtain⟨es,r1,r2⟩:=Option.bind_eq_some_iff.1 this
   obtain⟨l1,l2⟩:=key i om es r1
   refine⟨n',es,_,om,?_,r2,_,_,congrArg Prod.fst hx,by rw[List.getElem?_map,List.getElem?_eq_getElem om]; rfl⟩
   apply List.ext_getElem?
   intro j
   have hil:i*P.cellsOf e+P.cellsOf e≤len*P.cellsOf e:=by
    rw[← Nat.succ_mul]; exact Nat.mul_le_mul_right _ hi
   by_cases hj:j<P.cellsOf e
   ·rw[List.getElem?_take_of_lt hj,List.getElem?_drop,List.getElem?_take_of_lt om,List.getElem?_drop,List.getElem?_map,List.getElem?_map,← l2 j hj,cell?_of g1,Array.getElem?_toList,Nat.add_assoc]
   ·rw[List.getElem?_eq_none (by rw[List.length_map]; omega),List.getElem?_eq_none (by rw[List.length_take]; omega)]
def Fd(P:Program)(fs:Array Field)(i off n:Nat)(T:TypeId→Prop):Prop:=∃f,fs[i]?=some f∧f.offset=off∧P.cellsOf f.type=n∧T f.type
theorem fd_trod{P:Program}{W:World}{fuel:Nat}{cs:List Value}{xs:List (DataW K×List MemPlace)}{fs:Array Field}{i off n:Nat}{T:TypeId→Prop}(h:Fd P fs i off n T)(hl:xs.length=fs.size)
  (hi:∀(i:Nat) (f:Field),fs[i]?=some f→DataW.trod enc P W 0 (fun _=>true) true fuel f.type ((cs.drop f.offset).take (P.cellsOf f.type))=xs[i]?) :
  ∃t y,T t∧DataW.trod enc P W 0 (fun _=>true) true fuel t ((cs.drop off).take n)=some y∧xs[i]?=some y∧(fs.toList.map (·.type))[i]?=some t:=by
 obtain⟨f,h1,rfl,rfl,h4⟩:=h
 have h5:=hi i f h1
 have hlt:=(Array.getElem?_eq_some_iff.1 h1).1
 rw[List.getElem?_eq_getElem om]at h5
 exact⟨_,_,h4,h5,List.getElem?_eq_getElem _,by rw[List.getElem?_map,Array.getElem?_toList,h1]; rfl⟩
theorem wf_u8{z:Int}(h:(Lit.int .u8 z).wf=true):∃k:Nat,z=(k:Int):=by
 simp only[Lit.wf,Bool.and_eq_true,decide_eq_true_eq]at h
 have h1:(0:Int)≤z:=h.1
 exact⟨z.toNat,om⟩
theorem wf_i64{z:Int}(h:(Lit.int .i64 z).wf=true):-9223372036854775808≤z∧z≤9223372036854775807:=by
 simp only[Lit.wf,Bool.and_eq_true,decide_eq_true_eq]at h
 exact h
theorem wf_u64{z:Int}(h:(Lit.int .u64 z).wf=true):∃k:Nat,z=(k:Int)∧k<18446744073709551616:=by
 simp only[Lit.wf,Bool.and_eq_true,decide_eq_true_eq]at h
 have h1:(0:Int)≤z:=h.1
 have h2:z≤18446744073709551615:=h.2
 exact⟨z.toNat,om,om⟩
abbrev IsI(P:Program)(k:IntKind)(t:TypeId):Prop:=P.underlying t=some (.int k)
abbrev IsS(P:Program)(t:TypeId):Prop:=P.underlying t=some .string
structure VecT(P:Program)(tv:TypeId):Prop where
 c:P.cellsOf tv=3
 f:∃fs:Array Field,P.underlying tv=some (.struct fs)∧Fd P fs 0 0 1 (IsI P .i64)∧Fd P fs 1 1 1 (IsI P .i64)∧Fd P fs 2 2 1 (IsI P .i64)
theorem trod_vec{P:Program}{W:World}{tv:TypeId}(Y:VecT P tv){fuel:Nat}{cs:List Value}{x:DataW K×List MemPlace}(hf:DataW.trod enc P W 0 (fun _=>true) true fuel tv cs=some x) :
  ∃x y z,cs=[.int .i64 x,.int .i64 y,.int .i64 z]:=by
 obtain⟨fs,hfs,d0,d1,d2⟩:=Y.f
 obtain⟨xs,n,hfu,_,hl,hn,hi⟩:=DataW.trod_struct hfs hf
 rw[Y.c]at hl
 obtain⟨c0,c1,c2,rfl⟩:∃a b c,cs=[a,b,c]:=by
  match cs,hl with
  | [a,b,c],_=>exact⟨a,b,c,rfl⟩
 obtain⟨_,_,g0,t0,_⟩:=fd_trod d0 hn hi
 obtain⟨_,_,g1,t1,_⟩:=fd_trod d1 hn hi
 obtain⟨_,_,g2,t2,_⟩:=fd_trod d2 hn hi
 obtain⟨z0,e0,_,_⟩:=DataW.trod_int g0 t0
 obtain⟨z1,e1,_,_⟩:=DataW.trod_int g1 t1
 obtain⟨z2,e2,_,_⟩:=DataW.trod_int g2 t2
 simp at e0 e1 e2
 subst e0 e1 e2
 exact⟨_,_,_,rfl⟩
structure MatT(P:Program)(t:TypeId):Prop where
 c:P.cellsOf t=6
 f:∃fs:Array Field,P.underlying t=some (.struct fs)∧Fd P fs 0 0 1 (IsI P .u8)∧Fd P fs 1 1 3 (VecT P)∧Fd P fs 2 4 1 (IsS P)∧Fd P fs 3 5 1 (IsS P)
theorem trod_mat{P:Program}{W:World}{t:TypeId}(Y:MatT P t){fuel:Nat}{cs:List Value}{x:DataW K×List MemPlace}(hf:DataW.trod enc P W 0 (fun _=>true) true fuel t cs=some x) :
  ∃m:Mt,cs.map (absW W)=mtL m:=by
 obtain⟨fs,hfs,d0,d1,d2,d3⟩:=Y.f
 obtain⟨xs,n,hfu,_,hl,hn,hi⟩:=DataW.trod_struct hfs hf
 rw[Y.c]at hl
 obtain⟨c0,c1,c2,c3,c4,c5,rfl⟩:∃a b c d e f,cs=[a,b,c,d,e,f]:=by
  match cs,hl with
  | [a,b,c,d,e,f],_=>exact⟨a,b,c,d,e,f,rfl⟩
 obtain⟨_,_,g0,t0,_⟩:=fd_trod d0 hn hi
 obtain⟨_,_,g1,t1,_⟩:=fd_trod d1 hn hi
 obtain⟨_,_,g2,t2,_⟩:=fd_trod d2 hn hi
 obtain⟨_,_,g3,t3,_⟩:=fd_trod d3 hn hi
 obtain⟨z0,e0,_,w0⟩:=DataW.trod_int g0 t0
 obtain⟨a,b,c,e1⟩:=trod_vec g1 t1
 obtain⟨s2,e2,_,_⟩:=DataW.trod_string g2 t2
 obtain⟨s3,e3,_,_⟩:=DataW.trod_string g3 t3
 simp at e0 e1 e2 e3
 obtain⟨e1a,e1b,e1c⟩:=e1
 subst e0 e1a e1b e1c e2 e3
 obtain⟨k0,rfl⟩:=wf_u8 w0
 exact⟨⟨k0,⟨a,b,c⟩,s2.data.toList,s3.data.toList⟩,rfl⟩
structure BallT(P:Program)(t:TypeId):Prop where
 c:P.cellsOf t=4
 f:∃fs:Array Field,P.underlying t=some (.struct fs)∧Fd P fs 0 0 3 (VecT P)∧Fd P fs 1 3 1 (IsI P .i64)
structure RndT(P:Program)(t:TypeId):Prop where
 c:P.cellsOf t=5
 f:∃fs:Array Field,P.underlying t=some (.struct fs)∧Fd P fs 0 0 4 (BallT P)∧Fd P fs 1 4 1 (IsI P .i64)
theorem trod_rnd{P:Program}{W:World}{t:TypeId}(Y:RndT P t){fuel:Nat}{cs:List Value}{x:DataW K×List MemPlace}(hf:DataW.trod enc P W 0 (fun _=>true) true fuel t cs=some x) :
  ∃m:Rd,cs.map (absW W)=rdL m:=by
 obtain⟨fs,hfs,d0,d1⟩:=Y.f
 obtain⟨xs,n,hfu,_,hl,hn,hi⟩:=DataW.trod_struct hfs hf
 rw[Y.c]at hl
 obtain⟨c0,c1,c2,c3,c4,rfl⟩:∃a b c d e,cs=[a,b,c,d,e]:=by
  match cs,hl with
  | [a,b,c,d,e],_=>exact⟨a,b,c,d,e,rfl⟩
 obtain⟨_,_,g0,t0,_⟩:=fd_trod d0 hn hi
 obtain⟨_,_,g1,t1,_⟩:=fd_trod d1 hn hi
 obtain⟨fs',hfs',d0',d1'⟩:=g0.f
 obtain⟨xs',n',_,_,_,hn',hi'⟩:=DataW.trod_struct hfs' t0
 obtain⟨_,_,g2,t2,_⟩:=fd_trod d0' hn' hi'
 obtain⟨_,_,g3,t3,_⟩:=fd_trod d1' hn' hi'
 obtain⟨a,b,c,e1⟩:=trod_vec g2 t2
 obtain⟨z3,e3,_,_⟩:=DataW.trod_int g3 t3
 obtain⟨z4,e4,_,_⟩:=DataW.trod_int g1 t1
 simp at e1 e3 e4
 obtain⟨e1a,e1b,e1c⟩:=e1
 subst e1a e1b e1c e3 e4
 exact⟨⟨⟨a,b,c⟩,z3,z4⟩,rfl⟩
structure UseT(P:Program)(t:TypeId):Prop where
 c:P.cellsOf t=5
 f:∃fs:Array Field,P.underlying t=some (.struct fs)∧Fd P fs 0 0 1 (IsS P)∧Fd P fs 1 1 3 (VecT P)∧Fd P fs 2 4 1 (IsI P .i64)
theorem trod_use{P:Program}{W:World}{t:TypeId}(Y:UseT P t){fuel:Nat}{cs:List Value}{x:DataW K×List MemPlace}(hf:DataW.trod enc P W 0 (fun _=>true) true fuel t cs=some x) :
  ∃m:Us,cs.map (absW W)=usL m:=by
 obtain⟨fs,hfs,d0,d1,d2⟩:=Y.f
 obtain⟨xs,n,hfu,_,hl,hn,hi⟩:=DataW.trod_struct hfs hf
 rw[Y.c]at hl
 obtain⟨c0,c1,c2,c3,c4,rfl⟩:∃a b c d e,cs=[a,b,c,d,e]:=by
  match cs,hl with
  | [a,b,c,d,e],_=>exact⟨a,b,c,d,e,rfl⟩
 obtain⟨_,_,g0,t0,_⟩:=fd_trod d0 hn hi
 obtain⟨_,_,g1,t1,_⟩:=fd_trod d1 hn hi
 obtain⟨_,_,g2,t2,_⟩:=fd_trod d2 hn hi
 obtain⟨s0,e0,_,_⟩:=DataW.trod_string g0 t0
 obtain⟨a,b,c,e1⟩:=trod_vec g1 t1
 obtain⟨z2,e2,_,_⟩:=DataW.trod_int g2 t2
 simp at e0 e1 e2
 obtain⟨e1a,e1b,e1c⟩:=e1
 subst e0 e1a e1b e1c e2
 exact⟨⟨s0.data.toList,⟨a,b,c⟩,z2⟩,rfl⟩
theorem flat_of{α:Type}{g:α→List AVal}{m:Nat}:∀(k:Nat) (C:List AVal),C.length=m*k→(∀i,i<k→∃e,(C.drop (i*m)).take m=g e)→∃l:List α,l.length=k∧C=l.flatMap g
 | 0,C,h,_=>⟨[],rfl,by cases C with | nil=>rfl | cons a b=>simp at h⟩
 | k+1,C,h,hq=>by
  obtain⟨e,h1⟩:=hq 0 om
  obtain⟨l,a1,a2⟩:=flat_of (g:=g) (m:=m) k (C.drop m) (by rw[List.length_drop,h,Nat.mul_succ]; omega) fun i hi=>by
   obtain⟨e,g1⟩:=hq (i+1) om
   refine⟨e,?_⟩
   rw[List.drop_drop,show m+i*m=(i+1)*m by rw[Nat.succ_mul]; omega]; exact g1
  rw[Nat.zero_mul,List.drop_zero]at h1
  exact⟨e::l,by simp[a1],by rw[List.flatMap_cons,← h1,← a2,List.take_append_drop]⟩
theorem sl_len{P:Program}{t e:TypeId}{d:DataW K}{k:Nat}(ht:P.underlying t=some (.slice e))(hb:0<P.bytesOf e)(hw:∀n∈d.weights P t,n≤reachBytes)(h:k=0∨∃el sp,d=.slice el sp∧el.length=k):k≤281474976710656:=by
 rcases h with rfl | ⟨el,sp,rfl,rfl⟩
 ·omega
 ·have h1:=hw ((el.length+sp.length)*P.bytesOf e) (by simp[DataW.weights,ht])
  have h2:el.length*1≤(el.length+sp.length)*P.bytesOf e:=Nat.mul_le_mul om hb
  have h3:=reachBytes_lt
  omega
abbrev SlT(P:Program)(T:TypeId→Prop)(t:TypeId):Prop:=∃e,P.underlying t=some (.slice e)∧T e∧0<P.bytesOf e
structure SceneT(P:Program)(t:TypeId):Prop where
 c:P.cellsOf t=21
 f:∃fs:Array Field,P.underlying t=some (.struct fs)∧Fd P fs 0 0 1 (IsI P .i64)∧Fd P fs 1 1 1 (IsI P .i64)∧Fd P fs 2 2 1 (IsI P .i64)∧Fd P fs 3 3 1 (IsI P .i64)∧Fd P fs 4 4 1 (IsI P .u64) ∧
  Fd P fs 5 5 3 (VecT P)∧Fd P fs 6 8 3 (VecT P)∧Fd P fs 7 11 3 (VecT P)∧Fd P fs 8 14 1 (IsI P .i64)∧Fd P fs 9 15 3 (VecT P)∧Fd P fs 10 18 1 (SlT P (MatT P))∧Fd P fs 11 19 1 (SlT P (RndT P))∧Fd P fs 12 20 1 (SlT P (UseT P))
theorem trod_scene{P:Program}{W:World}{t:TypeId}(Y:SceneT P t){fuel:Nat}{cs:List Value}{x:DataW K×List MemPlace}(hf:DataW.trod enc P W 0 (fun _=>true) true fuel t cs=some x)(hw:∀n∈x.1.weights P t,n≤reachBytes) :
  ∃s vm vb vu,cs.map (absW W)=scL s vm vb vu∧ScIn (·<(heapW W).next) (heapW W) s vm vb vu∧s.seed<18446744073709551616∧s.ms.length≤281474976710656∧s.bs.length≤281474976710656∧s.us.length≤281474976710656:=by
 obtain⟨fs,hfs,d0,d1,d2,d3,d4,d5,d6,d7,d8,d9,d10,d11,d12⟩:=Y.f
 obtain⟨xs,n,hfu,rfl,hl,hn,hi⟩:=DataW.trod_struct hfs hf
 have hw':∀n∈DataW.weightsEach P (fs.toList.map (·.type)) (xs.map (·.1)),n≤reachBytes:=fun n h=>hw n (by simp only[DataW.weights,hfs]; exact h)
 rw[Y.c]at hl
 obtain⟨c0,c1,c2,c3,c4,c5,c6,c7,c8,c9,c10,c11,c12,c13,c14,c15,c16,c17,c18,c19,c20,rfl⟩:∃c0 c1 c2 c3 c4 c5 c6 c7 c8 c9 c10 c11 c12 c13 c14 c15 c16 c17 c18 c19 c20,cs=[c0,c1,c2,c3,c4,c5,c6,c7,c8,c9,c10,c11,c12,c13,c14,c15,c16,c17,c18,c19,c20]:=by
  match cs,hl with
  | [c0,c1,c2,c3,c4,c5,c6,c7,c8,c9,c10,c11,c12,c13,c14,c15,c16,c17,c18,c19,c20],_=>exact⟨c0,c1,c2,c3,c4,c5,c6,c7,c8,c9,c10,c11,c12,c13,c14,c15,c16,c17,c18,c19,c20,rfl⟩
 obtain⟨_,y0,g0,t0,x0,f0⟩:=fd_trod d0 hn hi
 obtain⟨_,y1,g1,t1,x1,f1⟩:=fd_trod d1 hn hi
 obtain⟨_,y2,g2,t2,x2,f2⟩:=fd_trod d2 hn hi
 obtain⟨_,y3,g3,t3,x3,f3⟩:=fd_trod d3 hn hi
 obtain⟨_,y4,g4,t4,x4,f4⟩:=fd_trod d4 hn hi
 obtain⟨_,y5,g5,t5,x5,f5⟩:=fd_trod d5 hn hi
 obtain⟨_,y6,g6,t6,x6,f6⟩:=fd_trod d6 hn hi
 obtain⟨_,y7,g7,t7,x7,f7⟩:=fd_trod d7 hn hi
 obtain⟨_,y8,g8,t8,x8,f8⟩:=fd_trod d8 hn hi
 obtain⟨_,y9,g9,t9,x9,f9⟩:=fd_trod d9 hn hi
 obtain⟨_,y10,g10,t10,x10,f10⟩:=fd_trod d10 hn hi
 obtain⟨_,y11,g11,t11,x11,f11⟩:=fd_trod d11 hn hi
 obtain⟨_,y12,g12,t12,x12,f12⟩:=fd_trod d12 hn hi
 obtain⟨z0,e0,_,_⟩:=DataW.trod_int g0 t0
 obtain⟨z1,e1,_,_⟩:=DataW.trod_int g1 t1
 obtain⟨z2,e2,_,_⟩:=DataW.trod_int g2 t2
 obtain⟨z3,e3,_,_⟩:=DataW.trod_int g3 t3
 obtain⟨z8,e8,_,_⟩:=DataW.trod_int g8 t8
 obtain⟨z4,e4,_,w4⟩:=DataW.trod_int g4 t4
 obtain⟨a5,b5,k5,e5⟩:=trod_vec g5 t5
 obtain⟨a6,b6,k6,e6⟩:=trod_vec g6 t6
 obtain⟨a7,b7,k7,e7⟩:=trod_vec g7 t7
 obtain⟨a9,b9,k9,e9⟩:=trod_vec g9 t9
 obtain⟨_,g10,h10,m10⟩:=g10
 obtain⟨v10,k10,C10,e10,l10,q10,j10,u10⟩:=trod_sl g10 h10.c om t10
 obtain⟨_,g11,h11,m11⟩:=g11
 obtain⟨v11,k11,C11,e11,l11,q11,j11,u11⟩:=trod_sl g11 h11.c om t11
 obtain⟨_,g12,h12,m12⟩:=g12
 obtain⟨v12,k12,C12,e12,l12,q12,j12,u12⟩:=trod_sl g12 h12.c om t12
 simp at e0 e1 e2 e3 e4 e5 e6 e7 e8 e9 e10 e11 e12
 obtain⟨e5a,e5b,e5c⟩:=e5
 obtain⟨e6a,e6b,e6c⟩:=e6
 obtain⟨e7a,e7b,e7c⟩:=e7
 obtain⟨e9a,e9b,e9c⟩:=e9
 subst e0 e1 e2 e3 e4 e5a e5b e5c e6a e6b e6c e7a e7b e7c e8 e9a e9b e9c e10 e11 e12
 obtain⟨sd,rfl,hsd⟩:=wf_u64 w4
 obtain⟨L10,n10,r10⟩:=flat_of (g:=mtL) (m:=6) k10 C10 j10 fun i hi=>by
  obtain⟨f,es,y,r1,r2,r3,_⟩:=u10 i hi
  obtain⟨e,a1⟩:=trod_mat h10 r3
  exact⟨e,by rw[← r2]; exact a1⟩
 have s10:=sl_len g10 m10 (fun n h=>hw' n (DataW.weights_mem_each f10 (by rw[List.getElem?_map,x10]; rfl) n h)) l10
 obtain⟨L11,n11,r11⟩:=flat_of (g:=rdL) (m:=5) k11 C11 j11 fun i hi=>by
  obtain⟨f,es,y,r1,r2,r3,_⟩:=u11 i hi
  obtain⟨e,a1⟩:=trod_rnd h11 r3
  exact⟨e,by rw[← r2]; exact a1⟩
 have s11:=sl_len g11 m11 (fun n h=>hw' n (DataW.weights_mem_each f11 (by rw[List.getElem?_map,x11]; rfl) n h)) l11
 obtain⟨L12,n12,r12⟩:=flat_of (g:=usL) (m:=5) k12 C12 j12 fun i hi=>by
  obtain⟨f,es,y,r1,r2,r3,_⟩:=u12 i hi
  obtain⟨e,a1⟩:=trod_use h12 r3
  exact⟨e,by rw[← r2]; exact a1⟩
 have s12:=sl_len g12 m12 (fun n h=>hw' n (DataW.weights_mem_each f12 (by rw[List.getElem?_map,x12]; rfl) n h)) l12
 subst n10 n11 n12 r10 r11 r12
 exact⟨⟨z0,z1,z2,z3,sd,⟨a5,b5,k5⟩,⟨a6,b6,k6⟩,⟨a7,b7,k7⟩,z8,⟨a9,b9,k9⟩,L10,L11,L12⟩,_,_,_,rfl,⟨q10,q11,q12⟩,hsd,s10,s11,s12⟩
theorem vrels_map(W:World):∀(cs:List Value),VRels (plW W) (cs.map (absW W)) cs
 | []=>rfl
 | c::cs=>⟨_,_,rfl,absW_rel W c,vrels_map W cs⟩
theorem wts_all{P:Program}{e:TypeId}:∀{el:List (DataW K)} {i:Nat} {d:DataW K},el[i]?=some d→∀n∈d.weights P e,n∈DataW.weightsAll P e el
 | [],i,d,h,_,_=>by simp at h
 | a::l,0,d,h,n,hn=>by
  simp only[List.getElem?_cons_zero,sJ]at h
  subst h
  simp only[DataW.weightsAll]; exact List.mem_append_left _ hn
 | a::l,i+1,d,h,n,hn=>by
  simp only[List.getElem?_cons_succ]at h
  simp only[DataW.weightsAll]; exact List.mem_append_right _ (wts_all h n hn)
theorem wts_sl{P:Program}{t e:TypeId}{d d':DataW K}{i:Nat}(ht:P.underlying t=some (.slice e))(h:∃el sp,d=.slice el sp∧el[i]?=some d'):∀n∈d'.weights P e,n∈d.weights P t:=fun n hn=>by
 obtain⟨el,sp,rfl,h2⟩:=h
 simp only[DataW.weights,ht]
 exact List.mem_cons_of_mem _ (List.mem_append_left _ (wts_all h2 n hn))
theorem pick_list{α:Type}{R:Nat→α→Prop}{k:Nat}(h:∀i,i<k→∃x,R i x):∃l:List α,l.length=k∧∀i x,l[i]?=some x→R i x:=by
 refine⟨List.ofFn fun i:Fin k=>Classical.choose (h i.1 i.2),List.length_ofFn,fun i x hx=>?_⟩
 obtain⟨hl,he⟩:=List.getElem?_eq_some_iff.1 hx
 rw[List.getElem_ofFn]at he
 rw[← he]
 exact Classical.choose_spec (h i (by rw[List.length_ofFn]at hl; exact hl))
theorem trod_ls{α:Type}{P:Program}{W:World}{t e:TypeId}{m fuel:Nat}{Q:α→List AVal→Prop}{cs:List Value}{x:DataW K×List MemPlace}(ht:P.underlying t=some (.slice e))(hm:P.cellsOf e=m)(h0:0<m)(hbo:0<P.bytesOf e)(hw:∀n∈x.1.weights P t,n≤reachBytes)
  (hf:DataW.trod enc P W 0 (fun _=>true) true fuel t cs=some x) (hq:∀{fuel:Nat} {es:List Value} {y:DataW K×List MemPlace},(∀n∈y.1.weights P e,n≤reachBytes)→DataW.trod enc P W 0 (fun _=>true) true fuel e es=some y→∃z:α,Q z (es.map (absW W))) :
  ∃v l,cs=[v]∧l.length≤281474976710656∧LsIn m Q (·<(heapW W).next) (heapW W) (absW W v) l:=by
 obtain⟨v,k,C,e1,l1,S,lC,u⟩:=trod_sl ht hm h0 hf
 obtain⟨l,hl,hR⟩:=pick_list (R:=fun i (z:α)=>Q z ((C.drop (i*m)).take m)) (k:=k) fun i hi=>by
  obtain⟨f,es,y,_,r2,r3,r4⟩:=u i hi
  obtain⟨z,hz⟩:=hq (fun n hn=>hw n (wts_sl ht r4 n hn)) r3
  exact⟨z,by rw[← r2]; exact hz⟩
 exact⟨v,l,e1,by rw[hl]; exact sl_len ht hbo hw l1,C,by rw[hl]; exact S,hR⟩
theorem trod_ball{P:Program}{W:World}{t:TypeId}(Y:BallT P t){fuel:Nat}{cs:List Value}{x:DataW K×List MemPlace}(hf:DataW.trod enc P W 0 (fun _=>true) true fuel t cs=some x) :
  ∃m:Bll,cs.map (absW W)=m.cells:=by
 obtain⟨fs,hfs,d0,d1⟩:=Y.f
 obtain⟨xs,n,hfu,_,hl,hn,hi⟩:=DataW.trod_struct hfs hf
 rw[Y.c]at hl
 obtain⟨c0,c1,c2,c3,rfl⟩:∃a b c d,cs=[a,b,c,d]:=by
  match cs,hl with
  | [a,b,c,d],_=>exact⟨a,b,c,d,rfl⟩
 obtain⟨_,_,g0,t0,_⟩:=fd_trod d0 hn hi
 obtain⟨_,_,g1,t1,_⟩:=fd_trod d1 hn hi
 obtain⟨a,b,c,e0⟩:=trod_vec g0 t0
 obtain⟨z1,e1,_,_⟩:=DataW.trod_int g1 t1
 simp at e0 e1
 obtain⟨e0a,e0b,e0c⟩:=e0
 subst e0a e0b e0c e1
 exact⟨⟨⟨a,b,c⟩,z1⟩,rfl⟩
structure TriT(P:Program)(t:TypeId):Prop where
 c:P.cellsOf t=3
 f:∃b,P.underlying t=some (.array 3 b)∧IsI P .i64 b∧P.cellsOf b=1
theorem trod_tri{P:Program}{W:World}{t:TypeId}(Y:TriT P t){fuel:Nat}{cs:List Value}{x:DataW K×List MemPlace}(hf:DataW.trod enc P W 0 (fun _=>true) true fuel t cs=some x) :
  ∃m:Tri,cs.map (absW W)=m.cells:=by
 obtain⟨b,hb,hI,c1⟩:=Y.f
 obtain⟨xs,m,_,hx,hl,hn,hi'⟩:=DataW.trod_array hb hf
 have hl3:cs.length=3:=by rw[Y.c]at hl; exact hl
 have one:∀j,j<3→∃z:Int,(cs.drop j).take 1=[.int .i64 z]:=by
  intro j hj
  have q:=hi' j hj
  rw[c1,Nat.mul_one]at q
  have hxj:xs[j]?=some (xs[j]'om):=List.getElem?_eq_getElem _
  rw[hxj]at q
  obtain⟨z,e1,_,_⟩:=DataW.trod_int hI q
  exact⟨z,e1⟩
 obtain⟨a0,a1,a2,rfl⟩:∃a b c,cs=[a,b,c]:=by
  match cs,hl3 with
  | [a,b,c],_=>exact⟨a,b,c,rfl⟩
 obtain⟨z0,e0⟩:=one 0 dD
 obtain⟨z1,e1⟩:=one 1 dD
 obtain⟨z2,e2⟩:=one 2 dD
 simp at e0 e1 e2
 subst e0 e1 e2
 exact⟨⟨z0,z1,z2⟩,rfl⟩
structure MshT(P:Program)(t:TypeId):Prop where
 c:P.cellsOf t=3
 f:∃fs:Array Field,P.underlying t=some (.struct fs)∧Fd P fs 0 0 1 (SlT P (VecT P))∧Fd P fs 1 1 1 (SlT P (TriT P))∧Fd P fs 2 2 1 (SlT P (BallT P))
def MsB(P:Nat→Prop)(H:AHeap)(m:Msh)(c:List AVal):Prop:=MsQ P H m c∧m.pts.length≤281474976710656∧m.tris.length≤281474976710656∧m.balls.length≤281474976710656
theorem trod_msh{P:Program}{W:World}{t:TypeId}(Y:MshT P t){fuel:Nat}{cs:List Value}{x:DataW K×List MemPlace}(hw:∀n∈x.1.weights P t,n≤reachBytes)(hf:DataW.trod enc P W 0 (fun _=>true) true fuel t cs=some x) :
  ∃m:Msh,MsB (·<(heapW W).next) (heapW W) m (cs.map (absW W)):=by
 obtain⟨fs,hfs,d0,d1,d2⟩:=Y.f
 obtain⟨xs,n,hfu,rfl,hl,hn,hi⟩:=DataW.trod_struct hfs hf
 have hw':∀n∈DataW.weightsEach P (fs.toList.map (·.type)) (xs.map (·.1)),n≤reachBytes:=fun n h=>hw n (by simp only[DataW.weights,hfs]; exact h)
 rw[Y.c]at hl
 obtain⟨c0,c1,c2,rfl⟩:∃a b c,cs=[a,b,c]:=by
  match cs,hl with
  | [a,b,c],_=>exact⟨a,b,c,rfl⟩
 obtain⟨_,y0,⟨_,g0,h0,m0⟩,t0,x0,f0⟩:=fd_trod d0 hn hi
 obtain⟨_,y1,⟨_,g1,h1,m1⟩,t1,x1,f1⟩:=fd_trod d1 hn hi
 obtain⟨_,y2,⟨_,g2,h2,m2⟩,t2,x2,f2⟩:=fd_trod d2 hn hi
 obtain⟨v0,k0,C0,e0,l0,q0,j0,u0⟩:=trod_sl g0 h0.c om t0
 obtain⟨v1,k1,C1,e1,l1,q1,j1,u1⟩:=trod_sl g1 h1.c om t1
 obtain⟨v2,k2,C2,e2,l2,q2,j2,u2⟩:=trod_sl g2 h2.c om t2
 simp at e0 e1 e2
 subst e0 e1 e2
 have s0:=sl_len g0 m0 (fun n h=>hw' n (DataW.weights_mem_each f0 (by rw[List.getElem?_map,x0]; rfl) n h)) l0
 have s1:=sl_len g1 m1 (fun n h=>hw' n (DataW.weights_mem_each f1 (by rw[List.getElem?_map,x1]; rfl) n h)) l1
 have s2:=sl_len g2 m2 (fun n h=>hw' n (DataW.weights_mem_each f2 (by rw[List.getElem?_map,x2]; rfl) n h)) l2
 obtain⟨L0,n0,r0⟩:=flat_of (g:=V.cells) (m:=3) k0 C0 j0 fun i hi=>by
  obtain⟨f,es,y,_,r2,r3,_⟩:=u0 i hi
  obtain⟨a,b,c,a1⟩:=trod_vec h0 r3
  exact⟨⟨a,b,c⟩,by rw[← r2,a1]; rfl⟩
 obtain⟨L1,n1,r1⟩:=flat_of (g:=Tri.cells) (m:=3) k1 C1 j1 fun i hi=>by
  obtain⟨f,es,y,_,r2,r3,_⟩:=u1 i hi
  obtain⟨e,a1⟩:=trod_tri h1 r3
  exact⟨e,by rw[← r2]; exact a1⟩
 obtain⟨L2,n2,r2⟩:=flat_of (g:=Bll.cells) (m:=4) k2 C2 j2 fun i hi=>by
  obtain⟨f,es,y,_,r2,r3,_⟩:=u2 i hi
  obtain⟨e,a1⟩:=trod_ball h2 r3
  exact⟨e,by rw[← r2]; exact a1⟩
 subst n0 n1 n2 r0 r1 r2
 exact⟨⟨L0,L1,L2⟩,⟨_,_,_,rfl,q0,q1,q2⟩,s0,s1,s2⟩
structure InsT(P:Program)(t:TypeId):Prop where
 c:P.cellsOf t=4
 f:∃fs:Array Field,P.underlying t=some (.struct fs)∧Fd P fs 0 0 1 (IsI P .u8)∧Fd P fs 1 1 1 (IsI P .i64)∧Fd P fs 2 2 1 (IsI P .i64)∧Fd P fs 3 3 1 (IsI P .i64)
theorem trod_ins{P:Program}{W:World}{t:TypeId}(Y:InsT P t){fuel:Nat}{cs:List Value}{x:DataW K×List MemPlace}(hf:DataW.trod enc P W 0 (fun _=>true) true fuel t cs=some x) :
  ∃m:InZ,cs.map (absW W)=izC m:=by
 obtain⟨fs,hfs,d0,d1,d2,d3⟩:=Y.f
 obtain⟨xs,n,hfu,_,hl,hn,hi⟩:=DataW.trod_struct hfs hf
 rw[Y.c]at hl
 obtain⟨c0,c1,c2,c3,rfl⟩:∃a b c d,cs=[a,b,c,d]:=by
  match cs,hl with
  | [a,b,c,d],_=>exact⟨a,b,c,d,rfl⟩
 obtain⟨_,_,g0,t0,_⟩:=fd_trod d0 hn hi
 obtain⟨_,_,g1,t1,_⟩:=fd_trod d1 hn hi
 obtain⟨_,_,g2,t2,_⟩:=fd_trod d2 hn hi
 obtain⟨_,_,g3,t3,_⟩:=fd_trod d3 hn hi
 obtain⟨z0,e0,_,w0⟩:=DataW.trod_int g0 t0
 obtain⟨z1,e1,_,_⟩:=DataW.trod_int g1 t1
 obtain⟨z2,e2,_,_⟩:=DataW.trod_int g2 t2
 obtain⟨z3,e3,_,_⟩:=DataW.trod_int g3 t3
 simp at e0 e1 e2 e3
 subst e0 e1 e2 e3
 obtain⟨k0,rfl⟩:=wf_u8 w0
 exact⟨⟨k0,z1,z2,z3⟩,rfl⟩
theorem izL_flat:∀l:List InZ,l.flatMap izC=izL l
 | []=>rfl
 | x::l=>by rw[List.flatMap_cons,izL_flat l]; rfl
abbrev IsI1(P:Program)(k:IntKind)(t:TypeId):Prop:=IsI P k t∧P.cellsOf t=1
structure CodT(P:Program)(t:TypeId):Prop where
 c:P.cellsOf t=3
 f:∃fs:Array Field,P.underlying t=some (.struct fs)∧Fd P fs 0 0 1 (SlT P (IsI1 P .i64))∧Fd P fs 1 1 1 (IsI P .i64)∧Fd P fs 2 2 1 (SlT P (InsT P))
def CdB(P:Nat→Prop)(H:AHeap)(s:Cod)(c:List AVal):Prop:=CdQ P H s c∧(s.code.length≤281474976710656∧s.consts.length≤281474976710656)∧∀x∈s.consts,J64 x
theorem trod_cod{P:Program}{W:World}{t:TypeId}(Y:CodT P t){fuel:Nat}{cs:List Value}{x:DataW K×List MemPlace}(hw:∀n∈x.1.weights P t,n≤reachBytes)(hf:DataW.trod enc P W 0 (fun _=>true) true fuel t cs=some x) :
  ∃s:Cod,CdB (·<(heapW W).next) (heapW W) s (cs.map (absW W)):=by
 obtain⟨fs,hfs,d0,d1,d2⟩:=Y.f
 obtain⟨xs,n,hfu,rfl,hl,hn,hi⟩:=DataW.trod_struct hfs hf
 have hw':∀n∈DataW.weightsEach P (fs.toList.map (·.type)) (xs.map (·.1)),n≤reachBytes:=fun n h=>hw n (by simp only[DataW.weights,hfs]; exact h)
 rw[Y.c]at hl
 obtain⟨c0,c1,c2,rfl⟩:∃a b c,cs=[a,b,c]:=by
  match cs,hl with
  | [a,b,c],_=>exact⟨a,b,c,rfl⟩
 obtain⟨_,y0,⟨_,g0,h0,m0⟩,t0,x0,f0⟩:=fd_trod d0 hn hi
 obtain⟨_,y1,g1,t1,x1,f1⟩:=fd_trod d1 hn hi
 obtain⟨_,y2,⟨_,g2,h2,m2⟩,t2,x2,f2⟩:=fd_trod d2 hn hi
 obtain⟨v0,k0,C0,e0,l0,q0,j0,u0⟩:=trod_sl g0 h0.2 om t0
 obtain⟨z1,e1,_,_⟩:=DataW.trod_int g1 t1
 obtain⟨v2,k2,C2,e2,l2,q2,j2,u2⟩:=trod_sl g2 h2.c om t2
 simp at e0 e1 e2
 subst e0 e1 e2
 have s0:=sl_len g0 m0 (fun n h=>hw' n (DataW.weights_mem_each f0 (by rw[List.getElem?_map,x0]; rfl) n h)) l0
 have s2:=sl_len g2 m2 (fun n h=>hw' n (DataW.weights_mem_each f2 (by rw[List.getElem?_map,x2]; rfl) n h)) l2
 obtain⟨L0,n0,r0⟩:=flat_of (g:=fun z:{ z:Int // J64 z }=>[AVal.int .i64 z.1]) (m:=1) k0 C0 om fun i hi=>by
  obtain⟨f,es,y,_,r2,r3,_⟩:=u0 i hi
  obtain⟨z,a1,_,w⟩:=DataW.trod_int h0.1 r3
  exact⟨⟨z,wf_i64 w⟩,by rw[← r2,a1]; rfl⟩
 obtain⟨L2,n2,r2⟩:=flat_of (g:=izC) (m:=4) k2 C2 j2 fun i hi=>by
  obtain⟨f,es,y,_,r2,r3,_⟩:=u2 i hi
  obtain⟨e,a1⟩:=trod_ins h2 r3
  exact⟨e,by rw[← r2]; exact a1⟩
 have ez:zL (L0.map (·.1))=C0:=by
  rw[r0]; clear r0 n0 q0 j0 u0 l0 s0
  induction L0 with
  | nil=>rfl
  | cons a l ih=>rw[List.flatMap_cons,← ih]; rfl
 rw[izL_flat]at r2
 subst n2 r2
 refine⟨⟨L0.map (·.1),z1,L2⟩,⟨_,_,rfl,?_,q2⟩,⟨s2,by rw[List.length_map,n0]; exact s0⟩,fun x hx=>?_⟩
 ·show SlK _ _ 1 _ (L0.map (·.1)).length (zL (L0.map (·.1)))
  rw[ez,List.length_map,n0]; exact q0
 ·obtain⟨z,_,rfl⟩:=List.mem_map.1 hx
  exact z.2
structure TexT(P:Program)(t:TypeId):Prop where
 c:P.cellsOf t=3
 f:∃fs:Array Field,P.underlying t=some (.struct fs)∧Fd P fs 0 0 1 (IsI P .i64)∧Fd P fs 1 1 1 (IsI P .i64)∧Fd P fs 2 2 1 (SlT P (IsI1 P .u8))
theorem byte_wf'{n:Int}(h:(Lit.int .u8 n).wf=true):((UInt8.ofNat n.toNat).toNat:Int)=n:=byte_wf h
theorem trod_tex{P:Program}{W:World}{t:TypeId}(Y:TexT P t){fuel:Nat}{cs:List Value}{x:DataW K×List MemPlace}(hf:DataW.trod enc P W 0 (fun _=>true) true fuel t cs=some x) :
  ∃s:Tex,PcQ (·<(heapW W).next) (heapW W) s (cs.map (absW W)):=by
 obtain⟨fs,hfs,d0,d1,d2⟩:=Y.f
 obtain⟨xs,n,hfu,rfl,hl,hn,hi⟩:=DataW.trod_struct hfs hf
 rw[Y.c]at hl
 obtain⟨c0,c1,c2,rfl⟩:∃a b c,cs=[a,b,c]:=by
  match cs,hl with
  | [a,b,c],_=>exact⟨a,b,c,rfl⟩
 obtain⟨_,y0,g0,t0,x0,f0⟩:=fd_trod d0 hn hi
 obtain⟨_,y1,g1,t1,x1,f1⟩:=fd_trod d1 hn hi
 obtain⟨_,y2,⟨_,g2,h2,m2⟩,t2,x2,f2⟩:=fd_trod d2 hn hi
 obtain⟨z0,e0,_,_⟩:=DataW.trod_int g0 t0
 obtain⟨z1,e1,_,_⟩:=DataW.trod_int g1 t1
 obtain⟨v2,k2,C2,e2,l2,q2,j2,u2⟩:=trod_sl g2 h2.2 om t2
 simp at e0 e1 e2
 subst e0 e1 e2
 obtain⟨L2,n2,r2⟩:=flat_of (g:=fun b:UInt8=>[AVal.int .u8 (b.toNat:Int)]) (m:=1) k2 C2 om fun i hi=>by
  obtain⟨f,es,y,_,r2,r3,_⟩:=u2 i hi
  obtain⟨z,a1,_,w⟩:=DataW.trod_int h2.1 r3
  exact⟨UInt8.ofNat z.toNat,by rw[← r2,a1]; simp only[List.map_cons,List.map_nil,absW,byte_wf' w]⟩
 have ez:byts L2=C2:=by
  rw[r2]; clear r2 n2 q2 j2 u2 l2
  induction L2 with
  | nil=>rfl
  | cons a l ih=>rw[List.flatMap_cons,← ih]; rfl
 refine⟨⟨z0,z1,L2⟩,_,rfl,?_⟩
 show SlK _ _ 1 _ L2.length (byts L2)
 rw[ez,n2]; exact q2
structure WorldT(P:Program)(t:TypeId):Prop where
 c:P.cellsOf t=24
 f:∃fs:Array Field,P.underlying t=some (.struct fs)∧Fd P fs 0 0 21 (SceneT P)∧Fd P fs 1 21 1 (SlT P (MshT P))∧Fd P fs 2 22 1 (SlT P (CodT P))∧Fd P fs 3 23 1 (SlT P (TexT P))
theorem trod_world{P:Program}{W:World}{t:TypeId}(Y:WorldT P t){fuel:Nat}{cs:List Value}{x:DataW K×List MemPlace}(hf:DataW.trod enc P W 0 (fun _=>true) true fuel t cs=some x)(hw:∀n∈x.1.weights P t,n≤reachBytes) :
  ∃s ms shs pcs vm vb vu vms vsh vpc,cs.map (absW W)=gwL s vm vb vu vms vsh vpc∧Pre (heapW W) s ms shs pcs vm vb vu vms vsh vpc:=by
 obtain⟨fs,hfs,d0,d1,d2,d3⟩:=Y.f
 obtain⟨xs,n,hfu,rfl,hl,hn,hi⟩:=DataW.trod_struct hfs hf
 have hw':∀n∈DataW.weightsEach P (fs.toList.map (·.type)) (xs.map (·.1)),n≤reachBytes:=fun n h=>hw n (by simp only[DataW.weights,hfs]; exact h)
 rw[Y.c]at hl
 obtain⟨_,y0,g0,t0,x0,f0⟩:=fd_trod d0 hn hi
 obtain⟨_,y1,⟨_,g1,h1,m1⟩,t1,x1,f1⟩:=fd_trod d1 hn hi
 obtain⟨_,y2,⟨_,g2,h2,m2⟩,t2,x2,f2⟩:=fd_trod d2 hn hi
 obtain⟨_,y3,⟨_,g3,h3,m3⟩,t3,x3,f3⟩:=fd_trod d3 hn hi
 obtain⟨s,vm,vb,vu,es,I,z1,z2,z3,z4⟩:=trod_scene g0 t0 (fun n h=>hw' n (DataW.weights_mem_each f0 (by rw[List.getElem?_map,x0]; rfl) n h))
 obtain⟨v1,ms,e1,l1,L1⟩:=trod_ls (Q:=MsB (·<(heapW W).next) (heapW W)) g1 h1.c om m1 (fun n h=>hw' n (DataW.weights_mem_each f1 (by rw[List.getElem?_map,x1]; rfl) n h)) t1 (fun h k=>trod_msh h1 h k)
 obtain⟨v2,shs,e2,l2,L2⟩:=trod_ls (Q:=CdB (·<(heapW W).next) (heapW W)) g2 h2.c om m2 (fun n h=>hw' n (DataW.weights_mem_each f2 (by rw[List.getElem?_map,x2]; rfl) n h)) t2 (fun h k=>trod_cod h2 h k)
 obtain⟨v3,pcs,e3,l3,L3⟩:=trod_ls (Q:=PcQ (·<(heapW W).next) (heapW W)) g3 h3.c om m3 (fun n h=>hw' n (DataW.weights_mem_each f3 (by rw[List.getElem?_map,x3]; rfl) n h)) t3 (fun h k=>trod_tex h3 k)
 have e0:∀c∈[0],True:=fun _ _=>trivial
 have key:cs=cs.take 21++([v1]++([v2]++[v3])):=by
  rw[← e1,← e2,← e3]
  have a1:(cs.drop 22).take 1++(cs.drop 23).take 1=cs.drop 22:=by
   rw[List.take_of_length_le (l:=cs.drop 23) (by rw[List.length_drop]; omega),← List.drop_drop (i:=1) (j:=22),List.take_append_drop]
  have a2:(cs.drop 21).take 1++cs.drop 22=cs.drop 21:=by rw[← List.drop_drop (i:=1) (j:=21),List.take_append_drop]
  rw[a1,a2,List.take_append_drop]
 have es':(cs.take 21).map (absW W)=scL s vm vb vu:=by rw[List.drop_zero]at es; exact es
 have mem1:∀m∈ms,m.pts.length≤281474976710656∧m.tris.length≤281474976710656∧m.balls.length≤281474976710656:=fun m hm=>by
  obtain⟨C,_,hC⟩:=L1
  obtain⟨i,hi⟩:=List.getElem?_of_mem hm
  exact (hC i m hi).2
 have mem2:∀c∈shs,(c.code.length≤1152921504606846976∧c.consts.length≤1152921504606846976)∧∀x∈c.consts,J64 x:=fun c hc=>by
  obtain⟨C,_,hC⟩:=L2
  obtain⟨i,hi⟩:=List.getElem?_of_mem hc
  obtain⟨_,⟨a,b⟩,j⟩:=hC i c hi
  exact⟨⟨om,om⟩,j⟩
 have idm:∀b,b<(heapW W).next→b<(heapW W).next∧(heapW W).get b=(heapW W).get b:=fun b hb=>⟨hb,rfl⟩
 refine⟨s,ms,shs,pcs,vm,vb,vu,absW W v1,absW W v2,absW W v3,?_,⟨I,L1.mono idm fun _ _ h=>h.1,L2.mono idm fun _ _ h=>h.1,L3,z3,mem1,om,om,om,mem2,z1⟩⟩
 rw[key,List.map_append,es']; rfl
theorem trod_bools{P:Program}{W:World}{t e:TypeId}{fuel:Nat}{cs:List Value}{x:DataW K×List MemPlace}(ht:P.underlying t=some (.slice e))(hb:P.underlying e=some .bool)(c1:P.cellsOf e=1)(hbo:0<P.bytesOf e)(hw:∀n∈x.1.weights P t,n≤reachBytes)(hf:DataW.trod enc P W 0 (fun _=>true) true fuel t cs=some x) :
  ∃(v:Value) (tu:List Bool),cs=[v]∧tu.length≤281474976710656∧SlK (·<(heapW W).next) (heapW W) 1 (absW W v) tu.length (tu.map AVal.bool):=by
 obtain⟨v,k,C,e1,l1,S,lC,u⟩:=trod_sl ht c1 om hf
 obtain⟨L,n,r⟩:=flat_of (g:=fun b:Bool=>[AVal.bool b]) (m:=1) k C om fun i hi=>by
  obtain⟨f,es,y,_,r2,r3,_⟩:=u i hi
  obtain⟨b,a1,_⟩:=DataW.trod_bool hb r3
  exact⟨b,by rw[← r2,a1]; rfl⟩
 have ez:L.map AVal.bool=C:=by
  rw[r]; clear r n lC S u l1
  induction L with
  | nil=>rfl
  | cons a l ih=>rw[List.flatMap_cons,← ih]; rfl
 exact⟨v,L,e1,by rw[n]; exact sl_len ht hbo hw l1,by rw[ez,n]; exact S⟩
structure PairT(P:Program)(t:TypeId):Prop where
 c:P.cellsOf t=2
 f:∃b,P.underlying t=some (.array 2 b)∧IsI P .i64 b∧P.cellsOf b=1
theorem trod_pair{P:Program}{W:World}{t:TypeId}(Y:PairT P t){fuel:Nat}{cs:List Value}{x:DataW K×List MemPlace}(hf:DataW.trod enc P W 0 (fun _=>true) true fuel t cs=some x) :
  ∃a b:Int,cs.map (absW W)=[.int .i64 a,.int .i64 b]:=by
 obtain⟨b,hb,hI,c1⟩:=Y.f
 obtain⟨xs,m,_,hx,hl,hn,hi'⟩:=DataW.trod_array hb hf
 have hl2:cs.length=2:=by rw[Y.c]at hl; exact hl
 have one:∀j,j<2→∃z:Int,(cs.drop j).take 1=[.int .i64 z]:=by
  intro j hj
  have q:=hi' j hj
  rw[c1,Nat.mul_one]at q
  have hxj:xs[j]?=some (xs[j]'om):=List.getElem?_eq_getElem _
  rw[hxj]at q
  obtain⟨z,e1,_,_⟩:=DataW.trod_int hI q
  exact⟨z,e1⟩
 obtain⟨a0,a1,rfl⟩:∃a b,cs=[a,b]:=by
  match cs,hl2 with
  | [a,b],_=>exact⟨a,b,rfl⟩
 obtain⟨z0,e0⟩:=one 0 dD
 obtain⟨z1,e1⟩:=one 1 dD
 simp at e0 e1
 subst e0 e1
 exact⟨z0,z1,rfl⟩
end Go.Proofs.Tc
namespace Go.Abs
open Go.ChangeShapes Go.WideShapes Go.ChangeAt Go.RowKit
section
variable {H:Type} {enc:TypeId×Value→H} {P:Program}
theorem trodAll_below{W W':World}{base:Nat}{sp:Nat→Bool}{held:Bool}(hb:Below W.heap.size W W'):∀{ts:List TypeId} {vs:List Value} {ds:List (DataW H)} {ps:List MemPlace},
  DataW.TrodAll enc P W base sp held ts vs ds ps→DataW.TrodAll enc P W' base sp held ts vs ds ps
 | [],[],[],_,h=>h
 | _::_,_::_,_::_,_,⟨p,q,⟨n,h1⟩,h2,e⟩=>by
  refine⟨p,q,⟨n,DataW.trod_carry n _ _ _ h1 fun x hx=>hb.same (DataW.trod_lt n _ _ _ h1 x hx)⟩,trodAll_below hb h2,e⟩
theorem trodVars_below{W W':World}{sp:Nat→Bool}{gs:List (DataW H)}{q:List MemPlace}(h:DataW.TrodVars enc P W sp [] gs q):DataW.TrodVars enc P W' sp [] gs q:=by
 obtain⟨rfl,rfl⟩:=trodVars_none h
 exact h
theorem law_post{f:Func}{s:ChangeSpec}{apart:Bool}{W W':World}{args:Array Value}{ds gs:List (DataW H)}{before:List MemPlace}{tb:TypeId}
  (hl:laidOutB P=true) (hm:mapsRowed P=true)
  (hz:((List.range P.types.size).all fun t=>match P.underlying t with | some (.slice e)=>decide (0<P.cellsOf e) | _=>true)=true)
  (hts:(f.params.toList.all fun t=>decide (t<P.types.size))=true) (hv:s.vars=[])
  (hW:DataW.Whole enc P f.params.toList s.vars apart W args.toList ds gs before)
  (hfn:s.fn H (ds++gs)={ results:=[.lit (.bool true)],args:=ds }) (hr:f.resultTypes=#[tb]) (ht:P.underlying tb=some .bool) (hb:Below W.heap.size W W') :
  s.post enc P f apart true false false W args (.bool true) W':=by
 have hlt:∀p∈before,p.block<W.heap.size:=fun p hp=>hW.lt p hp
 have hW0:=hW
 obtain⟨p,q,hA,hV,rfl,hfz,hnd⟩:=hW
 rw[hv]at hV
 obtain⟨rfl,rfl⟩:=trodVars_none hV
 have hT:∀t∈f.params.toList,t<P.types.size:=fun t ht=>by simpa using List.all_eq_true.1 hts t ht
 refine⟨ds,[],p++[],[],p,[],hW0,?_,?_,?_,World.keptBut_mono (fun x hx=>⟨hx,by simpa using hx⟩) (hb.frame (·∈p++[])),fun h=>by simp at h⟩
 ·rw[hfn,hr]
  exact trodAll_cons_mk (shut_bool ht _) trodAll_mk0
 ·rw[hfn]
  refine trodAll_below hb (DataW.TrodAll.respare (kids_rows hl hm) (slices_full_of P hz) hT hA fun x hx=>?_)
  simpa using hlt x (by simpa using hx)
 ·rw[hfn,hv]
  exact trodVars_below (W:=W) hV
end
end Go.Abs
