/- Part of a proof (UL4 UL5 UL6 UL7 UL8 UL9 UM1 UM2 UM3 UM4 UM5); no condition. -/
import Derived.Test.YtkkjbpmlejjhjaaGreatP11
set_option linter.unusedSimpArgs false
set_option linter.unusedVariables false
set_option linter.defProp false
set_option linter.unnecessarySimpa false
namespace Go.Proofs.Tc
open Go.Abs Go.Abs.S
def wrL(b:Nat)(s:Sc)(vm vb vu v1 v2 v3:AVal):List AVal:=cellR b 25 0::(scL s vm vb vu++[v1,v2,v3])
theorem ldW{H:AHeap}{b:Nat}{s:Sc}{vm vb vu v1 v2 v3:AVal}(r:Row H b (wrL b s vm vb vu v1 v2 v3)):oLoad false 1 H (cellR b 25 0)=some (cellR b 25 0)∧oLoad false 1 H (cellR b 25 19)=some vm∧oLoad false 1 H (cellR b 25 20)=some vb∧oLoad false 1 H (cellR b 25 21)=some vu∧oLoad false 1 H (cellR b 25 22)=some v1∧oLoad false 1 H (cellR b 25 23)=some v2∧oLoad false 1 H (cellR b 25 24)=some v3∧oLoad true 21 H (cellR b 25 1)=some (.agg (scL s vm vb vu)):=
 ⟨row_load r rfl rfl,row_load r rfl rfl,row_load r rfl rfl,row_load r rfl rfl,row_load r rfl rfl,row_load r rfl rfl,row_load r rfl rfl,row_loadK r (n:=25) rfl (i:=1) (k:=21) om⟩
theorem wmade_spec{H:AHeap}{b:Nat}{s:Sc}{vm vb vu v1 v2 v3:AVal}(r:Row H b (wrL b s vm vb vu v1 v2 v3)):ACalls Tryz.prog noNat 18 [cellR b 25 0] H fun u H'=>u=.bool true∧H=H':=by
 obtain⟨l0,_⟩:=ldW r
 have e1:aPf (.eqv true .ptr) [cellR b 25 0,.ptr none]=some (.bool true):=rfl
 have e2:aPf (.eqv false .ptr) [cellR b 25 0,cellR b 25 0]=some (.bool true):=by rw[eq_ptr]; simp
 refine acalls_ofN rfl za18 rfl ?_
 simp only[c18,sA,sB,seval,e1,nil_cell,fld0,l0,e2]
 exact⟨tt,tt⟩
theorem one_cells{v:AVal}(h:v.one=true):v.cells=[v]:=by cases v <;> first | rfl | simp[AVal.one]at h
def ptL(vp vt vb p:AVal)(a:V)(f:AVal):List AVal:=[vp,vt,vb,p]++a.cells++[f]
theorem moved_spec{vp vt vb p f:AVal}{a:V}{r:Ray}(ha:a.j)(hr:r.j){H:AHeap}(o:(ptL vp vt vb p a f).all AVal.one=true) :
  ACalls Tryz.prog noNat 25 [.agg (ptL vp vt vb p a f),.agg r.cells] H fun u H'=>u=.agg (Ray.mk (vSub r.o a) r.d).cells∧Ext H.next H H':=by
 obtain⟨H1,m1,r1,n1,k1⟩:=row_newL H (ptL vp vt vb p a f) (n:=8) rfl
 obtain⟨H2,m2,r2,n2,k2⟩:=row_newL H1 r.cells (n:=6) rfl
 obtain⟨H3,m3,r3,n3,k3⟩:=row_newL H2 [.int .i64 0,.int .i64 0,.int .i64 0,.int .i64 0,.int .i64 0,.int .i64 0] (n:=6) rfl
 have E3:Ext H.next H H3:=⟨om,fun c hc=>by rw[k3 c om,k2 c om,k1 c om]⟩
 have r23:=r2.same (H':=H3) (k3 _ om)
 obtain⟨lo,ld⟩:=ldR r23
 have la:oLoad true 3 H3 (cellR H.next 8 4)=some (.agg a.cells):=row_loadK (r1.same (H':=H3) (by rw[k3 _ om,k2 _ om])) (n:=8) rfl (i:=4) (k:=3) om
 refine acalls_ofN rfl za25 rfl ?_
 simp only[c25,sA,sB,seval,cells_agg,m1,m2,m3]
 refine aw_drawC rfl ?_
 simp only[sR,sA,sB,seval,fld0,fldA,lo,la]
 refine (vsub_spec hr.1 ha).mono ?_
 rintro _ H4 ⟨rfl,E4⟩
 have e4:=E4.next
 obtain⟨lo4,ld4⟩:=ldR (r23.same (H':=H4) (E4.old _ om))
 obtain⟨H5,m5,r5,n5,k5⟩:=row_storeN (r3.same (E4.old _ om)) (n:=6) rfl (xs:=(Ray.mk (vSub r.o a) r.d).cells) rfl rfl
 have l5:=row_loadN r5 (n:=6) rfl
 have bb:=build6 (vSub r.o a) r.d
 simp only[sR,sA,sB,seval,fldA,ld4,bb,m5]
 simp only[ck_nil',ck_cons,ckP_load,ckP_nil,ck_end,and_true,true_and,List.map_cons,List.map_nil,sA,sB,seval,fldA,fin_cc,OptP_some,l5]
 exact⟨⟨_,rfl,fun _=>⟨_,ld,aeq_V _⟩⟩,⟨om,fun c hc=>by rw[k5 c om,E4.old c om,E3.old c hc]⟩⟩
theorem add_wspec{m:Msh}(hm:mshOk m=true)(hn:m.n≤12){at_:V}{fn:AVal}(ofn:fn.one=true){wb:Nat}{s:Sc}{vm vb vu v1 v2 v3 vp vt vb':AVal}{C:List AVal}{k:Nat}{H:AHeap}(hk:k≤1000)(hwb:wb<H.next)(nb:Blk v1 (·≠wb))(rw_:Row H wb (wrL wb s vm vb vu v1 v2 v3))(A:AppN 8 0 H v1 C k)(I:MsIn (·<H.next) H vp vt vb' m) :
  ACalls Tryz.prog noNat 13 [cellR wb 25 0,.agg (mshL vp vt vb'),.agg at_.cells,fn] H fun r H'=>∃(took:Int) (p v1' vp' vt' vb'':AVal),r=.tuple [.int .i64 took,.int .i64 0]∧0≤took∧took≤1000∧H.next≤H'.next∧Row H' wb (wrL wb s vm vb vu v1' v2 v3)∧AppN 8 0 H' v1' (C++ptL vp' vt' vb'' p at_ fn) (k+1)∧(ptL vp' vt' vb'' p at_ fn).all AVal.one=true ∧
   MsIn (fun b=>H.next≤b∧b<H'.next∧Blk v1' (b≠·)) H' vp' vt' vb'' m∧TrK (fun b=>H.next≤b∧b<H'.next∧Blk v1' (b≠·)) H' p (buildF m)∧(∀P,Blk v1 P→Blk v1' fun b=>P b∨H.next≤b)∧∀c,c<H.next→c≠wb→Blk v1 (c≠·)→H'.get c=H.get c:=by
 have hok:=mshOk_ok hm
 have np:=hok.np
 have nt:=hok.nt
 have nb':=hok.nb
 obtain⟨H1,m1,r1,n1,k1⟩:=row_newL H (mshL vp vt vb') (n:=3) rfl
 obtain⟨H2,m2,r2,n2,k2⟩:=row_newL H1 at_.cells (n:=3) rfl
 have E2:Ext H.next H H2:=⟨om,fun c hc=>by rw[k2 c om,k1 c om]⟩
 have lm:∀{K:AHeap},Ext H2.next H2 K→_:=fun {K} e=>ldM (r1.same (H':=K) (by rw[e.old _ om,k2 _ om]))
 have Iat:∀{K:AHeap},Ext H2.next H2 K→MsIn (·<K.next) K vp vt vb' m:=fun {K} e=>I.mono fun b hb=>⟨by have:=e.next; have hb':b<H.next:=hb; omega,by have hb':b<H.next:=hb; rw[e.old b om,E2.old b hb']⟩
 obtain⟨a0,a1,a2,_⟩:=lm (.refl _ _)
 refine acalls_ofN rfl za13 rfl ?_
 simp only[c13,sA,sB,seval,cells_agg,m1,m2]
 refine aw_drawC rfl ?_
 simp only[sR,sA,sB,seval,fld0,fldA,a0]
 refine (clv_spec (Iat (.refl _ _)).p (flat_one (fun _=>rfl) _) om).mono ?_
 rintro vp' H3 ⟨Sp,E3⟩
 obtain⟨b0,b1,b2,_⟩:=lm E3
 simp only[sR,sA,sB,seval,fldA,b1]
 refine (clt_spec (Iat E3).t (flat_one (fun _=>rfl) _) om).mono ?_
 rintro vt' H4 ⟨St,E4⟩
 have E24:=E3.trans (E4.less E3.next)
 obtain⟨c0,c1,c2,_⟩:=lm E24
 simp only[sR,sA,sB,seval,fldA,c2]
 refine (clb_spec (Iat E24).b (flat_one (fun _=>rfl) _) om).mono ?_
 rintro vb'' H5 ⟨Sb,E5⟩
 have E25:=E24.trans (E5.less E24.next)
 have e3:=E3.next
 have e4:=E4.next
 have e5:=E5.next
 have MS5:MsIn (fun b=>H2.next≤b∧b<H5.next) H5 vp' vt' vb'' m:=⟨Sp.mono fun b hb=>⟨om,by rw[E5.old b om,E4.old b om]⟩,St.mono fun b hb=>⟨om,E5.old b om⟩,Sb.mono fun b hb=>⟨om,rfl⟩⟩
 have m1B:=ms1 vp' vt' vb'' Sp.one St.one Sb.one
 obtain⟨H6,m6,r6,n6,k6⟩:=row_storeN (r1.same (H':=H5) (by rw[E25.old _ om,k2 _ om])) (n:=3) rfl (xs:=mshL vp' vt' vb'') rfl (ms_one MS5)
 have m6':oStore 3 H5 (cellR H.next 3 0) (.agg [vp',vt',vb''])=some H6:=m6
 have l6:=row_loadN r6 (n:=3) rfl
 simp only[sR,sA,sB,seval,m1B,m6']
 simp only[ck_nil',ck_cons,ckP_load,ckP_nil,ck_end,and_true,true_and,List.map_cons,List.map_nil,sA,sB,seval,fldA]
 refine⟨?_,?_⟩
 ·and_intros <;> first | rfl | exact⟨_,rfl,fun _=>⟨_,by first | assumption | (simp only[sA,sB,seval,fldA]; assumption),(I.t.aeq)⟩⟩ | exact⟨_,rfl,fun _=>⟨_,by first | assumption | (simp only[sA,sB,seval,fldA]; assumption),(I.b.aeq)⟩⟩
 have o6:∀c,c<H.next→H6.get c=H.get c:=fun c hc=>by rw[k6 c om,E25.old c om,E2.old c hc]
 simp only[sA,sB,seval,l6]
 refine (build_spec hm hn (steps:=1048576) om om (MS5.mono (Q:=(·<H6.next)) fun b hb=>⟨om,k6 b om⟩)).mono ?_
 rintro _ H7 ⟨p,took,rfl,tk0,tk1,TK,E7⟩
 have e7:=E7.next
 have o7:∀c,c<H.next→H7.get c=H.get c:=fun c hc=>by rw[E7.old c om,o6 c hc]
 have op:p.one=true:=by obtain⟨b,_,_,_,_,_,_,rfl,_⟩:=TK; rfl
 have rw7:Row H7 wb (wrL wb s vm vb vu v1 v2 v3):=rw_.same (o7 _ hwb)
 obtain⟨_,_,_,_,w22,_⟩:=ldW rw7
 have l7:=row_loadN (r6.same (H':=H7) (E7.old _ om)) (n:=3) rfl
 have la7:oLoad true 3 H7 (cellR H1.next 3 0)=some (.agg at_.cells):=row_loadN (r2.same (H':=H7) (by rw[E7.old _ om,k6 _ om,E25.old _ om])) (n:=3) rfl
 have bP:aBuild [.slice none 0 (.known 0),.slice none 0 (.known 0),.slice none 0 (.known 0),.ptr none,.int .i64 0,.int .i64 0,.int .i64 0,.nilFunc] [(0,3,.agg (mshL vp' vt' vb'')),(3,1,p),(4,3,.agg at_.cells),(7,1,fn)]=some (.agg (ptL vp' vt' vb'' p at_ fn)):=by
  simp only[aBuild,aFill,one_cells op,one_cells ofn,cells_agg]; rfl
 have oP:(ptL vp' vt' vb'' p at_ fn).all AVal.one=true:=by simp only[ptL,V.cells,List.cons_append,List.nil_append,List.all_cons,Sp.one,St.one,Sb.one,op,ofn]; rfl
 have bM:=buildM (m:=8) H7 (z:=[.slice none 0 (.known 0),.slice none 0 (.known 0),.slice none 0 (.known 0),.ptr none,.int .i64 0,.int .i64 0,.int .i64 0,.nilFunc]) (xs:=ptL vp' vt' vb'' p at_ fn) rfl rfl
 have A7:AppN 8 0 H7 v1 C k:=A.same om fun a j r e=>o7 _ (A.blk a j r e)
 obtain⟨v1',H8,m8,A8,n8,b8,g8⟩:=A7.pushB (xs:=ptL vp' vt' vb'' p at_ fn) rfl oP om (bytes:=112) om om
 have nbw:Blk v1 (wb≠·):=fun a j r e h=>nb a j r e h.symm
 obtain⟨H9,m9,r9,n9,k9⟩:=row_st (rw7.same (g8 _ om nbw)) (n:=25) rfl (i:=22) om (x:=v1') A8.one (l':=wrL wb s vm vb vu v1' v2 v3) rfl
 have w22p:oLoad false 1 (H7.push (.cells (ptL vp' vt' vb'' p at_ fn) 0 false)) (cellR wb 25 22)=some v1:=(ldW (rw7.same (H':=H7.push (.cells (ptL vp' vt' vb'' p at_ fn) 0 false)) (get_push_lt om))).2.2.2.2.1
 simp only[sA,sB,seval,ext_0,ext_1,ext_2]
 refine aw_drawC rfl ?_
 simp only[sR,sA,sB,seval,nil_cell,fldA,w22,l7,la7,bP,bM,m8,m9]
 simp only[ck_nil',ck_cons,ckP_load,ckP_nil,ck_end,and_true,true_and,List.map_cons,List.map_nil,sA,sB,seval,nil_cell,fldA]
 refine⟨⟨_,rfl,fun _=>⟨_,w22p,A.aeq⟩⟩,?_⟩
 have nbl:∀b,H2.next≤b→b<H7.next→Blk v1' (b≠·):=fun b h1 h2 a j r e h=>by
  have q1:=b8 (·<H.next) (fun a j r e=>A.blk a j r e) a j r e
  rcases q1 with q | q
  ·omega
  ·omega
 have w1n:wb<H2.next:=om
 refine⟨took,p,v1',vp',vt',vb'',tt,tk0,tk1,om,r9,A8.same om (fun a j r e=>k9 _ (by
  have:=b8 _ nb a j r e
  rcases this with q | q
  ·exact q
  ·omega)),oP,?_,?_,fun P hP=>(b8 P hP).mono fun b hb=>by rcases hb with hb | hb; exact .inl hb; exact .inr om,fun c h1 h2 h3=>by rw[k9 c h2,g8 c om h3,o7 c h1]⟩
 ·refine MS5.mono fun b hb=>⟨⟨om,om,nbl b hb.1 om⟩,?_⟩
  rw[k9 b om,g8 b om (fun a j r e=>by have:=A.blk a j r e; omega),E7.old b om,k6 b om]
 ·refine TK.mono fun b hb=>⟨⟨om,om,nbl b om hb.2⟩,?_⟩
  rw[k9 b om,g8 b om (fun a j r e=>by have:=A.blk a j r e; omega)]
open Go.Abs Go.Abs.S
def C0:Cod:=⟨[],0,[]⟩
def X0t:Tex:=⟨0,0,[]⟩
def R0:Rd:=⟨V0,0,0⟩
def partU(u:Us)(m:Msh):Prt:=⟨m,buildF m,u.p,fun _=>u.m.toNat⟩
def ballMsh(bs:List Rd):Msh:=⟨[],[],bs.map fun b=>⟨b.c,b.r⟩⟩
def partB(bs:List Rd):Prt:=⟨ballMsh bs,buildF (ballMsh bs),V0,fun i=>((bs[i]?).getD R0).m.toNat⟩
def partsF(s:Sc)(ms:List Msh):List Prt:=List.zipWith partU s.us ms++(if s.bs.length=0 then [] else [partB s.bs])
def worldF(s:Sc)(ms:List Msh)(shs:List Cod)(pcs:List Tex):Wrl:=
 ⟨s,partsF s ms,List.zipWith (fun (m:Mt) c=>if m.k=4 then c else C0) s.ms shs,List.zipWith (fun (m:Mt) t=>if m.k=4 then t else X0t) s.ms pcs⟩
def MtF(P:Nat→Prop)(H:AHeap)(f:AVal)(n:Nat)(g:Nat→Nat):Prop:=
 (∃b u,f=.func (.func 14) [] [cellR b 5 0]∧P b∧Row H b (usL u)∧0≤u.m∧∀i,g i=u.m.toNat) ∨
 (∃(b:Nat) (v:AVal) (l:List Rd),f=.func (.func 15) [] [cellR b 1 0]∧P b∧Row H b [v]∧SlK P H 5 v l.length (l.flatMap rdL)∧l.length=n∧∀i (x:Rd),l[i]?=some x→0≤x.m∧g i=x.m.toNat)
theorem MtF.mono{P Q:Nat→Prop}{H H':AHeap}{f:AVal}{n:Nat}{g:Nat→Nat}(h:MtF P H f n g)(q:∀b,P b→Q b∧H'.get b=H.get b):MtF Q H' f n g:=by
 rcases h with⟨b,u,h1,h2,h3,h4⟩ | ⟨b,v,l,h1,h2,h3,h4,h5⟩
 ·exact .inl ⟨b,u,h1,(q _ h2).1,h3.same (q _ h2).2,h4⟩
 ·exact .inr ⟨b,v,l,h1,(q _ h2).1,h3.same (q _ h2).2,h4.mono q,h5⟩
def PtQ(P:Nat→Prop)(H:AHeap)(pr:Prt)(c:List AVal):Prop:=∃vp vt vb p f,c=ptL vp vt vb p pr.at_ f∧(ptL vp vt vb p pr.at_ f).all AVal.one=true∧MsIn P H vp vt vb pr.msh∧TrK P H p pr.tre∧MtF P H f pr.msh.n pr.mat
theorem PtQ.mono{P Q:Nat→Prop}{H H':AHeap}(q:∀b,P b→Q b∧H'.get b=H.get b)(m:Prt)(c:List AVal)(h:PtQ P H m c):PtQ Q H' m c:=by
 obtain⟨vp,vt,vb,p,f,h1,h2,h3,h4,h5⟩:=h; exact⟨vp,vt,vb,p,f,h1,h2,h3.mono q,h4.mono q,h5.mono q⟩
def WrK(P:Nat→Prop)(H:AHeap)(p:AVal)(w:Wrl):Prop:=∃b vm vb vu v1 v2 v3,p=cellR b 25 0∧P b∧Row H b (wrL b w.sc vm vb vu v1 v2 v3)∧ScIn P H w.sc vm vb vu∧LsIn 8 (PtQ P H) P H v1 w.parts∧CdsIn P H v2 w.shades∧PcsIn P H v3 w.pics
structure Prt.ok(n:Nat)(p:Prt):Prop where
 t:p.tre.ok
 m:p.tre.msh=p.msh
 a:p.at_.j
 g:∀i,i<p.msh.n→p.mat i<n
structure Wrl.ok(w:Wrl):Prop where
 s:checkB w.sc=true
 sd:w.sc.seed<18446744073709551616
 p:∀q∈w.parts,q.ok w.sc.ms.length
 pl:w.parts.length≤100
 sl:w.shades.length=w.sc.ms.length
 xl:w.pics.length=w.sc.ms.length
 c:∀(i:Nat) (m:Mt) (c:Cod),w.sc.ms[i]?=some m→m.k=4→w.shades[i]?=some c→okCode c.regs c.consts.length c.code=0∧(∀x∈c.consts,J64 x)∧c.code.length≤1000
theorem inV_far{v:V}{a b:Int}(h:inV v a b=true):(a≤v.x∧v.x≤b)∧(a≤v.y∧v.y≤b)∧(a≤v.z∧v.z≤b):=by
 simp only[inV,inI,Bool.and_eq_true,decide_eq_true_eq]at h; exact h
theorem inV_j{v:V}{a b:Int}(h:inV v a b=true)(ha:-4503599627370496≤a)(hb:b≤4503599627370496):v.j:=by
 obtain⟨⟨_,_⟩,⟨_,_⟩,_,_⟩:=inV_far h
 exact⟨⟨om,om⟩,⟨om,om⟩,om,om⟩
structure ScOk(s:Sc):Prop where
 w:1≤s.w∧s.w≤1024
 h:1≤s.h∧s.h≤1024
 sm:1≤s.sm∧s.sm≤64
 bo:0≤s.bo∧s.bo≤8
 eye:s.eye.j
 at_:s.at_.j
 up:s.up.j
 wide:J64 s.wide
 sky:s.sky.j
 lm:s.ms.length≤64
 lb:s.bs.length≤256
 lu:s.us.length≤16
 ms:∀m∈s.ms,(m.k=1∨m.k=2∨m.k=3∨m.k=4)∧m.c.j
 bs:∀b∈s.bs,ballOk ⟨b.c,b.r⟩∧0≤b.m∧b.m<s.ms.length
 us:∀u∈s.us,u.p.j∧0≤u.m∧u.m<s.ms.length
theorem matB_ok{m:Mt}(h:matB m=true):(m.k=1∨m.k=2∨m.k=3∨m.k=4)∧m.c.j:=by
 unfold matB at h
 split at h
 ·rename_i hk
  simp only[Bool.and_eq_true,decide_eq_true_eq]at h
  exact⟨om,inV_j h.2.2 om om⟩
 split at h
 ·rename_i hk
  simp only[Bool.and_eq_true,decide_eq_true_eq]at h
  exact⟨om,inV_j h.2.2 om om⟩
 split at h
 ·rename_i hk
  simp only[Bool.and_eq_true,noV,decide_eq_true_eq]at h
  obtain⟨⟨a,b,c⟩,_⟩:=h
  exact⟨om,by rw[show m.c=⟨0,0,0⟩ by cases hc:m.c; simp only[hc]at a b c; subst a b c; rfl]; exact V0_j⟩
 ·simp at h
theorem checkB_ok{s:Sc}(h:checkB s=true):ScOk s:=by
 unfold checkB headB at h
 simp only[Bool.and_eq_true,List.all_eq_true,wideB,decide_eq_true_eq]at h
 obtain⟨⟨w,hh,sm,bo,e,a,u,wd,sk,lm,lb,lu⟩,mm,bb,uu,am⟩:=h
 simp only[inI,Bool.and_eq_true,decide_eq_true_eq]at w hh sm bo
 unfold allM at am
 simp only[Bool.and_eq_true,List.all_eq_true,hasB,decide_eq_true_eq]at am
 refine⟨w,hh,sm,bo,inV_j e om om,inV_j a om om,inV_j u om om,⟨om,om⟩,inV_j sk om om,lm,lb,lu,fun m hm=>matB_ok (mm m hm),fun b hb=>⟨?_,am.1 b hb⟩,fun q hq=>⟨?_,am.2 q hq⟩⟩
 ·have:=bb b hb
  simp only[rndB,Bool.and_eq_true,decide_eq_true_eq]at this
  obtain⟨h1,h2,h3⟩:=this
  obtain⟨⟨_,_⟩,⟨_,_⟩,_,_⟩:=inV_far h1
  exact⟨⟨⟨by show _≤b.c.x; omega,by show b.c.x≤_; omega⟩,⟨by show _≤b.c.y; omega,by show b.c.y≤_; omega⟩,by show _≤b.c.z; omega,by show b.c.z≤_; omega⟩,by show 1≤b.r; omega,by show b.r≤_; omega⟩
 ·have:=uu q hq
  simp only[useB,Bool.and_eq_true]at this
  exact inV_j this.2 om om
theorem ballMsh_ok{s:Sc}(h:ScOk s):mshOk (ballMsh s.bs)=true:=by
 have:=h.lb
 simp only[mshOk,Bool.and_eq_true,decide_eq_true_eq,List.all_eq_true]
 refine⟨⟨Nat.zero_le _,Nat.zero_le _,by show (s.bs.map _).length≤4096-0; rw[List.length_map]; omega⟩,fun x hx=>by simp[ballMsh]at hx,fun x hx=>by simp[ballMsh]at hx,fun x hx=>?_⟩
 obtain⟨b,hb,rfl⟩:=List.mem_map.1 hx
 exact (h.bs b hb).1
theorem build_msh(m:Msh):(buildF m).msh=m:=by unfold buildF; split <;> rfl
theorem world_ok{s:Sc}{ms:List Msh}{shs:List Cod}{pcs:List Tex}(he:errW s ms shs pcs=0)(hsd:s.seed<18446744073709551616)(hn:∀m∈ms,m.n≤12)(hb:s.bs.length≤12)(hc:∀c∈shs,(∀x∈c.consts,J64 x)∧c.code.length≤1000):(worldF s ms shs pcs).ok:=by
 unfold errW at he
 split at he
 ·simp at he
 rename_i hck
 have hck':checkB s=true:=by simpa using hck
 split at he
 ·simp at he
 rename_i hlen
 split at he
 ·simp at he
 rename_i hms
 split at he
 ·simp at he
 rename_i hcb
 have S:=checkB_ok hck'
 have hms':∀m∈ms,mshOk m=true:=by simpa using hms
 refine⟨hck',hsd,fun q hq=>?_,?_,?_,?_,fun i m c hm hk hcc=>?_⟩
 ·unfold worldF partsF at hq
  rcases List.mem_append.1 hq with hq | hq
  ·obtain⟨i,hi⟩:=List.getElem?_of_mem hq
   rw[List.getElem?_zipWith]at hi
   cases hu:s.us[i]? with
   | none=>rw[hu]at hi; simp at hi
   | some u=>
    cases hm:ms[i]? with
    | none=>rw[hu,hm]at hi; simp at hi
    | some m=>
     rw[hu,hm]at hi
     simp only[sJ]at hi
     subst hi
     have hmm:=List.mem_of_getElem? hm
     obtain⟨h1,h2,h3⟩:=S.us u (List.mem_of_getElem? hu)
     exact⟨build_ok (mshOk_ok (hms' m hmm)) (hn m hmm),build_msh m,h1,fun i _=>by show u.m.toNat<s.ms.length; omega⟩
  ·split at hq
   ·simp at hq
   ·simp only[List.mem_singleton]at hq
    subst hq
    refine⟨build_ok (mshOk_ok (ballMsh_ok S)) (by show 0+(s.bs.map _).length≤12; rw[List.length_map]; omega),build_msh _,V0_j,fun i hi=>?_⟩
    have hi':i<s.bs.length:=by
     have:i<0+(s.bs.map fun b=>(⟨b.c,b.r⟩:Bll)).length:=hi
     rw[List.length_map]at this; omega
    obtain⟨x,hx⟩:=isSome_of_lt hi'
    obtain⟨_,h2,h3⟩:=S.bs x (List.mem_of_getElem? hx)
    show ((s.bs[i]?).getD R0).m.toNat<s.ms.length
    rw[hx]
    show x.m.toNat<_
    omega
 ·have:=S.lu
  show (List.zipWith partU s.us ms++(if s.bs.length=0 then [] else [partB s.bs])).length≤100
  rw[lA,List.length_zipWith]
  have:(if s.bs.length=0 then ([]:List Prt) else [partB s.bs]).length≤1:=by split <;> simp
  omega
 ·show (List.zipWith _ s.ms shs).length=s.ms.length
  rw[List.length_zipWith]; omega
 ·show (List.zipWith _ s.ms pcs).length=s.ms.length
  rw[List.length_zipWith]; omega
 ·have hcc':(List.zipWith (fun (m:Mt) c=>if m.k=4 then c else C0) s.ms shs)[i]?=some c:=hcc
  rw[List.getElem?_zipWith]at hcc'
  have hm':s.ms[i]?=some m:=hm
  rw[hm']at hcc'
  cases hs:shs[i]? with
  | none=>rw[hs]at hcc'; simp at hcc'
  | some d=>
   rw[hs]at hcc'
   simp only[hk,if_true,sJ]at hcc'
   subst hcc'
   obtain⟨g1,g2⟩:=hc d (List.mem_of_getElem? hs)
   refine⟨?_,g1,g2⟩
   rcases Nat.decEq (okCode d.regs d.consts.length d.code) 0 with h | h
   ·exact absurd (codeBad_at hm' hs hk h) hcb
   ·exact h
open Go.Abs Go.Abs.S
structure MkW(e:Nat)(H5:AHeap)(wb:Nat)(s:Sc)(vm vb vu v2 v3 v1:AVal)(C:List AVal)(l:List Prt)(K:AHeap):Prop where
 n:e≤K.next
 r:Row K wb (wrL wb s vm vb vu v1 v2 v3)
 a:AppN 8 0 K v1 C l.length
 b:Blk v1 (e≤·)
 g:∀c,c<e→c≠wb→K.get c=H5.get c
 p:∀j pr,l[j]?=some pr→PtQ (fun b=>b≠wb∧b<K.next∧Blk v1 (b≠·)) K pr ((C.drop (j*8)).take 8)
theorem MkW.ext{e:Nat}{H5:AHeap}{wb:Nat}{s:Sc}{vm vb vu v2 v3 v1:AVal}{C:List AVal}{l:List Prt}{K K':AHeap}(M:MkW e H5 wb s vm vb vu v2 v3 v1 C l K)(hwb:wb<e)(x:Ext K.next K K'):MkW e H5 wb s vm vb vu v2 v3 v1 C l K':=by
 have hn:=M.n
 have xn:=x.next
 exact⟨om,M.r.same (x.old _ om),M.a.ext x,M.b,fun c h1 h2=>by rw[x.old c om,M.g c h1 h2],fun j pr hj=>PtQ.mono (fun b hb=>⟨⟨hb.1,om,hb.2.2⟩,x.old b hb.2.1⟩) _ _ (M.p j pr hj)⟩
theorem pt_old{C c:List AVal}{k j:Nat}(hC:C.length=8*k)(hj:j<k):((C++c).drop (j*8)).take 8=(C.drop (j*8)).take 8:=by
 rw[List.drop_append_of_le_length om,List.take_append_of_le_length (by rw[List.length_drop]; omega)]
theorem pt_new{C c:List AVal}{k:Nat}(hC:C.length=8*k)(hc:c.length=8):((C++c).drop (k*8)).take 8=c:=by
 rw[show k*8=C.length by omega,List.drop_left,List.take_of_length_le om]
theorem AppN_len{m lo k:Nat}{H:AHeap}{s:AVal}{L:List AVal}(h:AppN m lo H s L k):L.length=m*k:=by
 rcases h with⟨_,rfl,rfl⟩ | ⟨_,_,_,h,_⟩
 ·rfl
 ·exact h
theorem addp_spec{e:Nat}{H5:AHeap}{wb:Nat}{s:Sc}{vm vb vu v2 v3 v1:AVal}{C:List AVal}{l:List Prt}{K:AHeap}(M:MkW e H5 wb s vm vb vu v2 v3 v1 C l K)(hwb:wb<e)(hl:l.length≤1000){m:Msh}(hm:mshOk m=true)(hn:m.n≤12){vp vt vb':AVal}(I:MsIn (·<K.next) K vp vt vb' m)
  {at_:V} {fn:AVal} {g:Nat→Nat} (ofn:fn.one=true) (F:MtF (fun b=>b≠wb∧b<K.next∧Blk v1 (b≠·)) K fn m.n g) :
  ACalls Tryz.prog noNat 13 [cellR wb 25 0,.agg (mshL vp vt vb'),.agg at_.cells,fn] K fun r K'=>∃(took:Int) (v1':AVal) (C':List AVal),r=.tuple [.int .i64 took,.int .i64 0]∧0≤took∧took≤1000∧MkW e H5 wb s vm vb vu v2 v3 v1' C' (l++[⟨m,buildF m,at_,g⟩]) K'∧K.next≤K'.next:=by
 have kn:=M.n
 have blk:=M.a.blk
 refine (add_wspec hm hn (at_:=at_) ofn hl om (fun a j r h q=>by have:e≤a.b:=M.b a j r h; omega) M.r M.a I).mono ?_
 rintro _ K' ⟨took,p,v1',vp',vt',vb'',rfl,t0,t1,kn',r',a',oP,MS,TK,bP,gP⟩
 have hC:=AppN_len M.a
 have keep:∀b,(b≠wb∧b<K.next∧Blk v1 (b≠·))→(b≠wb∧b<K'.next∧Blk v1' (b≠·))∧K'.get b=K.get b:=fun b hb=>by
  refine⟨⟨hb.1,om,fun a j r h q=>?_⟩,gP b hb.2.1 hb.1 hb.2.2⟩
  rcases bP _ hb.2.2 a j r h with q' | q'
  ·exact q' q
  ·omega
 refine⟨took,v1',_,rfl,t0,t1,⟨om,r',by rw[lA]; exact a',fun a j r h=>?_,fun c h1 h2=>?_,fun j pr hj=>?_⟩,kn'⟩
 ·rcases bP _ M.b a j r h with q | q
  ·exact q
  ·show e≤a.b; omega
 ·rw[gP c om h2 (fun a j r h q=>by have:e≤a.b:=M.b a j r h; omega),M.g c h1 h2]
 ·by_cases hj':j<l.length
  ·rw[List.getElem?_append_left hj']at hj
   rw[pt_old hC hj']
   exact PtQ.mono keep _ _ (M.p j pr hj)
  ·have:j=l.length:=by
    have:=(List.getElem?_eq_some_iff.1 hj).1
    rw[lA,List.length_singleton]at this; omega
   subst this
   rw[List.getElem?_append_right rL,Nat.sub_self]at hj
   simp only[List.getElem?_cons_zero,sJ]at hj
   subst hj
   rw[pt_new hC rfl]
   exact⟨vp',vt',vb'',p,fn,rfl,oP,MS.mono fun b hb=>⟨⟨om,hb.2⟩,rfl⟩,TK.mono fun b hb=>⟨⟨om,hb.2⟩,rfl⟩,F.mono keep⟩
abbrev Tr3:=AVal×AVal×AVal
def f3(t:Tr3):List AVal:=[t.1,t.2.1,t.2.2]
theorem f3_len(t:Tr3):(f3 t).length=3:=rfl
theorem rep_flat3(z:Tr3):∀n,rep (f3 z) n=(List.replicate n z).flatMap f3
 | 0=>rfl
 | n+1=>by rw[List.replicate_succ,List.flatMap_cons,← rep_flat3 z n]; rfl
theorem tr_make(H:AHeap)(z:Tr3){R by_:Nat}(h:R≤1000)(hb:by_≤100):∃H',aMake by_ (f3 z) H (.int .i64 (R:Int)) (.int .i64 (R:Int))=some (rgS H.next R,H')∧Row H' H.next ((List.replicate R z).flatMap f3)∧H'.next=H.next+1∧∀c,c≠H.next→H'.get c=H.get c:=by
 have h1:natOf (.int .i64 (R:Int))=some R:=by
  show natOf (.int .i64 (Int.ofNat R))=some R
  simp only[natOf,Nat.ble_eq_true_of_le (show R≤9223372036854775807 by omega),cond_true]
 have h2:by_*R≤100*1000:=Nat.mul_le_mul hb h
 refine⟨H.push (.cells (rep (f3 z) R) 0 false),?_,?_,rfl,fun c hc=>by rw[AHeap.get_push,if_neg hc]⟩
 ·simp only[aMake,h1,Nat.ble_eq_true_of_le rL,Nat.ble_eq_true_of_le (show by_*R≤281474976710656 by omega),Bool.and_self,cond_true,rep_len]
  rfl
 ·rw[← rep_flat3]; exact row_push _ _
theorem tr_st{H:AHeap}{b R i:Nat}{ts:List Tr3}{t:Tr3}(h:Row H b (ts.flatMap f3))(hl:ts.length=R)(hi:i<R)(ho:(f3 t).all AVal.one=true):∃H',oStore 3 H (cellR b (R*3) (i*3)) (.agg (f3 t))=some H'∧Row H' b ((ts.set i t).flatMap f3)∧H'.next=H.next∧∀c,c≠b→H'.get c=H.get c:=
 row_stK h (n:=R*3) (by rw[flat_len f3_len,hl]) om (xs:=f3 t) rfl ho (flat_setN f3_len om)
theorem tr_ls{α:Type}{Q:α→List AVal→Prop}{P:Nat→Prop}{H:AHeap}{b:Nat}{ts:List Tr3}{l:List α}(h:Row H b (ts.flatMap f3))(hl:ts.length=l.length)(hp:P b)(hq:∀(i:Nat) (x:α) (t:Tr3),l[i]?=some x→ts[i]?=some t→Q x (f3 t)):LsIn 3 Q P H (rgS b l.length) l:=by
 refine⟨ts.flatMap f3,SlK.row h (n:=l.length*3) (by rw[flat_len f3_len,hl]) om hp,fun i x hx=>?_⟩
 obtain⟨t,ht⟩:=isSome_of_lt (l:=ts) (i:=i) (by have:=(List.getElem?_eq_some_iff.1 hx).1; omega)
 rw[flat_at f3_len ht]
 exact hq i x t hx ht
open Go.Abs Go.Abs.S
def p1:List Nat:=[1,1,1,1,1,1]
def p2:List Nat:=[1,1,1,1,1,1,1]
def mskS(ms:List Mt)(shs:List Cod):List Cod:=List.zipWith (fun (m:Mt) c=>if m.k=4 then c else C0) ms shs
def mskX(ms:List Mt)(pcs:List Tex):List Tex:=List.zipWith (fun (m:Mt) t=>if m.k=4 then t else X0t) ms pcs
theorem zip_at{α β γ:Type}{f:α→β→γ}{l:List α}{r:List β}{i:Nat}{z:γ}(h:(List.zipWith f l r)[i]?=some z):∃x y,l[i]?=some x∧r[i]?=some y∧z=f x y:=by
 rw[List.getElem?_zipWith]at h
 cases hx:l[i]? with
 | none=>rw[hx]at h; simp at h
 | some x=>
  cases hy:r[i]? with
  | none=>rw[hx,hy]at h; simp at h
  | some y=>rw[hx,hy]at h; simp only[sJ]at h; exact⟨x,y,rfl,rfl,h.symm⟩
structure InN(H:AHeap)(s:Sc)(ms:List Msh)(shs:List Cod)(pcs:List Tex)(vm vb vu vms vsh vpc:AVal):Prop where
 S:ScIn (·<H.next) H s vm vb vu
 m:MssIn (·<H.next) H vms ms
 c:CdsIn (·<H.next) H vsh shs
 x:PcsIn (·<H.next) H vpc pcs
 hm:∀m∈ms,m.pts.length≤1000∧m.tris.length≤1000∧m.balls.length≤1000∧m.n≤12
 hb:s.bs.length≤12
 hc:∀c∈shs,c.code.length≤1000∧c.consts.length≤1000∧∀x∈c.consts,J64 x
 hx:∀t∈pcs,t.pix.length≤100000
 lm:ms.length≤100
 lt:s.ms.length≤100
 lu:s.us.length≤100
 sd:s.seed<18446744073709551616
theorem set_get{α:Type}{l:List α}{i j:Nat}{x t:α}(h:(l.set i x)[j]?=some t):(j=i∧t=x)∨(j≠i∧l[j]?=some t):=by
 by_cases hj:j=i
 ·subst hj
  have hlt:=(List.getElem?_eq_some_iff.1 h).1
  rw[List.length_set]at hlt
  rw[List.getElem?_set_self hlt]at h
  exact .inl ⟨rfl,by simpa using h.symm⟩
 ·rw[List.getElem?_set_ne om]at h
  exact .inr ⟨hj,h⟩
set_option maxHeartbeats 2000000 in
theorem new_tail{H:AHeap}{s:Sc}{ms:List Msh}{shs:List Cod}{pcs:List Tex}{vm vb vu vms vsh vpc:AVal}(I:InN H s ms shs pcs vm vb vu vms vsh vpc)(ls:shs.length=s.ms.length)(lx:pcs.length=s.ms.length){e a0 wb:Nat}{H5:AHeap}{vm' vb' vu' v1:AVal}{C:List AVal}{l:List Prt}{K:AHeap}{T:Env}{st:Int}{Q:AVal→AHeap→Prop}
  (ho:∀c,c<H.next→c<e∧c≠wb∧H5.get c=H.get c) (hwb:wb<e) (ha0:a0<e) (haw:a0≠wb) (ra:Row H5 a0 (scL s vm vb vu)) (IS:ScIn (fun b=>b<e∧b≠wb) H5 s vm' vb' vu') (M:MkW e H5 wb s vm' vb' vu' nS nS v1 C l K)
  (t2:T 2=vsh) (t3:T 3=vpc) (t4:T 4=cellR a0 21 0) (t12:T 12=cellR wb 25 0) (t13:T 13=.int .i64 st)
  (hQ:∀K',K.next≤K'.next→(∀c,c<H.next→K'.get c=H.get c)→WrK (·<K'.next) K' (cellR wb 25 0) ⟨s,l,mskS s.ms shs,mskX s.ms pcs⟩→Q (.tuple [cellR wb 25 0,.int .i64 st,.int .i64 0]) K') :
  wp (ACalls Tryz.prog noNat) (hold (restP p2 c6.body)) (fin c6.res Q) T K:=by
 have kn:=M.n
 obtain⟨n,hn⟩:∃n,n=s.ms.length:=⟨_,rfl⟩
 have hn1:n≤100:=by have:=I.lt; omega
 obtain⟨l18,_,_,_⟩:=ld21 (ra.same (H':=K) (M.g a0 ha0 haw))
 have lvm:=I.S.m.len
 rw[← hn]at lvm
 obtain⟨K1,m1,r1,n1,k1⟩:=tr_make K (nS,.int .i64 0,nS) (R:=n) (by_:=56) om om
 obtain⟨sb,hsb⟩:∃b,b=K.next:=⟨_,rfl⟩
 rw[← hsb]at r1 k1 m1
 obtain⟨K2,m2,r2,n2,k2⟩:=row_st (M.r.same (k1 _ om)) (n:=25) rfl (i:=23) om (x:=rgS sb n) rfl (l':=wrL wb s vm' vb' vu' v1 (rgS sb n) nS) rfl
 obtain⟨l182,_,_,_⟩:=ld21 (ra.same (H':=K2) (by rw[k2 _ haw,k1 _ om,M.g a0 ha0 haw]))
 obtain⟨K3,m3,r3,n3,k3⟩:=tr_make K2 (.int .i64 0,.int .i64 0,nS) (R:=n) (by_:=40) om om
 obtain⟨xb,hxb⟩:∃b,b=K2.next:=⟨_,rfl⟩
 rw[← hxb]at r3 k3 m3
 obtain⟨K4,m4,r4,n4,k4⟩:=row_st (r2.same (k3 _ om)) (n:=25) rfl (i:=24) om (x:=rgS xb n) rfl (l':=wrL wb s vm' vb' vu' v1 (rgS sb n) (rgS xb n)) rfl
 obtain⟨l184,_,_,_⟩:=ld21 (ra.same (H':=K4) (by rw[k4 _ haw,k3 _ om,k2 _ haw,k1 _ om,M.g a0 ha0 haw]))
 have f1:f3 (nS,.int .i64 0,nS)=[nS,.int .i64 0,nS]:=rfl
 have f2:f3 (.int .i64 0,.int .i64 0,nS)=[.int .i64 0,.int .i64 0,nS]:=rfl
 rw[f1]at m1
 rw[f2]at m3
 rw[hold_eq]
 simp only[c6,restP,p2,sA,sB,seval,t4,t12,fldA,l18,lvm,m1,nil_cell,m2,l182,m3,m4,l184]
 have old4:∀c,c<K.next→c≠wb→K4.get c=K.get c:=fun c h1 h2=>by rw[k4 c h2,k3 c om,k2 c h2,k1 c om]
 have s4:Row K4 sb ((List.replicate n (nS,.int .i64 0,nS)).flatMap f3):=r1.same (by rw[k4 _ om,k3 _ om,k2 _ om])
 have x4:Row K4 xb ((List.replicate n (.int .i64 0,.int .i64 0,nS)).flatMap f3):=r3.same (k4 _ om)
 have oldH:∀c,c<H.next→c<e∧c≠wb∧K.get c=H.get c:=fun c hc=>by
  obtain⟨h1,h2,h3⟩:=ho c hc
  exact⟨h1,h2,by rw[M.g c h1 h2,h3]⟩
 refine aw_loop (fun q (T:Env) L=>∃(i:Nat) (ts xs:List Tr3),q=n-i∧i≤n∧ts.length=n∧xs.length=n∧K4.next≤L.next∧(∀c,c<K.next→c≠wb→L.get c=K.get c)∧Row L wb (wrL wb s vm' vb' vu' v1 (rgS sb n) (rgS xb n))∧Row L sb (ts.flatMap f3)∧Row L xb (xs.flatMap f3) ∧
   (∀(j:Nat) (m:Mt) (c:Cod) (t:Tr3),s.ms[j]?=some m→shs[j]?=some c→ts[j]?=some t→CdQ (fun b=>b<L.next∧b≠sb∧b≠xb) L (if j<i∧m.k=4 then c else C0) (f3 t)) ∧
   (∀(j:Nat) (m:Mt) (c:Tex) (t:Tr3),s.ms[j]?=some m→pcs[j]?=some c→xs[j]?=some t→PcQ (fun b=>b<L.next∧b≠sb∧b≠xb) L (if j<i∧m.k=4 then c else X0t) (f3 t)) ∧
   T 2=vsh∧T 3=vpc∧T 12=cellR wb 25 0∧T 13=.int .i64 st∧T 124=vm∧T 125=.int .i64 (n:Int)∧T 126=.int .i64 (i:Int)) n
  ⟨0,_,_,rfl,Nat.zero_le _,List.length_replicate,List.length_replicate,Nat.le_refl _,old4,r4,s4,x4,fun j m c t _ _ ht=>?_,fun j m c t _ _ ht=>?_,by simp only[sA,sB,seval,t2],by simp only[sA,sB,seval,t3],by simp only[sA,sB,seval,t12],by simp only[sA,sB,seval,t13],by simp only[sA,sB,seval],by simp only[sA,sB,seval],by simp only[sA,sB,seval]⟩ ?_
 ·have:=List.mem_of_getElem? ht
  rw[List.mem_replicate]at this
  obtain⟨_,rfl⟩:=this
  rw[if_neg om]
  exact⟨nS,nS,rfl,.nil _ _ _,.nil _ _ _⟩
 ·have:=List.mem_of_getElem? ht
  rw[List.mem_replicate]at this
  obtain⟨_,rfl⟩:=this
  rw[if_neg om]
  exact⟨nS,rfl,.nil _ _ _⟩
 rintro q T L ⟨i,ts,xs,rfl,hi,lts,lxs,ln,lg,rL,sL,xL,cS,cX,t2,t3,t12,t13,t124,t125,t126⟩
 by_cases hlt:i<n
 ·have hlt':(i:Int)<(n:Int):=om
  obtain⟨m,hm⟩:=isSome_of_lt (l:=s.ms) (i:=i) om
  obtain⟨c,hc⟩:=isSome_of_lt (l:=shs) (i:=i) om
  obtain⟨x,hx⟩:=isSome_of_lt (l:=pcs) (i:=i) om
  have oldL:∀b,b<H.next→b<L.next∧L.get b=H.get b:=fun b hb=>by
   obtain⟨h1,h2,h3⟩:=oldH b hb
   exact⟨om,by rw[lg b om h2,h3]⟩
  have Sm:=I.S.m.mono oldL
  have ix:=Sm.idx (i:=i) om
  have lxm:=Sm.loadE mt_len hm
  have wk:=wrap1 i om
  obtain⟨L1,q1,z1,y1,g1⟩:=row_newL L [.int .u8 0,.int .i64 0,.int .i64 0,.int .i64 0,.str [],.str []] (n:=6) rfl
  obtain⟨L2,q2,z2,y2,g2⟩:=row_storeN z1 (n:=6) rfl (xs:=mtL m) rfl rfl
  have l0:oLoad false 1 L2 (cellR L.next 6 0)=some (.int .u8 (m.k:Int)):=row_load z2 rfl rfl
  have o2:∀b,b<L.next→L2.get b=L.get b:=fun b hb=>by rw[g2 b om,g1 b om]
  have rL2:=rL.same (H':=L2) (o2 _ om)
  have sL2:=sL.same (H':=L2) (o2 _ om)
  have xL2:=xL.same (H':=L2) (o2 _ om)
  by_cases hk:m.k=4
  case neg=>
   have hk':¬(m.k:Int)=4:=om
   simp only[sA,sB,seval,t124,t125,t126,hlt',ix,lxm,q1,q2,fld0,l0,hk',wk]
   refine⟨_,(by omega:n-(i+1)<n-i),i+1,ts,xs,rfl,om,lts,lxs,om,fun b h1 h2=>by rw[o2 b om,lg b h1 h2],rL2,sL2,xL2,fun j m' c' t' h1 h2 h3=>?_,fun j m' c' t' h1 h2 h3=>?_,by simp only[t2,t3,t12,t13,t124,t125,and_true]⟩
   ·have e:(if j<i+1∧m'.k=4 then c' else C0)=(if j<i∧m'.k=4 then c' else C0):=by
     by_cases hj:j=i
     ·subst hj
      rw[hm]at h1
      simp only[sJ]at h1
      subst h1
      simp[hk]
     ·have:j<i+1↔j<i:=om
      simp only[this]
    rw[e]
    exact CdQ.mono (fun b hb=>⟨⟨om,hb.2⟩,o2 b hb.1⟩) _ _ (cS j m' c' t' h1 h2 h3)
   ·have e:(if j<i+1∧m'.k=4 then c' else X0t)=(if j<i∧m'.k=4 then c' else X0t):=by
     by_cases hj:j=i
     ·subst hj
      rw[hm]at h1
      simp only[sJ]at h1
      subst h1
      simp[hk]
     ·have:j<i+1↔j<i:=om
      simp only[this]
    rw[e]
    exact PcQ.mono (fun b hb=>⟨⟨om,hb.2⟩,o2 b hb.1⟩) _ _ (cX j m' c' t' h1 h2 h3)
  rw[hk]at l0
  simp only[Int.cast_ofNat_Int]at l0
  obtain⟨CS,SS,QS⟩:=I.c
  obtain⟨vc,vd,eC,Ic⟩:=QS i c hc
  obtain⟨CX,SX,QX⟩:=I.x
  obtain⟨vp,eX,Ix⟩:=QX i x hx
  have oldL2:∀b,b<H.next→b<L2.next∧L2.get b=H.get b:=fun b hb=>by
   obtain⟨h1,h2⟩:=oldL b hb
   exact⟨om,by rw[o2 b h1,h2]⟩
  have SS2:=SS.mono oldL2
  have ix2:=SS2.idx (i:=i) om
  have lx2:=SS2.load (i:=i) om
  rw[eC]at lx2
  obtain⟨_,_,_,_,_,w23,w24,_⟩:=ldW rL2
  simp only[sA,sB,seval,t124,t125,t126,hlt',ix,lxm,q1,q2,fld0,l0]
  refine aw_drawC rfl ?_
  simp only[sR,sA,sB,seval,t12,t2,nil_cell,fldA,w23,ix2,lx2]
  refine (cpshade_spec (Ic.mono oldL2) (by have:=(I.hc c (mem_at hc)).2.1; omega) (by have:=(I.hc c (mem_at hc)).1; omega)).mono ?_
  rintro _ L3 ⟨vc',vd',rfl,CI,E3⟩
  have e3:=E3.next
  have w23':oLoad false 1 L3 (cellR wb 25 23)=some (rgS sb n):=(ldW (rL2.same (E3.old _ om))).2.2.2.2.2.1
  have ia:=rg_idx (b:=sb) (R:=n) (i:=i) om
  obtain⟨L4,q4,z4,y4,g4⟩:=tr_st (t:=(vc',.int .i64 c.regs,vd')) (sL2.same (E3.old _ om)) lts (i:=i) om (cd_one CI)
  have q4':oStore 3 L3 (cellR sb (n*3) (i*3)) (.agg (shL c vc' vd'))=some L4:=q4
  simp only[sR,sA,sB,seval,ia,q4']
  simp only[ck_nil',ck_cons,ckP_load,ckP_nil,ck_end,and_true,true_and,List.map_cons,List.map_nil,sA,sB,seval,nil_cell,fldA]
  refine⟨⟨_,rfl,fun _=>⟨_,w23',by simp[rgS,aeq]⟩⟩,?_⟩
  have o4:∀b,b<L2.next→b≠sb→L4.get b=L2.get b:=fun b h1 h2=>by rw[g4 b h2,E3.old b h1]
  have nsb:∀b,b<H.next→b≠sb∧b≠xb:=fun b hb=>by obtain⟨h1,_,_⟩:=oldH b hb; omega
  have oldL4:∀b,b<H.next→b<L4.next∧L4.get b=H.get b:=fun b hb=>by
   obtain⟨h1,h2⟩:=oldL2 b hb
   exact⟨om,by rw[o4 b h1 (nsb b hb).1,h2]⟩
  have rL4:=rL2.same (H':=L4) (o4 _ om om)
  have SX4:=SX.mono oldL4
  have ix4:=SX4.idx (i:=i) om
  have lx4:=SX4.load (i:=i) om
  rw[eX]at lx4
  obtain⟨_,_,_,_,_,_,v24,_⟩:=ldW rL4
  refine aw_drawC rfl ?_
  simp only[sR,sA,sB,seval,t12,t3,nil_cell,fldA,v24,ix4,lx4]
  refine (cppic_spec (Ix.mono oldL4) (by have:=I.hx x (mem_at hx); omega)).mono ?_
  rintro _ L5 ⟨vp',rfl,PI,E5⟩
  have e5:=E5.next
  have v24':oLoad false 1 L5 (cellR wb 25 24)=some (rgS xb n):=(ldW (rL4.same (E5.old _ om))).2.2.2.2.2.2.1
  have ixa:=rg_idx (b:=xb) (R:=n) (i:=i) om
  obtain⟨L6,q6,z6,y6,g6⟩:=tr_st (t:=(.int .i64 x.w,.int .i64 x.h,vp')) ((xL2.same (H':=L4) (o4 _ om om)).same (E5.old _ om)) lxs (i:=i) om (tx_one PI.one)
  have q6':oStore 3 L5 (cellR xb (n*3) (i*3)) (.agg (texL x vp'))=some L6:=q6
  simp only[sR,sA,sB,seval,ixa,q6']
  simp only[ck_nil',ck_cons,ckP_load,ckP_nil,ck_end,and_true,true_and,List.map_cons,List.map_nil,sA,sB,seval,nil_cell,fldA]
  refine⟨⟨_,rfl,fun _=>⟨_,v24',by simp[rgS,aeq]⟩⟩,?_⟩
  have o6:∀b,b<L4.next→b≠xb→L6.get b=L4.get b:=fun b h1 h2=>by rw[g6 b h2,E5.old b h1]
  have oAll:∀b,b<L.next→b≠sb→b≠xb→L6.get b=L.get b:=fun b h1 h2 h3=>by rw[o6 b om h3,o4 b om h2,o2 b h1]
  have z46:Row L6 sb ((ts.set i (vc',.int .i64 c.regs,vd')).flatMap f3):=z4.same (o6 _ om om)
  simp only[sA,sB,seval,t126,wk]
  refine⟨_,(by omega:n-(i+1)<n-i),i+1,_,_,rfl,om,by rw[List.length_set]; exact lts,by rw[List.length_set]; exact lxs,om,fun b h1 h2=>by rw[oAll b om om om,lg b h1 h2],rL4.same (o6 _ om om),z46,z6,fun j m' c' t' h1 h2 h3=>?_,fun j m' c' t' h1 h2 h3=>?_,by simp only[t2,t3,t12,t13,t124,t125,and_true]⟩
  ·rcases set_get h3 with⟨rfl,rfl⟩ | ⟨hj,h3⟩
   ·rw[hm]at h1
    rw[hc]at h2
    simp only[sJ]at h1 h2
    subst h1 h2
    rw[if_pos ⟨om,hk⟩]
    exact⟨vc',vd',rfl,CI.mono fun b hb=>⟨⟨om,om,om⟩,by rw[o6 b om om,g4 b om]⟩⟩
   ·have e:(if j<i+1∧m'.k=4 then c' else C0)=(if j<i∧m'.k=4 then c' else C0):=by
     have:j<i+1↔j<i:=om
     simp only[this]
    rw[e]
    exact CdQ.mono (fun b hb=>⟨⟨om,hb.2⟩,oAll b hb.1 hb.2.1 hb.2.2⟩) _ _ (cS j m' c' t' h1 h2 h3)
  ·rcases set_get h3 with⟨rfl,rfl⟩ | ⟨hj,h3⟩
   ·rw[hm]at h1
    rw[hx]at h2
    simp only[sJ]at h1 h2
    subst h1 h2
    rw[if_pos ⟨om,hk⟩]
    exact⟨vp',rfl,PI.mono fun b hb=>⟨⟨om,om,om⟩,g6 b om⟩⟩
   ·have e:(if j<i+1∧m'.k=4 then c' else X0t)=(if j<i∧m'.k=4 then c' else X0t):=by
     have:j<i+1↔j<i:=om
     simp only[this]
    rw[e]
    exact PcQ.mono (fun b hb=>⟨⟨om,hb.2⟩,oAll b hb.1 hb.2.1 hb.2.2⟩) _ _ (cX j m' c' t' h1 h2 h3)
 ·obtain rfl:i=n:=om
  have hlt':¬(i:Int)<(i:Int):=om
  simp only[sA,sB,seval,t125,t126,hlt',t12,t13]
  refine hQ L om (fun c hc=>by obtain⟨h1,h2,h3⟩:=oldH c hc; rw[lg c om h2,h3]) ?_
  have mono:∀b,(b<K.next∧b≠wb)→b<L.next∧L.get b=K.get b:=fun b hb=>⟨om,lg b hb.1 hb.2⟩
  refine⟨wb,vm',vb',vu',v1,rgS sb i,rgS xb i,rfl,by show wb<L.next; omega,rL,IS.mono fun b hb=>⟨by show b<L.next; omega,by rw[lg b om hb.2,M.g b hb.1 hb.2]⟩,?_,?_,?_⟩
  ·refine⟨C,SlK.app (M.a.same om fun a j r h=>?_) fun a j r h=>?_,fun j pr hj=>PtQ.mono (fun b hb=>⟨by show b<L.next; omega,lg b hb.2.1 hb.1⟩) _ _ (M.p j pr hj)⟩
   ·have h1:=M.a.blk a j r h
    have h2:e≤a.b:=M.b a j r h
    exact lg _ h1 om
   ·have h1:=M.a.blk a j r h
    show a.b<L.next
    omega
  ·have lz:(mskS s.ms shs).length=i:=by unfold mskS; rw[List.length_zipWith]; omega
   have:=tr_ls (Q:=CdQ (·<L.next) L) (P:=(·<L.next)) (l:=mskS s.ms shs) sL (by rw[lts,lz]) (by show sb<L.next; omega) fun j x t hx ht=>by
    obtain⟨m,c,h1,h2,rfl⟩:=zip_at hx
    have h:=cS j m c t h1 h2 ht
    have hji:j<i:=by have:=(List.getElem?_eq_some_iff.1 ht).1; omega
    have e1:(if j<i∧m.k=4 then c else C0)=(if m.k=4 then c else C0):=by by_cases hk:m.k=4 <;> simp[hk,hji]
    rw[e1]at h
    exact CdQ.mono (fun b hb=>⟨hb.1,rfl⟩) _ _ h
   rw[lz]at this
   exact this
  ·have lz:(mskX s.ms pcs).length=i:=by unfold mskX; rw[List.length_zipWith]; omega
   have:=tr_ls (Q:=PcQ (·<L.next) L) (P:=(·<L.next)) (l:=mskX s.ms pcs) xL (by rw[lxs,lz]) (by show xb<L.next; omega) fun j x t hx ht=>by
    obtain⟨m,c,h1,h2,rfl⟩:=zip_at hx
    have h:=cX j m c t h1 h2 ht
    have hji:j<i:=by have:=(List.getElem?_eq_some_iff.1 ht).1; omega
    have e1:(if j<i∧m.k=4 then c else X0t)=(if m.k=4 then c else X0t):=by by_cases hk:m.k=4 <;> simp[hk,hji]
    rw[e1]at h
    exact PcQ.mono (fun b hb=>⟨hb.1,rfl⟩) _ _ h
   rw[lz]at this
   exact this
open Go.Abs Go.Abs.S
theorem rd_len(x:Rd):(rdL x).length=5:=rfl
theorem take_balls{bs:List Rd}{j:Nat}{x:Rd}(h:bs[j]?=some x):((ballMsh bs).balls.take (j+1)).flatMap Bll.cells=((ballMsh bs).balls.take j).flatMap Bll.cells++(Bll.mk x.c x.r).cells:=by
 have:(ballMsh bs).balls[j]?=some ⟨x.c,x.r⟩:=by show (bs.map _)[j]?=_; rw[List.getElem?_map,h]; rfl
 rw[List.take_add_one,List.flatMap_append,this]; simp
set_option maxHeartbeats 2000000 in
theorem new_mid{H:AHeap}{s:Sc}{ms:List Msh}{shs:List Cod}{pcs:List Tex}{vm vb vu vms vsh vpc:AVal}(I:InN H s ms shs pcs vm vb vu vms vsh vpc)(SO:ScOk s)(ls:shs.length=s.ms.length)(lx:pcs.length=s.ms.length){e a0 wb:Nat}{H5:AHeap}{vm' vb' vu' v1:AVal}{C:List AVal}{l:List Prt}{K:AHeap}{T:Env}{st:Int}{Q:AVal→AHeap→Prop}
  (ho:∀c,c<H.next→c<e∧c≠wb∧H5.get c=H.get c) (hwb:wb<e) (ha0:a0<e) (haw:a0≠wb) (ra:Row H5 a0 (scL s vm vb vu)) (IS:ScIn (fun b=>b<e∧b≠wb) H5 s vm' vb' vu') (M:MkW e H5 wb s vm' vb' vu' nS nS v1 C l K) (hl:l.length≤1000) (hst:0≤st∧st≤1000000)
  (t2:T 2=vsh) (t3:T 3=vpc) (t4:T 4=cellR a0 21 0) (t12:T 12=cellR wb 25 0) (t13:T 13=.int .i64 st)
  (hQ:∀K' st',K.next≤K'.next→(∀c,c<H.next→K'.get c=H.get c)→WrK (·<K'.next) K' (cellR wb 25 0) ⟨s,l++(if s.bs.length=0 then [] else [partB s.bs]),mskS s.ms shs,mskX s.ms pcs⟩→Q (.tuple [cellR wb 25 0,.int .i64 st',.int .i64 0]) K') :
  wp (ACalls Tryz.prog noNat) (hold (restP p1 c6.body)) (fin c6.res Q) T K:=by
 have kn:=M.n
 have lvb:=I.S.b.len
 obtain⟨_,l19,_,_⟩:=ld21 (ra.same (H':=K) (M.g a0 ha0 haw))
 rw[hold_eq]
 refine wp_cutP [1] ?_
 by_cases h0:s.bs.length=0
 ·have c0:¬(0:Int)<(s.bs.length:Int):=om
  simp only[c6,restP,p1,sC,sA,sB,seval,t4,fldA,l19,lvb,c0]
  exact new_tail I ls lx ho hwb ha0 haw ra IS M (by simp only[sA,sB,seval,t2]) (by simp only[sA,sB,seval,t3]) (by simp only[sA,sB,seval,t4]) (by simp only[sA,sB,seval,t12]) (by simp only[sA,sB,seval,t13]) (Q:=Q) (fun K' a b c=>hQ K' st a b (by rw[if_pos h0,List.append_nil]; exact c))
 have c0:(0:Int)<(s.bs.length:Int):=om
 have hbs:=I.hb
 obtain⟨_,_,w20,_⟩:=ldW M.r
 have obv:vb'.one=true:=IS.b.one
 obtain⟨K1,m1,r1,n1,k1⟩:=row_newL K [nS] (n:=1) rfl
 obtain⟨K2,m2,r2,n2,k2⟩:=row_st r1 (n:=1) rfl (i:=0) om (x:=vb') obv (l':=[vb']) rfl
 obtain⟨K3,m3,r3,n3,k3⟩:=row_newL K2 [nS,nS,nS] (n:=3) rfl
 obtain⟨K4,m4,r4,n4,k4⟩:=row_storeN r3 (n:=3) rfl (xs:=mshL nS nS nS) rfl rfl
 obtain⟨rb1,hrb⟩:∃b,b=K.next:=⟨_,rfl⟩
 obtain⟨mb,hmb⟩:∃b,b=K2.next:=⟨_,rfl⟩
 rw[← hrb]at m1 r1 k1 m2 r2 k2
 rw[← hmb]at m3 r3 k3 m4 r4 k4
 have bz:aBuild [.slice none 0 (.known 0),.slice none 0 (.known 0),.slice none 0 (.known 0)] []=some (.agg (mshL nS nS nS)):=rfl
 have r24:Row K4 rb1 [vb']:=r2.same (by rw[k4 _ om,k3 _ om])
 have l24:oLoad false 1 K4 (cellR rb1 1 0)=some vb':=row_load r24 rfl rfl
 have lvb':=IS.b.len
 have oK4:∀c,c<K.next→K4.get c=K.get c:=fun c hc=>by rw[k4 c om,k3 c om,k2 c om,k1 c om]
 simp only[c6,restP,p1,sC,sA,sB,seval,t4,t12,nil_cell,fldA,l19,lvb,c0,w20,m1,m2,bz,m3,m4,l24,lvb']
 refine aw_loop (fun q (T:Env) L=>∃(j:Nat) (vB:AVal),q=s.bs.length-j∧j≤s.bs.length∧K4.next≤L.next∧(∀c,c<K4.next→c≠mb→L.get c=K4.get c)∧Row L mb (mshL nS nS vB)∧AppN 4 0 L vB (((ballMsh s.bs).balls.take j).flatMap Bll.cells) j∧Blk vB (K4.next≤·) ∧
   T 2=vsh∧T 3=vpc∧T 4=cellR a0 21 0∧T 12=cellR wb 25 0∧T 13=.int .i64 st∧T 19=cellR rb1 1 0∧T 20=cellR mb 3 0∧T 84=vb'∧T 85=.int .i64 (s.bs.length:Int)∧T 86=.int .i64 (j:Int)) s.bs.length
  ⟨0,nS,rfl,Nat.zero_le _,Nat.le_refl _,fun _ _ _=>rfl,r4,.inl ⟨rfl,rfl,rfl⟩,(fun a j r h=>by cases h),by simp only[sA,sB,seval,t2],by simp only[sA,sB,seval,t3],by simp only[sA,sB,seval,t4],by simp only[sA,sB,seval,t12],by simp only[sA,sB,seval,t13],by simp only[sA,sB,seval],by simp only[sA,sB,seval],by simp only[sA,sB,seval],by simp only[sA,sB,seval],by simp only[sA,sB,seval]⟩ ?_
 rintro q T L ⟨j,vB,rfl,hj,ln,lg,rm,AB,bB,t2,t3,t4,t12,t13,t19,t20,t84,t85,t86⟩
 have oL:∀c,c<K.next→L.get c=K.get c:=fun c hc=>by rw[lg c om om,oK4 c hc]
 have SbL:SlK (fun b=>b≠wb∧b<L.next∧Blk v1 (b≠·)) L 5 vb' s.bs.length (s.bs.flatMap rdL):=IS.b.mono fun b hb=>⟨⟨hb.2,om,fun a j r h q=>by have:e≤a.b:=M.b a j r h; omega⟩,by rw[oL b om,M.g b hb.1 hb.2]⟩
 by_cases hlt:j<s.bs.length
 ·have hlt':(j:Int)<(s.bs.length:Int):=om
  obtain⟨x,hx⟩:=isSome_of_lt hlt
  have ix:=SbL.idx hlt
  have lxx:=SbL.loadE rd_len hx
  have wk:=wrap1 j om
  obtain⟨L1,q1,z1,y1,g1⟩:=row_newL L [.int .i64 0,.int .i64 0,.int .i64 0,.int .i64 0,.int .i64 0] (n:=5) rfl
  obtain⟨L2,q2,z2,y2,g2⟩:=row_storeN z1 (n:=5) rfl (xs:=rdL x) rfl rfl
  have l4:oLoad true 4 L2 (cellR L.next 5 0)=some (.agg (Bll.mk x.c x.r).cells):=row_loadK z2 (n:=5) rfl (i:=0) (k:=4) om
  have o2:∀b,b<L.next→L2.get b=L.get b:=fun b hb=>by rw[g2 b om,g1 b om]
  have rm2:=rm.same (H':=L2) (o2 _ om)
  obtain⟨_,_,b2,_⟩:=ldM rm2
  have bM:=buildM (m:=4) L2 (z:=[.int .i64 0,.int .i64 0,.int .i64 0,.int .i64 0]) (xs:=(Bll.mk x.c x.r).cells) rfl rfl
  obtain⟨vB',L3,q3,AB3,y3,b3,g3⟩:=(AB.same (H':=L2) om (fun a j r h=>o2 _ (AB.blk a j r h))).pushB (xs:=(Bll.mk x.c x.r).cells) rfl rfl om (bytes:=32) om om
  rw[← take_balls hx]at AB3
  have nm:Blk vB (mb≠·):=fun a j r h q=>by have:K4.next≤a.b:=bB a j r h; omega
  obtain⟨L4,q4,z4,y4,g4⟩:=row_st (rm2.same (g3 _ om nm)) (n:=3) rfl (i:=2) om (x:=vB') AB3.one (l':=mshL nS nS vB') rfl
  simp only[sA,sB,seval,t84,t85,t86,hlt',ix,lxx,q1,q2,t20,fldA,b2,fld0,l4,bM,q3,q4,wk]
  refine⟨_,(by omega:s.bs.length-(j+1)<s.bs.length-j),j+1,vB',rfl,om,om,fun c h1 h2=>?_,z4,AB3.same om (fun a j r h=>g4 _ ?_),fun a j r h=>?_,by simp only[t2,t3,t4,t12,t13,t19,t84,t85,and_true]⟩
  ·rw[g4 c h2,g3 c om (fun a j r h q=>by have:K4.next≤a.b:=bB a j r h; omega),o2 c om,lg c h1 h2]
  ·rcases b3 _ bB a j r h with q | q
   ·omega
   ·omega
  ·rcases b3 _ bB a j r h with q | q
   ·exact q
   ·show K4.next≤a.b; omega
 obtain rfl:j=s.bs.length:=om
 have hlt':¬(s.bs.length:Int)<(s.bs.length:Int):=om
 obtain⟨_,_,_,lm3⟩:=ldM rm
 have elen:(ballMsh s.bs).balls.length=s.bs.length:=List.length_map ..
 have efl:(ballMsh s.bs).balls.take s.bs.length=(ballMsh s.bs).balls:=List.take_of_length_le om
 rw[efl]at AB
 have MI:MsIn (·<L.next) L nS nS vB (ballMsh s.bs):=⟨.inl ⟨rfl,rfl,rfl⟩,.inl ⟨rfl,rfl,rfl⟩,by rw[elen]; exact SlK.app AB fun a j r h=>AB.blk a j r h⟩
 have ML:=M.ext hwb (K':=L) ⟨om,oL⟩
 have en:(ballMsh s.bs).n=s.bs.length:=by unfold Msh.n; rw[elen]; exact Nat.zero_add _
 have r2L:Row L rb1 [vb']:=r24.same (lg _ om om)
 simp only[sA,sB,seval,t85,t86,hlt',t12,t20,lm3,t19,bl30]
 refine (addp_spec ML hwb hl (ballMsh_ok SO) (by rw[en]; exact hbs) MI (at_:=V0) (fn:=.func (.func 15) [] [cellR rb1 1 0]) (g:=(partB s.bs).mat) rfl (.inr ⟨rb1,vb',s.bs,rfl,⟨om,om,fun a j r h q=>by have:=M.a.blk a j r h; omega⟩,r2L,SbL,en.symm,fun i x hx=>⟨(SO.bs x (mem_at hx)).2.1,by show ((s.bs[i]?).getD R0).m.toNat=_; rw[hx]; rfl⟩⟩)).mono ?_
 rintro _ L5 ⟨took,v1',C',rfl,tk0,tk1,M5,y5⟩
 simp only[sA,sB,seval,ext_0,ext_1]
 refine new_tail I ls lx ho hwb ha0 haw ra IS M5 (by simp only[sA,sB,seval,t2]) (by simp only[sA,sB,seval,t3]) (by simp only[sA,sB,seval,t4]) (by simp only[sA,sB,seval,t12]) (by simp only[sA,sB,seval,t13]) (Q:=Q) (fun K' a b c=>hQ K' st om b ?_)
 rw[if_neg h0]
 exact c
open Go.Abs Go.Abs.S
theorem us_len(x:Us):(usL x).length=5:=rfl
theorem errW_0{s:Sc}{ms:List Msh}{shs:List Cod}{pcs:List Tex}(he:errW s ms shs pcs=0):ScOk s∧ms.length=s.us.length∧shs.length=s.ms.length∧pcs.length=s.ms.length∧∀m∈ms,mshOk m=true:=by
 unfold errW at he
 split at he
 ·simp at he
 rename_i hck
 split at he
 ·simp at he
 rename_i hlen
 split at he
 ·simp at he
 rename_i hms
 exact⟨checkB_ok (by simpa using hck),om,om,om,by simpa using hms⟩
set_option maxHeartbeats 2000000 in
theorem new_spec{H:AHeap}{s:Sc}{ms:List Msh}{shs:List Cod}{pcs:List Tex}{vm vb vu vms vsh vpc:AVal}(I:InN H s ms shs pcs vm vb vu vms vsh vpc) :
  ACalls Tryz.prog noNat 6 [.agg (scL s vm vb vu),vms,vsh,vpc] H fun r H'=>∃p st,r=.tuple [p,.int .i64 st,.int .i64 (errW s ms shs pcs:Int)]∧Ext H.next H H'∧(errW s ms shs pcs=0→WrK (·<H'.next) H' p (worldF s ms shs pcs)):=by
 obtain⟨H1,m1,r1,n1,k1⟩:=row_newL H (scL s vm vb vu) (n:=21) rfl
 have E1:Ext H.next H H1:=⟨om,fun c hc=>k1 c om⟩
 have up:∀{K:AHeap},Ext H.next H K→∀b,b<H.next→b<K.next∧K.get b=H.get b:=fun x b hb=>⟨Nat.lt_of_lt_of_le hb x.next,x.old b hb⟩
 obtain⟨_,_,_,l21⟩:=ld21 r1
 refine acalls_ofN rfl za6 rfl ?_
 refine wp_cutP p1 ?_
 simp only[c6,p1,sC,sA,sB,seval,cells_agg,m1,l21]
 refine (tcheck_spec (I.S.mono (up E1)) (I.m.mono (up E1) (MsQ.mono (up E1))) (I.c.mono (up E1) (CdQ.mono (up E1))) (I.x.mono (up E1) (PcQ.mono (up E1))) (fun m hm=>⟨(I.hm m hm).1,(I.hm m hm).2.1,(I.hm m hm).2.2.1⟩) (fun c hc=>(I.hc c hc).1) (by have:=I.lm; omega) (by have:=I.lt; omega)).mono ?_
 rintro _ H2 ⟨rfl,E2⟩
 have e2:=E2.next
 have E12:=E1.trans (E2.less E1.next)
 by_cases he:errW s ms shs pcs=0
 case neg=>
  have he':¬((errW s ms shs pcs:Nat):Int)=0:=om
  simp only[sA,sB,seval,he']
  exact⟨_,_,rfl,E12,fun h=>absurd h he⟩
 rw[he]
 obtain⟨SO,lms,ls,lx,hms⟩:=errW_0 he
 have c0:((0:Nat):Int)=0:=rfl
 have r12:=r1.same (H':=H2) (E2.old _ om)
 obtain⟨_,_,_,l212⟩:=ld21 r12
 simp only[sA,sB,seval,c0,l212]
 have lt:=I.lt
 have lu:=I.lu
 have hb:=I.hb
 refine (cpscene_spec (I.S.mono (up E12)) om om om).mono ?_
 rintro _ H3 ⟨vm',vb',vu',rfl,IS,E3⟩
 have e3:=E3.next
 obtain⟨wb,hwb⟩:∃b,b=H3.next:=⟨_,rfl⟩
 obtain⟨a0,ha0⟩:∃b,b=H.next:=⟨_,rfl⟩
 obtain⟨H4,m4,r4,n4,k4⟩:=row_newL H3 (.ptr none::(scL s vm' vb' vu'++[nS,nS,nS])) (n:=25) rfl
 rw[← hwb]at m4 r4 k4
 have bW:aBuild [.ptr none,.int .i64 0,.int .i64 0,.int .i64 0,.int .i64 0,.int .u64 0,.int .i64 0,.int .i64 0,.int .i64 0,.int .i64 0,.int .i64 0,.int .i64 0,.int .i64 0,.int .i64 0,.int .i64 0,.int .i64 0,.int .i64 0,.int .i64 0,.int .i64 0,.slice none 0 (.known 0),.slice none 0 (.known 0),.slice none 0 (.known 0),.slice none 0 (.known 0),.slice none 0 (.known 0),.slice none 0 (.known 0)] [(1,21,.agg (scL s vm' vb' vu'))]=some (.agg (.ptr none::(scL s vm' vb' vu'++[nS,nS,nS]))):=rfl
 obtain⟨H5,m5,r5,n5,k5⟩:=row_st r4 (n:=25) rfl (i:=0) om (x:=cellR wb 25 0) rfl (l':=wrL wb s vm' vb' vu' nS nS nS) rfl
 have lvm:=(show SlK _ _ _ _ _ _ from (Classical.choose_spec I.m).1).len
 simp only[sA,sB,seval,bW,cells_agg,m4,nil_cell,fld0,m5,lvm]
 have hwl:wb<H5.next:=om
 have ra5:Row H5 a0 (scL s vm vb vu):=by rw[ha0]; exact r12.same (by rw[k5 _ om,k4 _ om,E3.old _ om])
 have ho:∀c,c<H.next→c<H5.next∧c≠wb∧H5.get c=H.get c:=fun c hc=>⟨om,om,by rw[k5 c om,k4 c om,E3.old c om,E12.old c hc]⟩
 have IS5:ScIn (fun b=>b<H5.next∧b≠wb) H5 s vm' vb' vu':=IS.mono fun b hb=>⟨om,by rw[k5 b om,k4 b om]⟩
 obtain⟨L,hL⟩:∃L,L=List.zipWith partU s.us ms:=⟨_,rfl⟩
 have lL:L.length=ms.length:=by rw[hL,List.length_zipWith]; omega
 have hlm:=I.lm
 refine aw_loop (fun q (T:Env) K=>∃(i:Nat) (v1:AVal) (C:List AVal) (st:Int),q=ms.length-i∧i≤ms.length∧MkW H5.next H5 wb s vm' vb' vu' nS nS v1 C (L.take i) K∧0≤st∧st≤1000*i∧T 2=vsh∧T 3=vpc∧T 4=cellR a0 21 0∧T 12=cellR wb 25 0∧T 13=.int .i64 st∧T 43=vms∧T 44=.int .i64 (ms.length:Int)∧T 45=.int .i64 (i:Int)) ms.length
  ⟨0,nS,[],0,rfl,Nat.zero_le _,⟨Nat.le_refl _,r5,.inl ⟨rfl,rfl,rfl⟩,(fun a j r h=>by cases h),fun _ _ _=>rfl,fun j pr hj=>by simp at hj⟩,om,om,by simp only[sA,sB,seval],by simp only[sA,sB,seval],by simp only[sA,sB,seval,ha0],by simp only[sA,sB,seval],by simp only[sA,sB,seval],by simp only[sA,sB,seval],by simp only[sA,sB,seval],by simp only[sA,sB,seval]⟩ ?_
 rintro q T K ⟨i,v1,C,st,rfl,hi,M,st0,st1,t2,t3,t4,t12,t13,t43,t44,t45⟩
 have kn:=M.n
 have oldH:∀b,b<H.next→b<K.next∧K.get b=H.get b:=fun b hb=>by
  obtain⟨h1,h2,h3⟩:=ho b hb
  exact⟨om,by rw[M.g b h1 h2,h3]⟩
 by_cases hlt:i<ms.length
 case neg=>
  obtain rfl:i=ms.length:=om
  have hlt':¬(ms.length:Int)<(ms.length:Int):=om
  rw[List.take_of_length_le om]at M
  simp only[sA,sB,seval,t44,t45,hlt']
  refine new_mid I SO ls lx ho hwl om om ra5 IS5 M om ⟨st0,om⟩ (by simp only[sA,sB,seval,t2]) (by simp only[sA,sB,seval,t3]) (by simp only[sA,sB,seval,t4]) (by simp only[sA,sB,seval,t12]) (by simp only[sA,sB,seval,t13]) fun K' st' a b c=>?_
  refine⟨_,_,rfl,⟨om,fun c hc=>b c hc⟩,fun _=>?_⟩
  rw[hL]at c
  exact c
 have hlt':(i:Int)<(ms.length:Int):=om
 obtain⟨m,hm⟩:=isSome_of_lt hlt
 obtain⟨u,hu⟩:=isSome_of_lt (l:=s.us) (i:=i) om
 obtain⟨CM,SM,QM⟩:=I.m
 obtain⟨vp,vt,vbb,eC,Im⟩:=QM i m hm
 have SK:=SM.mono oldH
 have ix:=SK.idx hlt
 have lxx:=SK.load hlt
 rw[eC]at lxx
 have wk:=wrap1 i om
 obtain⟨K1,q1,z1,y1,g1⟩:=row_newL K [nS,nS,nS] (n:=3) rfl
 obtain⟨K2,q2,z2,y2,g2⟩:=row_storeN z1 (n:=3) rfl (xs:=mshL vp vt vbb) rfl (ms_one Im)
 have o2:∀b,b<K.next→K2.get b=K.get b:=fun b hb=>by rw[g2 b om,g1 b om]
 obtain⟨_,_,_,w21,_⟩:=ldW (M.r.same (H':=K2) (o2 _ om))
 have SU:SlK (fun b=>b<K2.next) K2 5 vu' s.us.length (s.us.flatMap usL):=IS5.u.mono fun b hb=>⟨om,by rw[o2 b om,M.g b hb.1 hb.2]⟩
 have iu:=SU.idx (i:=i) om
 have lu':=SU.loadE us_len hu
 obtain⟨K3,q3,z3,y3,g3⟩:=row_newL K2 [.str [],.int .i64 0,.int .i64 0,.int .i64 0,.int .i64 0] (n:=5) rfl
 obtain⟨K4,q4,z4,y4,g4⟩:=row_storeN z3 (n:=5) rfl (xs:=usL u) rfl rfl
 have E4:Ext K.next K K4:=⟨om,fun c hc=>by rw[g4 c om,g3 c om,o2 c hc]⟩
 have l3:=row_loadN (z2.same (H':=K4) (by rw[g4 _ om,g3 _ om])) (n:=3) rfl
 have lp:oLoad true 3 K4 (cellR K2.next 5 1)=some (.agg u.p.cells):=row_loadK z4 (n:=5) rfl (i:=1) (k:=3) om
 have M4:=M.ext hwl E4
 simp only[sA,sB,seval,t43,t44,t45,hlt',ix,lxx,q1,q2,t12,nil_cell,fldA,w21,iu,lu',q3,q4,l3,lp]
 obtain⟨hm1,hm2,hm3,hm4⟩:=I.hm m (mem_at hm)
 have hui:=SO.us u (mem_at hu)
 refine (addp_spec M4 hwl (by rw[List.length_take]; omega) (hms m (mem_at hm)) hm4 (Im.mono fun b hb=>⟨by have:=oldH b hb; omega,by have:=oldH b hb; rw[E4.old b this.1,this.2]⟩) (at_:=u.p) (fn:=.func (.func 14) [] [cellR K2.next 5 0]) (g:=fun _=>u.m.toNat) rfl
  (.inl ⟨K2.next,u,rfl,⟨om,om,fun a j r h q=>by have:=M.a.blk a j r h; omega⟩,z4,hui.2.1,fun _=>rfl⟩)).mono ?_
 rintro _ K5 ⟨took,v1',C',rfl,tk0,tk1,M5,y5⟩
 have et:L.take i++[⟨m,buildF m,u.p,fun _=>u.m.toNat⟩]=L.take (i+1):=by
  have:L[i]?=some (partU u m):=by rw[hL,List.getElem?_zipWith,hu,hm]
  rw[List.take_add_one,this]; rfl
 rw[et]at M5
 have ws:IntKind.i64.wrap (st+took)=st+took:=w64
 simp only[sA,sB,seval,ext_0,ext_1,t13,ws,t45,wk]
 exact⟨_,(by omega:ms.length-(i+1)<ms.length-i),i+1,v1',C',st+took,rfl,om,M5,om,om,by simp only[t2,t3,t4,t12,t43,t44,and_true]⟩
open Go.Abs Go.Abs.S
def pthL(b:Nat)(wp:AVal)(p:Pth):List AVal:=[cellR b 20 0,wp,.int .i64 p.pixel,.int .i64 (p.sample:Int),.int .i64 (p.bounce:Int)]++(p.ray.cells++(p.thr.cells++(p.sum.cells++[.bool p.over,.int .i64 p.rays,.int .i64 p.shades])))
theorem ldP{H:AHeap}{b:Nat}{wp:AVal}{p:Pth}(r:Row H b (pthL b wp p)):oLoad false 1 H (cellR b 20 0)=some (cellR b 20 0)∧oLoad false 1 H (cellR b 20 1)=some wp∧oLoad false 1 H (cellR b 20 2)=some (.int .i64 p.pixel)∧oLoad false 1 H (cellR b 20 3)=some (.int .i64 (p.sample:Int))∧oLoad false 1 H (cellR b 20 4)=some (.int .i64 (p.bounce:Int)):=
 ⟨row_load r rfl rfl,row_load r rfl rfl,row_load r rfl rfl,row_load r rfl rfl,row_load r rfl rfl⟩
theorem ldP2{H:AHeap}{b:Nat}{wp:AVal}{p:Pth}(r:Row H b (pthL b wp p)):oLoad true 6 H (cellR b 20 5)=some (.agg p.ray.cells)∧oLoad true 3 H (cellR b 20 8)=some (.agg p.ray.d.cells)∧oLoad true 3 H (cellR b 20 11)=some (.agg p.thr.cells)∧oLoad true 3 H (cellR b 20 14)=some (.agg p.sum.cells)∧oLoad false 1 H (cellR b 20 17)=some (.bool p.over)∧oLoad false 1 H (cellR b 20 18)=some (.int .i64 p.rays)∧oLoad false 1 H (cellR b 20 19)=some (.int .i64 p.shades):=
 ⟨row_loadK r (n:=20) rfl (i:=5) (k:=6) om,row_loadK r (n:=20) rfl (i:=8) (k:=3) om,row_loadK r (n:=20) rfl (i:=11) (k:=3) om,row_loadK r (n:=20) rfl (i:=14) (k:=3) om,row_load r rfl rfl,row_load r rfl rfl,row_load r rfl rfl⟩
theorem ldP3{H:AHeap}{b:Nat}{wp:AVal}{p:Pth}(r:Row H b (pthL b wp p)):oLoad false 1 H (cellR b 20 11)=some (.int .i64 p.thr.x)∧oLoad false 1 H (cellR b 20 12)=some (.int .i64 p.thr.y)∧oLoad false 1 H (cellR b 20 13)=some (.int .i64 p.thr.z):=
 ⟨row_load r rfl rfl,row_load r rfl rfl,row_load r rfl rfl⟩
theorem ldW2{H:AHeap}{b:Nat}{s:Sc}{vm vb vu v1 v2 v3:AVal}(r:Row H b (wrL b s vm vb vu v1 v2 v3)):oLoad false 1 H (cellR b 25 1)=some (.int .i64 s.w)∧oLoad false 1 H (cellR b 25 2)=some (.int .i64 s.h)∧oLoad false 1 H (cellR b 25 3)=some (.int .i64 s.sm)∧oLoad false 1 H (cellR b 25 4)=some (.int .i64 s.bo)∧oLoad false 1 H (cellR b 25 5)=some (.int .u64 (s.seed:Int))∧oLoad true 3 H (cellR b 25 16)=some (.agg s.sky.cells):=
 ⟨row_load r rfl rfl,row_load r rfl rfl,row_load r rfl rfl,row_load r rfl rfl,row_load r rfl rfl,row_loadK r (n:=25) rfl (i:=16) (k:=3) om⟩
theorem sc_aeq{P:Nat→Prop}{H:AHeap}{s:Sc}{vm vb vu:AVal}(I:ScIn P H s vm vb vu):aeq (.agg (scL s vm vb vu)) (.agg (scL s vm vb vu))=true:=by
 have h1:=I.m.aeq
 have h2:=I.b.aeq
 have h3:=I.u.aeq
 have h4:∀x:Int,aeq (.int .u64 x) (.int .u64 x)=true:=fun x=>by simp[aeq,eqF_eq]
 simp[scL,aeq,aeqs,aeq_int,eqF_eq,h1,h2,h3,h4]
structure PR(H:AHeap)(wb pb:Nat)(w:Wrl)(p:Pth)(vm vb vu x1 x2 x3:AVal):Prop where
 w:Row H wb (wrL wb w.sc vm vb vu x1 x2 x3)
 p:Row H pb (pthL pb (cellR wb 25 0) p)
 wn:wb<H.next
 pn:pb<H.next
 ne:wb≠pb
theorem PR.ext{H H':AHeap}{wb pb:Nat}{w:Wrl}{p:Pth}{vm vb vu x1 x2 x3:AVal}(h:PR H wb pb w p vm vb vu x1 x2 x3)(e:Ext H.next H H'):PR H' wb pb w p vm vb vu x1 x2 x3:=
 ⟨h.w.same (e.old _ h.wn),h.p.same (e.old _ h.pn),Nat.lt_of_lt_of_le h.wn e.next,Nat.lt_of_lt_of_le h.pn e.next,h.ne⟩
theorem PR.set{H H':AHeap}{wb pb:Nat}{w:Wrl}{p q:Pth}{vm vb vu x1 x2 x3:AVal}(h:PR H wb pb w p vm vb vu x1 x2 x3)(n:H'.next=H.next)(r:Row H' pb (pthL pb (cellR wb 25 0) q))(e:∀c,c≠pb→H'.get c=H.get c):PR H' wb pb w q vm vb vu x1 x2 x3:=
 ⟨h.w.same (e _ h.ne),r,by rw[n]; exact h.wn,by rw[n]; exact h.pn,h.ne⟩
theorem Only.of_ext{b:Nat}{H K:AHeap}(e:Ext H.next H K):Only b H K:=⟨e.next,fun c hc _=>e.old c hc⟩
theorem Only.trans{b:Nat}{H K L:AHeap}(h:Only b H K)(k:Only b K L):Only b H L:=⟨Nat.le_trans h.1 k.1,fun c hc hb=>by rw[k.2 c (Nat.lt_of_lt_of_le hc h.1) hb,h.2 c hc hb]⟩
theorem pmade_spec{H:AHeap}{b:Nat}{wp:AVal}{p:Pth}(r:Row H b (pthL b wp p)):ACalls Tryz.prog noNat 20 [cellR b 20 0] H fun u H'=>u=.bool true∧H=H':=by
 obtain⟨l0,_⟩:=ldP r
 have e1:aPf (.eqv true .ptr) [cellR b 20 0,.ptr none]=some (.bool true):=rfl
 have e2:aPf (.eqv false .ptr) [cellR b 20 0,cellR b 20 0]=some (.bool true):=by rw[eq_ptr]; simp
 refine acalls_ofN rfl za20 rfl ?_
 simp only[c20,sA,sB,seval,e1,nil_cell,fld0,l0,e2]
 exact⟨tt,tt⟩
section
variable {H:AHeap} {wb pb:Nat} {w:Wrl} {p:Pth} {vm vb vu x1 x2 x3:AVal}
theorem pdraw_spec(R:PR H wb pb w p vm vb vu x1 x2 x3)(sd:w.sc.seed<18446744073709551616){d:Int}:ACalls Tryz.prog noNat 47 [cellR pb 20 0,.int .i64 d] H fun u H'=>u=.int .i64 (p.draw w d)∧Ext H.next H H':=by
 obtain⟨_,l1,l2,l3,_⟩:=ldP R.p
 obtain⟨_,_,_,_,w5,_⟩:=ldW2 R.w
 refine acalls_ofN rfl za47 rfl ?_
 simp only[c47,sA,sB,seval,nil_cell,fldA,l1,w5,l2,l3]
 refine (draw_spec sd).mono ?_
 rintro _ H' ⟨rfl,E⟩
 simp only[sA,sB,seval]
 exact⟨tt,E⟩
theorem quoW{a b:Int}(ha:0≤a∧a≤1000000000)(hb:1≤b):aBin .quo (.int .i64 a) (.int .i64 b)=some (.int .i64 (a.tdiv b)):=by
 rw[bin_quo _ _ _ om]
 have h1:=Int.tdiv_le_self b ha.1
 have h2:=Int.tdiv_nonneg ha.1 (by omega:0≤b)
 rw[wrap64 om om]
theorem remW{a b:Int}(hb:1≤b):aBin .rem (.int .i64 a) (.int .i64 b)=some (.int .i64 (a.tmod b)):=bin_rem _ _ _ om
theorem pd_j(w:Wrl)(p:Pth)(d:Int):J64 (p.draw w d):=(drawF_j _ _ _ _).1
theorem pstart_spec(R:PR H wb pb w p vm vb vu x1 x2 x3)(sd:w.sc.seed<18446744073709551616)(SO:ScOk w.sc){P0:Nat→Prop}{G0:AHeap}(I:ScIn P0 G0 w.sc vm vb vu)(hp:0≤p.pixel∧p.pixel≤1000000000) :
  ACalls Tryz.prog noNat 19 [cellR pb 20 0] H fun u H'=>u=.tuple []∧Only pb H H'∧PR H' wb pb w (startF w p) vm vb vu x1 x2 x3:=by
 obtain⟨_,l1,_,_,_⟩:=ldP R.p
 obtain⟨_,_,_,_,_,_,_,w21⟩:=ldW R.w
 have wn:=R.wn
 have pn:=R.pn
 obtain⟨H1,m1,r1,n1,k1⟩:=row_newL H zSc (n:=21) rfl
 obtain⟨H2,m2,r2,n2,k2⟩:=row_storeN r1 (n:=21) rfl (xs:=scL w.sc vm vb vu) rfl (sc_one _ I.m.one I.b.one I.u.one)
 have E2:Ext H.next H H2:=⟨om,fun c hc=>by rw[k2 c om,k1 c om]⟩
 have R2:=R.ext E2
 obtain⟨H3,m3,r3,n3,k3⟩:=row_st R2.p (n:=20) rfl (i:=4) om (x:=.int .i64 0) rfl (l':=pthL pb (cellR wb 25 0) { p with bounce:=0 }) rfl
 have R3:=R2.set n3 r3 k3
 obtain⟨H4,m4,r4,n4,k4⟩:=row_stK r3 (n:=20) rfl (i:=11) (k:=3) om (xs:=v3 4294967296 4294967296 4294967296) rfl rfl (l':=pthL pb (cellR wb 25 0) { p with bounce:=0,thr:=⟨4294967296,4294967296,4294967296⟩ }) rfl
 have R4:=R3.set n4 r4 k4
 obtain⟨q,hq⟩:∃q:Pth,q={ p with bounce:=0,thr:=⟨4294967296,4294967296,4294967296⟩ }:=⟨_,rfl⟩
 rw[← hq]at r4 R4
 have r24:Row H4 H.next (scL w.sc vm vb vu):=r2.same (by rw[k4 _ om,k3 _ om])
 have cam:∀{K:AHeap},Ext H4.next H4 K→oLoad false 1 K (cellR H.next 21 0)=some (.int .i64 w.sc.w)∧oLoad true 21 K (cellR H.next 21 0)=some (.agg (scL w.sc vm vb vu))∧oLoad false 1 K (cellR pb 20 2)=some (.int .i64 p.pixel):=fun {K} e=>by
  have a:=r24.same (H':=K) (e.old _ om)
  have b:=(ldP (R4.ext e).p).2.2.1
  rw[hq]at b
  exact⟨row_load a rfl rfl,row_loadN a rfl,b⟩
 obtain⟨c0,c21,c2⟩:=cam (.refl _ _)
 have rm:=remW (a:=p.pixel) (b:=w.sc.w) SO.w.1
 have qo:=quoW (a:=p.pixel) (b:=w.sc.w) hp SO.w.1
 have b111:aBuild [.int .i64 0,.int .i64 0,.int .i64 0] [(0,1,.int .i64 4294967296),(1,1,.int .i64 4294967296),(2,1,.int .i64 4294967296)]=some (.agg (v3 4294967296 4294967296 4294967296)):=rfl
 refine acalls_ofN rfl za19 rfl ?_
 simp only[c19,sA,sB,seval,nil_cell,fldA,l1,w21,m1,m2,m3,b111,m4]
 refine aw_drawC rfl ?_
 simp only[sR,sA,sB,seval,nil_cell,fld0,fldA,c0,c21,c2,rm,qo]
 refine (pdraw_spec R4 sd).mono ?_
 rintro _ H5 ⟨rfl,E5⟩
 simp only[sR,sA,sB,seval]
 refine (pdraw_spec (R4.ext E5) sd).mono ?_
 rintro _ H6 ⟨rfl,E6⟩
 have E46:=E5.trans (E6.less E5.next)
 obtain⟨d0,d21,d2⟩:=cam E46
 simp only[sR,sA,sB,seval]
 refine (camera_spec SO.eye SO.at_ SO.up SO.wide (pd_j _ _ _) (pd_j _ _ _)).mono ?_
 rintro _ H7 ⟨rfl,E7⟩
 have E47:=E46.trans (E7.less E46.next)
 have R7:=R4.ext E47
 obtain⟨f0,f21,f2⟩:=cam E47
 have e7:=E47.next
 obtain⟨e0,e21,e2⟩:=cam E5
 have dq:∀d,q.draw w d=p.draw w d:=fun d=>by rw[hq]; rfl
 rw[dq,dq]
 obtain⟨H8,m8,r8,n8,k8⟩:=row_stK R7.p (n:=20) rfl (i:=5) (k:=6) om (xs:=(cameraF w.sc.cam (p.pixel.tmod w.sc.w) (p.pixel.tdiv w.sc.w) (p.draw w 0) (p.draw w 1)).cells) rfl rfl (l':=pthL pb (cellR wb 25 0) (startF w p)) (by rw[hq]; rfl)
 simp only[sR,sA,sB,seval,nil_cell,fldA,m8]
 simp only[ck_nil',ck_cons,ckP_load,ckP_nil,ck_end,and_true,true_and,List.map_cons,List.map_nil,sA,sB,seval,nil_cell,fld0,fldA,fin_n0]
 refine⟨?_,?_⟩
 ·have asc:aeq (.agg (scL w.sc vm vb vu)) (.agg (scL w.sc vm vb vu))=true:=sc_aeq I
  and_intros <;> first | rfl | exact⟨_,rfl,fun _=>⟨_,by first | assumption | (simp only[sA,sB,seval,nil_cell,fld0,fldA]; assumption),by first | exact aeq_int _ _ | exact asc⟩⟩
 ·refine⟨⟨om,fun c h1 h2=>by rw[k8 c h2,E47.old c om,k4 c h2,k3 c h2,E2.old c h1]⟩,R7.set n8 r8 k8⟩
end
open Go.Abs Go.Abs.S
theorem fin_r0{T:Env}{H:AHeap}(K:AVal→AHeap→Prop):fin [] K .ret T H=K (.tuple []) H:=by
 rw[fin_ret]
 simp only[wRes,OptP_some]
 rfl
section
variable {H:AHeap} {wb pb:Nat} {w:Wrl} {p:Pth} {vm vb vu x1 x2 x3:AVal}
theorem pend_spec(R:PR H wb pb w p vm vb vu x1 x2 x3)(sd:w.sc.seed<18446744073709551616)(SO:ScOk w.sc){P0:Nat→Prop}{G0:AHeap}(I:ScIn P0 G0 w.sc vm vb vu)(hp:0≤p.pixel∧p.pixel≤1000000000)(hs:p.sample≤1000) :
  ACalls Tryz.prog noNat 23 [cellR pb 20 0] H fun u H'=>u=.tuple []∧Only pb H H'∧PR H' wb pb w (endF w p) vm vb vu x1 x2 x3:=by
 obtain⟨_,l1,_,l3,_⟩:=ldP R.p
 have ws:IntKind.i64.wrap ((p.sample:Int)+1)=((p.sample+1:Nat):Int):=w64
 obtain⟨H1,m1,r1,n1,k1⟩:=row_st R.p (n:=20) rfl (i:=3) om (x:=.int .i64 ((p.sample+1:Nat):Int)) rfl (l':=pthL pb (cellR wb 25 0) { p with sample:=p.sample+1 }) rfl
 have R1:=R.set n1 r1 k1
 obtain⟨_,g1,_,g3,_⟩:=ldP R1.p
 obtain⟨_,_,w3,_⟩:=ldW2 R1.w
 refine acalls_ofN rfl za23 rfl ?_
 unfold endF Wrl.samples
 have hsm:=SO.sm
 by_cases c1:w.sc.sm.toNat≤p.sample+1
 ·have c1':w.sc.sm≤((p.sample+1:Nat):Int):=om
  obtain⟨H2,m2,r2,n2,k2⟩:=row_st r1 (n:=20) rfl (i:=17) om (x:=.bool true) rfl (l':=pthL pb (cellR wb 25 0) { p with sample:=p.sample+1,over:=true }) rfl
  rw[if_pos c1]
  simp only[c23,sA,sB,seval,nil_cell,fldA,l3,ws,m1,g3,g1,w3,c1',m2,fin_r0]
  have O2:Only pb H H2:=⟨om,fun c h1 h2=>by rw[k2 c h2,k1 c h2]⟩
  first | exact⟨tt,O2,R1.set n2 r2 k2⟩ | exact⟨O2,R1.set n2 r2 k2⟩
 ·have c1':¬w.sc.sm≤((p.sample+1:Nat):Int):=om
  rw[if_neg c1]
  simp only[c23,sA,sB,seval,nil_cell,fldA,l3,ws,m1,g3,g1,w3,c1']
  refine (pstart_spec R1 sd SO I hp).mono ?_
  rintro _ H2 ⟨rfl,O,R2⟩
  simp only[sA,sB,seval,fin_n0]
  have O2:Only pb H H2:=⟨by have:=O.1; omega,fun c h1 h2=>by rw[O.2 c om h2,k1 c h2]⟩
  first | exact⟨tt,O2,R2⟩ | exact⟨O2,R2⟩
theorem pshine_spec(R:PR H wb pb w p vm vb vu x1 x2 x3)(jt:p.thr.j)(js:p.sum.j){v:V}(jv:v.j) :
  ACalls Tryz.prog noNat 22 [cellR pb 20 0,.agg v.cells] H fun u H'=>u=.tuple []∧Only pb H H'∧PR H' wb pb w (shineF p v) vm vb vu x1 x2 x3:=by
 obtain⟨H1,m1,r1,n1,k1⟩:=row_newL H v.cells (n:=3) rfl
 have E1:Ext H.next H H1:=⟨om,fun c hc=>k1 c om⟩
 have R1:=R.ext E1
 have pn:=R.pn
 obtain⟨_,_,l11,l14,_⟩:=ldP2 R1.p
 have lv:=ld3V r1
 refine acalls_ofN rfl za22 rfl ?_
 simp only[c22,sA,sB,seval,cells_agg,m1]
 refine aw_drawC rfl ?_
 simp only[sR,sA,sB,seval,nil_cell,fldA,l14,l11,lv]
 refine (vmul_spec jt jv).mono ?_
 rintro _ H2 ⟨rfl,E2⟩
 obtain⟨_,_,_,q14,_⟩:=ldP2 (R1.ext E2).p
 simp only[sR,sA,sB,seval]
 refine (vadd_spec js (vMul_j ..)).mono ?_
 rintro _ H3 ⟨rfl,E3⟩
 have E13:=E2.trans (E3.less E2.next)
 have R3:=R1.ext E13
 have e3:=E13.next
 obtain⟨H4,m4,r4,n4,k4⟩:=row_stK R3.p (n:=20) rfl (i:=14) (k:=3) om (xs:=(vAdd p.sum (vMul p.thr v)).cells) rfl rfl (l':=pthL pb (cellR wb 25 0) (shineF p v)) rfl
 simp only[sR,sA,sB,seval,nil_cell,fldA,m4]
 simp only[ck_nil',ck_cons,ckP_load,ckP_nil,ck_end,and_true,true_and,List.map_cons,List.map_nil,sA,sB,seval,nil_cell,fldA,fin_n0]
 exact⟨⟨_,rfl,fun _=>⟨_,q14,aeq_V _⟩⟩,⟨om,fun c h1 h2=>by rw[k4 c h2,E13.old c om,k1 c om]⟩,R3.set n4 r4 k4⟩
theorem pf_mm3(a b c:Int):aPf (.mm true) [.int .i64 a,.int .i64 b,.int .i64 c]=some (.int .i64 (max (max a b) c)):=(mm3 a b c).2
theorem pstops_spec(R:PR H wb pb w p vm vb vu x1 x2 x3)(sd:w.sc.seed<18446744073709551616)(SO:ScOk w.sc)(jt:p.thr.j)(hb:p.bounce≤1000) :
  ACalls Tryz.prog noNat 30 [cellR pb 20 0] H fun u H'=>u=.bool (stopsF w p).1∧Only pb H H'∧PR H' wb pb w (stopsF w p).2 vm vb vu x1 x2 x3:=by
 obtain⟨_,l1,_,_,l4⟩:=ldP R.p
 obtain⟨_,_,l11,_⟩:=ldP2 R.p
 obtain⟨tx,ty,tz⟩:=ldP3 R.p
 obtain⟨_,_,_,w4,_⟩:=ldW2 R.w
 have hbo:=SO.bo
 have pn:=R.pn
 refine acalls_ofN rfl za30 rfl ?_
 unfold stopsF Wrl.bounces
 by_cases c1:w.sc.bo.toNat≤p.bounce
 ·have c1':w.sc.bo≤(p.bounce:Int):=om
  rw[if_pos (.inl c1)]
  simp only[c30,sA,sB,seval,nil_cell,fldA,l4,l1,w4,c1']
  exact⟨tt,Only.refl _ _,R⟩
 have c1':¬w.sc.bo≤(p.bounce:Int):=om
 have eqv:aPf (.eqS false [(0,.int),(1,.int),(2,.int)]) [.agg p.thr.cells,.agg (v3 0 0 0)]=some (.bool (decide (p.thr=V0))):=by
  have:=eqS_vc p.thr V0
  have e:(decide (p.thr.x=V0.x)&&(decide (p.thr.y=V0.y)&&decide (p.thr.z=V0.z)))=decide (p.thr=V0):=by
   cases h:p.thr with
   | mk a b c=>rw[Bool.eq_iff_iff]; simp[V0]; exact⟨fun ⟨a,b,c⟩=>⟨of_decide_eq_true a,of_decide_eq_true b,of_decide_eq_true c⟩,fun ⟨a,b,c⟩=>⟨decide_eq_true a,decide_eq_true b,decide_eq_true c⟩⟩
  rw[e]at this
  exact this
 by_cases c2:p.thr=V0
 ·rw[if_pos (.inr c2)]
  simp only[c30,sA,sB,seval,nil_cell,fldA,l4,l1,w4,c1',l11,bl30,eqv,decide_eq_true c2]
  exact⟨tt,Only.refl _ _,R⟩
 rw[if_neg (by simp[c1,c2])]
 by_cases c3:p.bounce<3
 ·have c3':(p.bounce:Int)<3:=om
  rw[if_pos c3]
  simp only[c30,sA,sB,seval,nil_cell,fldA,l4,l1,w4,c1',l11,bl30,eqv,decide_eq_false c2,c3']
  exact⟨tt,Only.refl _ _,R⟩
 have c3':¬(p.bounce:Int)<3:=om
 rw[if_neg c3]
 obtain⟨q,hq⟩:∃q,q=min (max (max p.thr.x p.thr.y) p.thr.z) 4294967296:=⟨_,rfl⟩
 have jq:J64 q:=by rw[hq]; exact min_j (max_j (max_j jt.1 jt.2.1) jt.2.2) ⟨by decide,by decide⟩
 have wb30:IntKind.i64.wrap (30+(p.bounce:Int))=30+(p.bounce:Int):=w64
 simp only
 rw[← hq]
 obtain⟨mx,hmx⟩:∃m,m=max (max p.thr.x p.thr.y) p.thr.z:=⟨_,rfl⟩
 have e3:aPf (.mm true) [.int .i64 p.thr.x,.int .i64 p.thr.y,.int .i64 p.thr.z]=some (.int .i64 mx):=by rw[hmx]; exact pf_mm3 _ _ _
 have e4:aPf (.mm false) [.int .i64 mx,.int .i64 4294967296]=some (.int .i64 q):=by rw[pf_min,min_if,hq,hmx]
 simp only[c30,sA,sB,seval,nil_cell,fldA,l4,l1,w4,c1',l11,bl30,eqv,decide_eq_false c2,c3',Nat.reduceAdd,Nat.add_zero,tx,ty,tz,e3,e4,wb30]
 refine (pdraw_spec R sd).mono ?_
 rintro _ H1 ⟨rfl,E1⟩
 have e1:=E1.next
 have R1:=R.ext E1
 by_cases c4:q≤p.draw w (30+p.bounce)
 ·rw[if_pos c4]
  simp only[sA,sB,seval,c4]
  exact⟨tt,Only.of_ext E1,R1⟩
 rw[if_neg c4]
 obtain⟨sx,sy,sz⟩:=ldP3 R1.p
 obtain⟨H2,m2,r2,n2,k2⟩:=row_stK R1.p (n:=20) rfl (i:=11) (k:=3) om (xs:=(vOver p.thr q).cells) rfl rfl (l':=pthL pb (cellR wb 25 0) { p with thr:=vOver p.thr q }) rfl
 have m2':oStore 3 H1 (cellR pb 20 11) (.agg (v3 (fDiv p.thr.x q) (fDiv p.thr.y q) (fDiv p.thr.z q)))=some H2:=m2
 simp only[sA,sB,seval,c4]
 refine aw_drawC rfl ?_
 simp only[sR,sA,sB,seval,nil_cell,fldA,Nat.reduceAdd,Nat.add_zero,sx]
 refine (div_spec jt.1 jq).mono ?_
 rintro _ _ ⟨rfl,rfl⟩
 simp only[sR,sA,sB,seval,nil_cell,fldA,Nat.reduceAdd,Nat.add_zero,sy]
 refine (div_spec jt.2.1 jq).mono ?_
 rintro _ _ ⟨rfl,rfl⟩
 simp only[sR,sA,sB,seval,nil_cell,fldA,Nat.reduceAdd,Nat.add_zero,sz]
 refine (div_spec jt.2.2 jq).mono ?_
 rintro _ _ ⟨rfl,rfl⟩
 simp only[sR,sA,sB,seval,nil_cell,fldA,bl3,m2']
 simp only[ck_nil',ck_cons,ckP_load,ckP_nil,ck_end,and_true,true_and,List.map_cons,List.map_nil,sA,sB,seval,nil_cell,fldA,Nat.reduceAdd,Nat.add_zero]
 have O2:Only pb H H2:=⟨om,fun c h1 h2=>by rw[k2 c h2,E1.old c h1]⟩
 refine⟨?_,?_⟩
 ·and_intros <;> first | rfl | exact⟨_,rfl,fun _=>⟨_,by first | assumption | (simp only[sA,sB,seval,nil_cell,fldA]; assumption),aeq_int _ _⟩⟩
 ·first | exact⟨O2,R1.set n2 r2 k2⟩ | exact⟨rfl,O2,R1.set n2 r2 k2⟩
theorem pgoon_spec(R:PR H wb pb w p vm vb vu x1 x2 x3)(sd:w.sc.seed<18446744073709551616)(jr:p.ray.d.j)(hb:p.bounce≤1000){k:Nat}{u v:Int}{pt n:V}(jn:n.j) :
  ACalls Tryz.prog noNat 31 [cellR pb 20 0,.int .u8 (k:Int),.agg (lookC u v pt n)] H fun r H'=>r=.tuple []∧Only pb H H'∧PR H' wb pb w (goOnF w k pt n p) vm vb vu x1 x2 x3:=by
 obtain⟨H1,m1,r1,n1,k1⟩:=row_newL H (lookC u v pt n) (n:=8) rfl
 have E1:Ext H.next H H1:=⟨om,fun c hc=>k1 c om⟩
 have R1:=R.ext E1
 have pn:=R.pn
 have lk:∀{K:AHeap},Ext H1.next H1 K→_:=fun {K} e=>ldK8 (r1.same (H':=K) (e.old _ om))
 obtain⟨_,_,l2,l5⟩:=lk (.refl _ _)
 obtain⟨_,_,_,_,q4⟩:=ldP R1.p
 have w1:IntKind.i64.wrap (2*(p.bounce:Int))=2*(p.bounce:Int):=w64
 have w2:IntKind.i64.wrap (2+2*(p.bounce:Int))=2+2*(p.bounce:Int):=w64
 have w3:IntKind.i64.wrap (3+2*(p.bounce:Int))=3+2*(p.bounce:Int):=w64
 have wb1:IntKind.i64.wrap ((p.bounce:Int)+1)=((p.bounce+1:Nat):Int):=w64
 obtain⟨kk,hkk⟩:∃kk:Nat,kk=if k=4 then 1 else k:=⟨_,rfl⟩
 refine acalls_ofN rfl za31 rfl ?_
 by_cases hk:k=4
 case' pos=>
  have e1:kk=1:=by rw[hkk,if_pos hk]
  have hk':(k:Int)=4:=om
  have ek:(1:Int)=(kk:Int):=by rw[e1]; rfl
  simp only[c31,sA,sB,seval,cells_agg,m1,hk']
  rw[ek]
 case' neg=>
  have e1:kk=k:=by rw[hkk,if_neg hk]
  have hk':¬(k:Int)=4:=om
  have ek:(k:Int)=(kk:Int):=by rw[e1]
  simp only[c31,sA,sB,seval,cells_agg,m1,hk']
  rw[ek]
 all_goals
  refine aw_drawC rfl ?_
  simp only[sR,sA,sB,seval,nil_cell,fldA,q4,w1,w2]
  refine (pdraw_spec R1 sd).mono ?_
  rintro _ H2 ⟨rfl,E2⟩
  have R2:=R1.ext E2
  obtain⟨_,_,_,_,q42⟩:=ldP R2.p
  simp only[sR,sA,sB,seval,nil_cell,fldA,q42,w1,w3]
  refine (pdraw_spec R2 sd).mono ?_
  rintro _ H3 ⟨rfl,E3⟩
  have E13:=E2.trans (E3.less E2.next)
  have R3:=R1.ext E13
  have jd:=pd_j w p
  obtain⟨_,_,l23,l53⟩:=lk E13
  obtain⟨_,l83,_⟩:=ldP2 R3.p
  simp only[sR,sA,sB,seval]
  simp only[ck_nil',ck_cons,ckP_load,ckP_nil,ck_end,and_true,true_and,List.map_cons,List.map_nil,sA,sB,seval,nil_cell,fldA]
  refine⟨⟨_,rfl,fun _=>⟨_,by first | assumption | exact q42,aeq_int _ _⟩⟩,?_⟩
  refine aw_drawC rfl ?_
  simp only[sR,sA,sB,seval,nil_cell,fldA,Nat.reduceAdd,l23,l83,l53]
  refine (bounce_spec (k:=kk) jr jn (jd _) (jd _)).mono ?_
  rintro _ H4 ⟨rfl,E4⟩
  have E14:=E13.trans (E4.less E13.next)
  have R4:=R1.ext E14
  have e4:=E14.next
  obtain⟨_,_,l24,_⟩:=lk E14
  obtain⟨q,hq⟩:∃q:Pth,q={ p with ray:=⟨pt,bounceF kk p.ray.d n (p.draw w (2+2*p.bounce)) (p.draw w (3+2*p.bounce))⟩ }:=⟨_,rfl⟩
  obtain⟨H5,m5,r5,n5,k5⟩:=row_stK R4.p (n:=20) rfl (i:=5) (k:=6) om (xs:=(Ray.mk pt (bounceF kk p.ray.d n (p.draw w (2+2*p.bounce)) (p.draw w (3+2*p.bounce)))).cells) rfl rfl (l':=pthL pb (cellR wb 25 0) q) (by rw[hq]; rfl)
  have R5:=R4.set n5 r5 k5
  have b6:=build6 pt (bounceF kk p.ray.d n (p.draw w (2+2*p.bounce)) (p.draw w (3+2*p.bounce)))
  have qb:q.bounce=p.bounce:=by rw[hq]
  obtain⟨_,_,_,_,q45⟩:=ldP R5.p
  rw[qb]at q45
  have eg:{ q with bounce:=p.bounce+1 }=goOnF w k pt n p:=by
   rw[hq,hkk]; rfl
  obtain⟨H6,m6,r6,n6,k6⟩:=row_st r5 (n:=20) rfl (i:=4) om (x:=.int .i64 ((p.bounce+1:Nat):Int)) rfl (l':=pthL pb (cellR wb 25 0) (goOnF w k pt n p)) (by rw[← eg]; rfl)
  simp only[sR,sA,sB,seval,nil_cell,fldA,b6,m5]
  simp only[ck_nil',ck_cons,ckP_load,ckP_nil,ck_end,and_true,true_and,List.map_cons,List.map_nil,sA,sB,seval,nil_cell,fldA,q45,wb1,m6,fin_n0]
  have O6:Only pb H H6:=⟨om,fun c h1 h2=>by rw[k6 c h2,k5 c h2,E14.old c om,k1 c om]⟩
  refine⟨⟨_,rfl,fun _=>⟨_,l24,aeq_V _⟩⟩,?_⟩
  first | exact⟨tt,O6,R5.set n6 r6 k6⟩ | exact⟨O6,R5.set n6 r6 k6⟩
end
open Go.Abs Go.Abs.S
structure WR(n0:Nat)(H:AHeap)(wb:Nat)(w:Wrl)(vm vb vu x1 x2 x3:AVal):Prop where
 r:Row H wb (wrL wb w.sc vm vb vu x1 x2 x3)
 s:ScIn (·<n0) H w.sc vm vb vu
 p:LsIn 8 (PtQ (·<n0) H) (·<n0) H x1 w.parts
 c:CdsIn (·<n0) H x2 w.shades
 x:PcsIn (·<n0) H x3 w.pics
 wn:wb<n0
 n:n0≤H.next
theorem WR.of{n0:Nat}{H:AHeap}{v:AVal}{w:Wrl}(h:WrK (·<n0) H v w)(n:n0≤H.next):∃wb vm vb vu x1 x2 x3,v=cellR wb 25 0∧WR n0 H wb w vm vb vu x1 x2 x3:=by
 obtain⟨b,vm,vb,vu,x1,x2,x3,h1,h2,h3,h4,h5,h6,h7⟩:=h
 exact⟨b,vm,vb,vu,x1,x2,x3,h1,h3,h4,h5,h6,h7,h2,n⟩
theorem WR.to{n0:Nat}{H H':AHeap}{wb:Nat}{w:Wrl}{vm vb vu x1 x2 x3:AVal}(h:WR n0 H wb w vm vb vu x1 x2 x3)(n:H.next≤H'.next)(q:∀b,b<n0→H'.get b=H.get b):WR n0 H' wb w vm vb vu x1 x2 x3:=
 ⟨h.r.same (q _ h.wn),h.s.mono fun b hb=>⟨hb,q b hb⟩,h.p.mono (fun b hb=>⟨hb,q b hb⟩) (PtQ.mono fun b hb=>⟨hb,q b hb⟩),h.c.mono (fun b hb=>⟨hb,q b hb⟩) (CdQ.mono fun b hb=>⟨hb,q b hb⟩),h.x.mono (fun b hb=>⟨hb,q b hb⟩) (PcQ.mono fun b hb=>⟨hb,q b hb⟩),h.wn,Nat.le_trans h.n n⟩
def NearOk(w:Wrl)(q:Hit×Int×Nat):Prop:=q.1.j∧(q.2.1=-1∨∃(i:Nat) (pr:Prt),q.2.1=i∧w.parts[i]?=some pr∧∃k:Nat,q.1.i=k∧k<pr.msh.n)∧q.2.2≤1+1000*w.parts.length
theorem near_cons{least:Int}{r:Ray}{pr:Prt}{l:List Prt}{i:Nat}{best:Hit}{which:Int}{cost:Nat}:nearF least r (pr::l) i (best,which,cost) =
  nearF least r l (i+1) (if 0≤(treeF pr.tre (movedF pr r) least).1.i∧(which<0∨(treeF pr.tre (movedF pr r) least).1.t<best.t) then ((treeF pr.tre (movedF pr r) least).1,(i:Int),cost+(treeF pr.tre (movedF pr r) least).2) else (best,which,cost+(treeF pr.tre (movedF pr r) least).2)):=rfl
abbrev z8p:List AVal:=[nS,nS,nS,.ptr none,.int .i64 0,.int .i64 0,.int .i64 0,.nilFunc]
set_option maxHeartbeats 4000000 in
theorem wnear_spec{n0:Nat}{H:AHeap}{wb:Nat}{w:Wrl}{vm vb vu x1 x2 x3:AVal}(W:WR n0 H wb w vm vb vu x1 x2 x3)(ok:w.ok){r:Ray}(hr:r.j){least:Int} :
  ACalls Tryz.prog noNat 21 [cellR wb 25 0,.agg r.cells,.int .i64 least] H fun v H'=>v=.tuple [.agg (nearestF w r least).1.cells,.int .i64 (nearestF w r least).2.1,.int .i64 ((nearestF w r least).2.2:Int)]∧Ext H.next H H'∧NearOk w (nearestF w r least):=by
 have hn0:=W.n
 have hwn:=W.wn
 have hpl:=ok.pl
 obtain⟨C,SC,QC⟩:=W.p
 obtain⟨H1,m1,r1,n1,k1⟩:=row_newL H r.cells (n:=6) rfl
 obtain⟨H2,m2,r2,n2,k2⟩:=row_newL H1 (h4 0 0 0 0) (n:=4) rfl
 obtain⟨H3,m3,r3,n3,k3⟩:=row_newL H2 (h4 0 0 0 0) (n:=4) rfl
 obtain⟨H4,m4,r4,n4,k4⟩:=row_storeN r3 (n:=4) rfl (xs:=noHit.cells) rfl rfl
 obtain⟨n,hn⟩:∃n,n=H.next:=⟨_,rfl⟩
 have e1:H1.next=n+1:=om
 have e2:H2.next=n+2:=om
 have cneg:(Int.negSucc 0)=-1:=rfl
 have bN:aBuild [.int .i64 0,.int .i64 0,.int .i64 0,.int .i64 0] [(1,1,.int .i64 (-1))]=some (.agg noHit.cells):=rfl
 have old4:∀c,c<H.next→H4.get c=H.get c:=fun c hc=>by rw[k4 c om,k3 c om,k2 c om,k1 c om]
 have rw4:=W.r.same (H':=H4) (old4 _ om)
 obtain⟨_,_,_,_,w22,_⟩:=ldW rw4
 have lp:=SC.len
 refine acalls_ofN rfl za21 rfl ?_
 simp only[c21,sA,sB,seval,cells_agg,m1,m2,m3,cneg,bN,m4]
 refine (wmade_spec rw4).mono ?_
 rintro _ _ ⟨rfl,rfl⟩
 simp only[sA,sB,seval,nil_cell,fldA,w22,lp]
 rw[← hn,e1,e2]
 rw[← hn]at r1
 rw[e1]at r2
 rw[e2]at r4
 have r14:Row H4 n r.cells:=r1.same (by rw[k4 _ om,k3 _ om,k2 _ om])
 have r24:Row H4 (n+1) (h4 0 0 0 0):=r2.same (by rw[k4 _ om,k3 _ om])
 refine aw_loop (fun q (T:Env) K=>∃(i:Nat) (best:Hit) (which:Int) (cost:Nat),q=w.parts.length-i∧i≤w.parts.length∧nearestF w r least=nearF least r (w.parts.drop i) i (best,which,cost)∧best.j∧(which=-1∨∃(j:Nat) (pr:Prt),which=j∧w.parts[j]?=some pr∧∃k:Nat,best.i=k∧k<pr.msh.n)∧cost≤1+1000*i ∧
   n+3≤K.next∧(∀c,c<n+2→K.get c=H4.get c)∧Row K (n+2) best.cells∧T 2=.int .i64 least∧T 4=cellR n 6 0∧T 6=cellR (n+1) 4 0∧T 9=cellR (n+2) 4 0∧T 10=.int .i64 which∧T 11=.int .i64 (cost:Int)∧T 25=x1∧T 26=.int .i64 (w.parts.length:Int)∧T 27=.int .i64 (i:Int)) w.parts.length
  ⟨0,noHit,-1,1,rfl,Nat.zero_le _,rfl,(noHit_in 0).1,.inl rfl,om,om,fun _ _=>rfl,r4,tt,tt,tt,tt,tt,tt,tt,tt,tt⟩ ?_
 rintro q T K ⟨i,best,which,cost,rfl,hi,en,bj,hw,hcost,kn,kg,rb,t2,t4,t6,t9,t10,t11,t25,t26,t27⟩
 have rrK:=r14.same (H':=K) (kg _ om)
 by_cases hlt:i<w.parts.length
 case neg=>
  obtain rfl:i=w.parts.length:=om
  have hlt':¬(w.parts.length:Int)<(w.parts.length:Int):=om
  rw[List.drop_length]at en
  have en':nearestF w r least=(best,which,cost):=en
  have lb:=row_loadN rb (n:=4) rfl
  obtain⟨K2,m6,r6,n6,k6⟩:=row_storeN (r24.same (H':=K) (kg _ om)) (n:=4) rfl (xs:=best.cells) rfl rfl
  have l6:=row_loadN r6 (n:=4) rfl
  rw[en']
  simp only[sA,sB,seval,t26,t27,hlt',t9,lb,t10,t11,t6,m6,fin_ctt,OptP_some,l6]
  exact⟨tt,⟨om,fun c hc=>by rw[k6 c om,kg c om,old4 c om]⟩,bj,hw,by show cost≤_; omega⟩
 have hlt':(i:Int)<(w.parts.length:Int):=om
 obtain⟨pr,hpr⟩:=isSome_of_lt hlt
 obtain⟨vp,vt,vbb,p,f,eC,oP,MI,TK,MF⟩:=QC i pr hpr
 have prk:=ok.p pr (List.mem_of_getElem? hpr)
 have oK:∀b,b<n0→b<K.next∧K.get b=H.get b:=fun b hb=>⟨om,by rw[kg b om,old4 b om]⟩
 have SK:=SC.mono (Q:=(·<K.next)) oK
 have ix:=SK.idx hlt
 have lx:=SK.load hlt
 rw[eC]at lx
 have wk:=wrap1 i om
 obtain⟨K1,mk1,rk1,nk1,kk1⟩:=row_newL K z8p (n:=8) rfl
 obtain⟨K2,mk2,rk2,nk2,kk2⟩:=row_storeN rk1 (n:=8) rfl (xs:=ptL vp vt vbb p pr.at_ f) rfl oP
 have o2:∀c,c<K.next→K2.get c=K.get c:=fun c hc=>by rw[kk2 c om,kk1 c om]
 simp only[sA,sB,seval,t25,t26,t27,hlt',ix,lx,mk1,mk2]
 refine aw_drawN ?_
 simp only[claims,newOf,reserves,resO_0,clOp_new]
 obtain⟨Hp,hHp⟩:∃L,L=K2.push (.cells (h4 0 0 0 0) 0 false):=⟨_,rfl⟩
 rw[← hHp]
 have np:Hp.next=K2.next+1:=by rw[hHp]; rfl
 have gp:Hp.get K2.next=some (.cells (h4 0 0 0 0) 0 false):=by rw[hHp,AHeap.get_push,if_pos rfl]
 have op:∀c,c<K2.next→Hp.get c=K2.get c:=fun c hc=>by rw[hHp]; exact get_push_lt hc
 have d1:aClaim Hp K2.next (h4 0 0 0 0) none=some (cellR K2.next 4 0):=claim_ok (z:=h4 0 0 0 0) gp rfl
 have ll:∀{L:AHeap},Ext Hp.next Hp L→oLoad false 1 L (cellR K.next 8 3)=some p∧oLoad true 8 L (cellR K.next 8 0)=some (.agg (ptL vp vt vbb p pr.at_ f))∧oLoad true 6 L (cellR n 6 0)=some (.agg r.cells)∧aClaim L K2.next (h4 0 0 0 0) none=some (cellR K2.next 4 0):=fun {L} e=>by
  have a:=rk2.same (H':=L) (by rw[e.old _ om,op _ om])
  have b:=rrK.same (H':=L) (by rw[e.old _ om,op _ om,o2 _ om])
  exact⟨row_load a rfl rfl,row_loadN a rfl,row_loadN b rfl,claim_ok (z:=h4 0 0 0 0) (by rw[e.old _ om]; exact gp) rfl⟩
 obtain⟨a3,a8,a6,_⟩:=ll (.refl _ _)
 simp only[sR,sA,sB,seval,t2,t4,fldA,a3,a8,a6]
 refine (moved_spec prk.a hr oP).mono ?_
 rintro _ L1 ⟨rfl,E1⟩
 have el1:=E1.next
 obtain⟨b3,b8,b6,b9⟩:=ll E1
 simp only[sR,sA,sB,seval,t2]
 have oL1:∀b,b<n0→b<L1.next∧L1.get b=H.get b:=fun b hb=>by
  obtain⟨h1,h2⟩:=oK b hb
  exact⟨om,by rw[E1.old b om,op b om,o2 b h1,h2]⟩
 refine (near_spec' prk.t (r:=movedF pr r) ⟨vSub_j hr.1 prk.a,hr.2⟩ (least:=least) (TK.mono oL1)).mono ?_
 rintro _ L2 ⟨rfl,E2,hin,hco⟩
 have el2:=E2.next
 have E12:=E1.trans (E2.less E1.next)
 obtain⟨c3,c8,c6',c9⟩:=ll E12
 rw[prk.m]at hin
 obtain⟨tf,htf⟩:∃tf,tf=treeF pr.tre (movedF pr r) least:=⟨_,rfl⟩
 rw[← htf]at hin hco ⊢
 have en2:=en
 rw[drop_cons hpr,near_cons,← htf]at en2
 obtain⟨L3,m6,r6,n6,k6⟩:=row_storeN (H:=L2) (b:=K2.next) (l:=h4 0 0 0 0) ⟨0,by rw[E12.old _ om]; exact gp,Nat.zero_le _⟩ (n:=4) rfl (xs:=tf.1.cells) rfl rfl
 simp only[sR,sA,sB,seval,ext_0,ext_1,tr_claim,c9,m6]
 simp only[ck_nil',ck_cons,ckP_load,ckP_claim,ckP_nil,ck_end,and_true,true_and,List.map_cons,List.map_nil,sA,sB,seval,fldA]
 refine⟨?_,?_⟩
 ·have ap:aeq p p=true:=by obtain⟨b,_,_,_,_,_,_,rfl,_⟩:=TK; exact aeq_cellR ..
  and_intros <;> first | rfl | exact⟨_,rfl,fun _=>⟨_,by first | assumption | (simp only[sA,sB,seval,fldA]; assumption),by first | exact aeq_cellR .. | exact ap⟩⟩
 have o3:∀c,c<K.next→L3.get c=K.get c:=fun c hc=>by rw[k6 c om,E12.old c om,op c om,o2 c hc]
 have rb3:Row L3 (n+2) best.cells:=rb.same (o3 _ om)
 obtain⟨g0,g1,_⟩:=ldHt (x:=best) rb3
 obtain⟨f0,f1,_⟩:=ldHt (x:=tf.1) r6
 have lf:=row_loadN r6 (n:=4) rfl
 have wc:IntKind.i64.wrap ((cost:Int)+(tf.2:Int))=((cost+tf.2:Nat):Int):=w64
 have hm:w.parts.length-(i+1)<w.parts.length-i:=om
 have kg3:∀c,c<n+2→L3.get c=H4.get c:=fun c hc=>by rw[o3 c om,kg c hc]
 have take:0≤tf.1.i→(which<0∨tf.1.t<best.t)→∃L4,oStore 4 L3 (cellR (n+2) 4 0) (.agg tf.1.cells)=some L4∧Row L4 (n+2) tf.1.cells∧L4.next=L3.next∧(∀c,c≠n+2→L4.get c=L3.get c)∧nearestF w r least=nearF least r (w.parts.drop (i+1)) (i+1) (tf.1,(i:Int),cost+tf.2)∧((i:Int)=-1∨∃(j:Nat) (pr:Prt),(i:Int)=j∧w.parts[j]?=some pr∧∃k:Nat,tf.1.i=k∧k<pr.msh.n):=fun h1 h2=>by
  obtain⟨L4,q1,q2,q3,q4⟩:=row_storeN rb3 (n:=4) rfl (xs:=tf.1.cells) rfl rfl
  rw[if_pos ⟨h1,h2⟩]at en2
  obtain⟨k,hk1,hk2⟩:=hin.pos h1
  exact⟨L4,q1,q2,q3,q4,en2,.inr ⟨i,pr,rfl,hpr,k,hk1,hk2⟩⟩
 by_cases h1:0≤tf.1.i
 ·by_cases h2:which<0
  ·obtain⟨L4,q1,q2,q3,q4,q5,q6⟩:=take h1 (.inl h2)
   simp only[sA,sB,seval,t11,wc,fldA,f1,h1,t10,h2,lf,t9,q1,t27,wk]
   exact⟨_,hm,i+1,tf.1,(i:Int),cost+tf.2,rfl,om,q5,hin.1,q6,om,om,fun c hc=>by rw[q4 c om,kg3 c hc],q2,by simp only[t2,t4,t6,t25,t26,and_true]⟩
  ·by_cases h3:tf.1.t<best.t
   ·obtain⟨L4,q1,q2,q3,q4,q5,q6⟩:=take h1 (.inr h3)
    simp only[sA,sB,seval,t11,wc,fld0,fldA,f1,h1,t10,h2,f0,t9,g0,h3,lf,q1,t27,wk]
    exact⟨_,hm,i+1,tf.1,(i:Int),cost+tf.2,rfl,om,q5,hin.1,q6,om,om,fun c hc=>by rw[q4 c om,kg3 c hc],q2,by simp only[t2,t4,t6,t25,t26,and_true]⟩
   ·rw[if_neg (by rintro ⟨_,h | h⟩; exact h2 h; exact h3 h)]at en2
    simp only[sA,sB,seval,t11,wc,fld0,fldA,f1,h1,t10,h2,f0,t9,g0,h3,t27,wk]
    exact⟨_,hm,i+1,best,which,cost+tf.2,rfl,om,en2,bj,hw,om,om,kg3,rb3,by simp only[t2,t4,t6,t9,t10,t25,t26,and_true]⟩
 ·rw[if_neg (fun h=>h1 h.1)]at en2
  simp only[sA,sB,seval,t11,wc,fldA,f1,h1,t27,wk]
  exact⟨_,hm,i+1,best,which,cost+tf.2,rfl,om,en2,bj,hw,om,om,kg3,rb3,by simp only[t2,t4,t6,t9,t10,t25,t26,and_true]⟩
open Go.Abs Go.Abs.S
set_option maxHeartbeats 2000000 in
theorem pshade_spec{n0:Nat}{H:AHeap}{wb pb:Nat}{w:Wrl}{p:Pth}{vm vb vu x1 x2 x3:AVal}(R:PR H wb pb w p vm vb vu x1 x2 x3)(W:WR n0 H wb w vm vb vu x1 x2 x3)(ok:w.ok){i:Nat}{m:Mt}(hm:w.sc.ms[i]?=some m)(hk:m.k=4){s:Cod}{t:Tex}(hs:w.shades[i]?=some s)(ht:w.pics[i]?=some t){u v:Int}{pt n:V}(ju:J64 u)(jv:J64 v)(jp:pt.j)(jn:n.j) :
  ACalls Tryz.prog noNat 27 [cellR pb 20 0,.int .i64 (i:Int),.agg (lookC u v pt n)] H fun r H'=>r=.tuple [.agg (shadeF s t u v pt n).1.cells,.int .i64 ((shadeF s t u v pt n).2:Int)]∧Ext H.next H H'∧(shadeF s t u v pt n).1.j∧(shadeF s t u v pt n).2≤200:=by
 have hn0:=W.n
 obtain⟨o1,o2,o3⟩:=ok.c i m s hm hk hs
 obtain⟨CS,SS,QS⟩:=W.c
 obtain⟨CX,SX,QX⟩:=W.x
 obtain⟨vc,vd,eC,IC⟩:=QS i s hs
 obtain⟨vp,eX,IX⟩:=QX i t ht
 have hi1:=(List.getElem?_eq_some_iff.1 hs).1
 have hi2:=(List.getElem?_eq_some_iff.1 ht).1
 have wn:=R.wn
 have pn:=R.pn
 obtain⟨H1,m1,r1,n1,k1⟩:=row_newL H (lookC u v pt n) (n:=8) rfl
 obtain⟨H2,m2,r2,n2,k2⟩:=row_newL H1 (v3 0 0 0) (n:=3) rfl
 have E2:Ext H.next H H2:=⟨om,fun c hc=>by rw[k2 c om,k1 c om]⟩
 refine acalls_ofN rfl za27 rfl ?_
 simp only[c27,sA,sB,seval,cells_agg,m1,m2]
 refine aw_drawN ?_
 simp only[claims,newOf,reserves,resO_0,clOp_new]
 obtain⟨Hp,hHp⟩:∃L,L=H2.push (.cells (v3 0 0 0) 0 false):=⟨_,rfl⟩
 rw[← hHp]
 have np:Hp.next=H2.next+1:=by rw[hHp]; rfl
 have gp:Hp.get H2.next=some (.cells (v3 0 0 0) 0 false):=by rw[hHp,AHeap.get_push,if_pos rfl]
 have op:∀c,c<H2.next→Hp.get c=H2.get c:=fun c hc=>by rw[hHp]; exact get_push_lt hc
 have Ep:Ext H.next H Hp:=⟨om,fun c hc=>by rw[op c om,E2.old c hc]⟩
 have d1:aClaim Hp H2.next (v3 0 0 0) none=some (cellR H2.next 3 0):=claim_ok (z:=v3 0 0 0) gp rfl
 have Rp:=R.ext Ep
 obtain⟨_,q1,_⟩:=ldP Rp.p
 obtain⟨_,_,_,_,_,w23,w24,_⟩:=ldW Rp.w
 have up:∀b,b<n0→b<Hp.next∧Hp.get b=H.get b:=fun b hb=>⟨by have:=Ep.next; omega,Ep.old b om⟩
 have SSp:=SS.mono (Q:=(·<Hp.next)) up
 have SXp:=SX.mono (Q:=(·<Hp.next)) up
 have ix1:=SSp.idx hi1
 have ix2:=SXp.idx hi2
 have lx1:=SSp.load hi1
 have lx2:=SXp.load hi2
 rw[eC]at lx1
 rw[eX]at lx2
 have ll:oLoad true 8 Hp (cellR H.next 8 0)=some (.agg (lookC u v pt n)):=row_loadN (r1.same (H':=Hp) (by rw[op _ om,k2 _ om])) (n:=8) rfl
 simp only[sR,sA,sB,seval,nil_cell,fldA,q1,w23,w24,ix1,ix2,lx1,lx2,ll]
 refine (run_spec (s:=s) o1 o2 om ju jv jp jn (IC.mono up) (IX.mono up)).mono ?_
 rintro _ H3 ⟨⟨e,rfl,he⟩,E3,j3,l3⟩
 have e3:=E3.next
 obtain⟨col,hcol⟩:∃c,c=(shadeF s t u v pt n).1:=⟨_,rfl⟩
 obtain⟨stp,hstp⟩:∃c,c=(shadeF s t u v pt n).2:=⟨_,rfl⟩
 rw[← hcol]at he j3 ⊢
 rw[← hstp]at l3 ⊢
 have gp3:H3.get H2.next=some (.cells (v3 0 0 0) 0 false):=by rw[E3.old _ om]; exact gp
 have d3:aClaim H3 H2.next (v3 0 0 0) none=some (cellR H2.next 3 0):=claim_ok (z:=v3 0 0 0) gp3 rfl
 obtain⟨H4,m4,r4,n4,k4⟩:=row_storeN (H:=H3) (b:=H2.next) (l:=v3 0 0 0) ⟨0,gp3,Nat.zero_le _⟩ (n:=3) rfl (xs:=col.cells) rfl rfl
 have o34:∀c,c<H2.next→H4.get c=H2.get c:=fun c hc=>by rw[k4 c om,E3.old c om,op c hc]
 simp only[sR,sA,sB,seval,ext_0,ext_1,ext_2,tr_claim,d3,m4]
 simp only[ck_nil',ck_cons,ckP_load,ckP_claim,ckP_nil,ck_end,and_true,true_and,List.map_cons,List.map_nil]
 refine⟨⟨_,rfl,fun _=>⟨_,d1,aeq_cellR ..⟩⟩,?_⟩
 have fin:∀{K:AHeap},K.next=H3.next→(∀c,c<H2.next→K.get c=H2.get c)→∃K',oStore 3 K (cellR H1.next 3 0) (.agg col.cells)=some K'∧oLoad true 3 K' (cellR H1.next 3 0)=some (.agg col.cells)∧Ext H.next H K':=fun {K} kn kk=>by
  obtain⟨K',z1,z2,z3,z4⟩:=row_storeN (r2.same (H':=K) (kk _ om)) (n:=3) rfl (xs:=col.cells) rfl rfl
  exact⟨K',z1,row_loadN z2 (n:=3) rfl,om,fun c hc=>by rw[z4 c om,kk c om,E2.old c hc]⟩
 by_cases h0:e=0
 ·have l4:=row_loadN r4 (n:=3) rfl
  obtain⟨K',z1,z2,z3⟩:=fin n4 o34
  simp only[sA,sB,seval,h0,l4,z1,fin_ct,OptP_some,z2]
  exact⟨tt,z3,j3,l3⟩
 ·have hc0:col=V0:=by rcases he with h | h; exact absurd h h0; exact h
  obtain⟨H5,m5,r5,n5,k5⟩:=row_storeN r4 (n:=3) rfl (xs:=v3 0 0 0) rfl rfl
  have l5:oLoad true 3 H5 (cellR H2.next 3 0)=some (.agg col.cells):=by rw[hc0]; exact row_loadN r5 (n:=3) rfl
  obtain⟨K',z1,z2,z3⟩:=fin (K:=H5) om (fun c hc=>by rw[k5 c om,o34 c hc])
  simp only[sA,sB,seval,h0,bl30,m5,l5,z1,fin_ct,OptP_some,z2]
  exact⟨tt,z3,j3,l3⟩
def pth0(px:Int):Pth:=⟨px,0,0,⟨V0,V0⟩,V0,V0,false,0,0⟩
theorem begin_spec{n0:Nat}{H:AHeap}{wb:Nat}{w:Wrl}{vm vb vu x1 x2 x3:AVal}(W:WR n0 H wb w vm vb vu x1 x2 x3)(ok:w.ok){px:Int}(h1:0≤px)(h2:px<w.sc.w*w.sc.h) :
  ACalls Tryz.prog noNat 7 [cellR wb 25 0,.int .i64 px] H fun r H'=>r=.tuple [cellR H.next 20 0,.int .i64 0]∧Ext H.next H H'∧PR H' wb H.next w (startF w (pth0 px)) vm vb vu x1 x2 x3:=by
 have SO:=checkB_ok ok.s
 have hn0:=W.n
 have hwn:=W.wn
 obtain⟨l1,l2,_⟩:=ldW2 W.r
 have hw:=SO.w
 have hh:=SO.h
 have hmul:0≤w.sc.w*w.sc.h∧w.sc.w*w.sc.h≤1024*1024:=⟨Int.mul_nonneg om om,Int.mul_le_mul hw.2 hh.2 om om⟩
 have wm:IntKind.i64.wrap (w.sc.w*w.sc.h)=w.sc.w*w.sc.h:=w64
 have c1:¬px<0:=om
 have c2:¬w.sc.w*w.sc.h≤px:=om
 obtain⟨zz,hzz⟩:∃z:List AVal,z=([.ptr none,cellR wb 25 0,.int .i64 px,.int .i64 0,.int .i64 0]++(V0.cells++V0.cells++(V0.cells++(V0.cells++[.bool false,.int .i64 0,.int .i64 0])))):=⟨_,rfl⟩
 have hzl:zz.length=20:=by rw[hzz]; rfl
 obtain⟨H1,m1,r1,n1,k1⟩:=row_newL H zz (n:=20) hzl
 have bP:aBuild [.ptr none,.ptr none,.int .i64 0,.int .i64 0,.int .i64 0,.int .i64 0,.int .i64 0,.int .i64 0,.int .i64 0,.int .i64 0,.int .i64 0,.int .i64 0,.int .i64 0,.int .i64 0,.int .i64 0,.int .i64 0,.int .i64 0,.bool false,.int .i64 0,.int .i64 0] [(1,1,cellR wb 25 0),(2,1,.int .i64 px)]=some (.agg zz):=by rw[hzz]; rfl
 obtain⟨H2,m2,r2,n2,k2⟩:=row_st r1 (n:=20) hzl (i:=0) om (x:=cellR H.next 20 0) rfl (l':=pthL H.next (cellR wb 25 0) (pth0 px)) (by rw[hzz]; rfl)
 have R2:PR H2 wb H.next w (pth0 px) vm vb vu x1 x2 x3:=⟨W.r.same (by rw[k2 _ om,k1 _ om]),r2,om,om,om⟩
 refine acalls_ofN rfl za7 rfl ?_
 simp only[c7,sA,sB,seval]
 refine (wmade_spec W.r).mono ?_
 rintro _ _ ⟨rfl,rfl⟩
 simp only[sA,sB,seval,nil_cell,fldA,Nat.reduceAdd,l1,l2,wm,c1,c2,bP,cells_agg,m1,fld0,m2]
 refine (pstart_spec R2 ok.sd SO W.s ⟨h1,by show px≤_; omega⟩).mono ?_
 rintro _ H3 ⟨rfl,O,R3⟩
 simp only[sA,sB,seval]
 exact⟨tt,⟨by have:=O.1; omega,fun c hc=>by rw[O.2 c om om,k2 c om,k1 c om]⟩,R3⟩
theorem color_spec{H:AHeap}{wb pb:Nat}{w:Wrl}{p:Pth}{vm vb vu x1 x2 x3:AVal}(R:PR H wb pb w p vm vb vu x1 x2 x3)(js:p.sum.j)(ho:p.over=true) :
  ACalls Tryz.prog noNat 9 [cellR pb 20 0] H fun r H'=>r=.agg (pixC (pixelF p.sum w.sc.sm))∧Ext H.next H H':=by
 have wn:=R.wn
 have pn:=R.pn
 obtain⟨H1,m1,r1,n1,k1⟩:=row_newL H [.int .u8 0,.int .u8 0,.int .u8 0,.int .u8 0] (n:=4) rfl
 have E1:Ext H.next H H1:=⟨om,fun c hc=>k1 c om⟩
 have R1:=R.ext E1
 obtain⟨_,q1,_⟩:=ldP R1.p
 obtain⟨_,_,_,q14,q17,_⟩:=ldP2 R1.p
 obtain⟨_,_,w3,_⟩:=ldW2 R1.w
 rw[ho]at q17
 refine acalls_ofN rfl za9 rfl ?_
 simp only[c9,sA,sB,seval,m1]
 refine (pmade_spec R1.p).mono ?_
 rintro _ _ ⟨rfl,rfl⟩
 simp only[sA,sB,seval,nil_cell,fldA,Nat.reduceAdd,q17,q14,q1,w3]
 refine (pixel_spec js).mono ?_
 rintro _ H2 ⟨rfl,E2⟩
 have e2:=E2.next
 obtain⟨H3,m3,r3,n3,k3⟩:=row_storeN (r1.same (H':=H2) (E2.old _ om)) (n:=4) rfl (xs:=pixC (pixelF p.sum w.sc.sm)) rfl rfl
 have l3:=row_loadN r3 (n:=4) rfl
 simp only[sA,sB,seval,m3,fin_cc,OptP_some,l3]
 exact⟨tt,⟨om,fun c hc=>by rw[k3 c om,E2.old c om,k1 c om]⟩⟩
open Go.Abs Go.Abs.S
def PJ(p:Pth):Prop:=p.ray.j∧p.thr.j∧p.sum.j
theorem bounceF_j{k a b:Int}{d n:V}(hd:d.j):(bounceF k d n a b).j:=by
 unfold bounceF
 split
 ·exact vBend_j hd
 ·exact vUnit_j _
theorem ray_mk_j{o d:V}(h:o.j)(k:d.j):(Ray.mk o d).j:=⟨h,k⟩
theorem cameraF_j{s:Cam}{x y a b:Int}(h:s.eye.j):(cameraF s x y a b).j:=by
 unfold cameraF; exact ray_mk_j h (vUnit_j _)
theorem lookP_j{r:Ray}{h:Hit}(hr:r.j):(lookP r h).j:=vAdd_j hr.1 (vScale_j _ _)
theorem normalF_j{m:Msh}{h:Hit}{r:Ray}:(normalF m h r).j:=by
 have key:∀n:V,n.j→(if 0<vDot n r.d then vNeg n else n).j:=fun n hn=>ite_j (vNeg_j hn) hn
 unfold normalF
 simp only
 split
 ·exact key _ (vUnit_j _)
 ·exact key _ (vUnit_j _)
theorem one_j:(⟨4294967296,4294967296,4294967296⟩:V).j:=⟨⟨by decide,by decide⟩,⟨by decide,by decide⟩,by decide,by decide⟩
theorem startF_j{w:Wrl}{p:Pth}(SO:ScOk w.sc)(h:p.sum.j):PJ (startF w p):=⟨cameraF_j (s:=w.sc.cam) SO.eye,one_j,h⟩
theorem endF_j{w:Wrl}{p:Pth}(SO:ScOk w.sc)(h:PJ p):PJ (endF w p):=by
 unfold endF
 split
 ·exact h
 ·exact startF_j SO h.2.2
theorem shineF_j{p:Pth}{c:V}(h:PJ p):PJ (shineF p c):=⟨h.1,h.2.1,vAdd_j h.2.2 (vMul_j _ _)⟩
theorem stopsF_j{w:Wrl}{p:Pth}(h:PJ p):PJ (stopsF w p).2:=by
 unfold stopsF
 split
 ·exact h
 ·split
  ·exact h
  ·simp only
   split
   ·exact h
   ·exact⟨h.1,vOver_j _ _,h.2.2⟩
theorem goOnF_j{w:Wrl}{k:Nat}{pt n:V}{p:Pth}(h:PJ p)(hp:pt.j):PJ (goOnF w k pt n p):=⟨⟨hp,bounceF_j h.1.2⟩,h.2⟩
def restF(w:Wrl)(k:Nat)(pt n:V)(q:Pth):Pth:=if (stopsF w q).1 then endF w (stopsF w q).2 else goOnF w k pt n (stopsF w q).2
theorem surf_rest(w:Wrl)(m:Mt)(pt n:V)(sh:V×Nat)(cost:Nat)(p:Pth) :
  surfF w m pt n sh cost p=((cost+sh.2,(restF w m.k pt n (if m.k=4 then { p with thr:=vMul p.thr (vClamp sh.1),shades:=p.shades+sh.2 } else { p with thr:=vMul p.thr m.c })).over),restF w m.k pt n (if m.k=4 then { p with thr:=vMul p.thr (vClamp sh.1),shades:=p.shades+sh.2 } else { p with thr:=vMul p.thr m.c })):=by
 unfold surfF restF
 generalize (if m.k=4 then { p with thr:=vMul p.thr (vClamp sh.1),shades:=p.shades+sh.2 } else { p with thr:=vMul p.thr m.c })=q
 simp only
 by_cases h:(stopsF w q).1=true
 ·rw[if_pos h,if_pos h]
 ·rw[if_neg h,if_neg h]
def q1:List Nat:=[1,1,1,1]
def q2:List Nat:=[1,1,1,1,1,1,1,1,1,1,1,1,1]
theorem step_tail{H:AHeap}{wb pb mb lb:Nat}{w:Wrl}{p:Pth}{vm vb vu x1 x2 x3:AVal}{P0:Nat→Prop}{G0:AHeap}(R:PR H wb pb w p vm vb vu x1 x2 x3)(I:ScIn P0 G0 w.sc vm vb vu)(ok:w.ok)(j:PJ p)(hb:p.bounce≤100)(hs:p.sample≤100)(hp:0≤p.pixel∧p.pixel≤1000000000)
  {m:Mt} {u v:Int} {pt n:V} (jp:pt.j) (jn:n.j) (rm:Row H mb (mtL m)) (rl:Row H lb (lookC u v pt n)) (hm:mb<H.next∧mb≠pb) (hl:lb<H.next∧lb≠pb) {cost:Int} {T:Env} (t0:T 0=cellR pb 20 0) (t7:T 7=.int .i64 cost) (t10:T 10=cellR mb 6 0) (t12:T 12=cellR lb 8 0) {Q:AVal→AHeap→Prop}
  (hQ:∀H',Only pb H H'→PR H' wb pb w (restF w m.k pt n p) vm vb vu x1 x2 x3→PJ (restF w m.k pt n p)→Q (.tuple [.int .i64 cost,.bool (restF w m.k pt n p).over]) H') :
  wp (ACalls Tryz.prog noNat) (hold (restP q2 c8.body)) (fin c8.res Q) T H:=by
 have SO:=checkB_ok ok.s
 rw[hold_eq]
 simp only[c8,restP,q2,sA,sB,seval,t0]
 refine (pstops_spec R ok.sd SO j.2.1 om).mono ?_
 rintro _ H1 ⟨rfl,O1,R1⟩
 obtain⟨a1,a2,a3,a4,a5⟩:=stops_same w p
 have js:=stopsF_j (w:=w) j
 have o1:=O1.1
 have jr:=R1.pn
 cases hst:(stopsF w p).1 with
 | true=>
  have er:restF w m.k pt n p=endF w (stopsF w p).2:=by unfold restF; rw[hst]; rfl
  rw[er]at hQ
  simp only[sA,sB,seval,t0]
  refine (pend_spec R1 ok.sd SO I (by rw[a2]; exact hp) (by rw[a3]; omega)).mono ?_
  rintro _ H2 ⟨rfl,O2,R2⟩
  obtain⟨_,_,_,_,l17,_⟩:=ldP2 R2.p
  simp only[sA,sB,seval,t0,t7,nil_cell,fldA,l17]
  exact hQ H2 (O1.trans O2) R2 (endF_j SO js)
 | false=>
  have er:restF w m.k pt n p=goOnF w m.k pt n (stopsF w p).2:=by unfold restF; rw[hst]; rfl
  rw[er]at hQ
  have lk:oLoad false 1 H1 (cellR mb 6 0)=some (.int .u8 (m.k:Int)):=row_load (rm.same (O1.2 _ hm.1 hm.2)) rfl rfl
  have ll:oLoad true 8 H1 (cellR lb 8 0)=some (.agg (lookC u v pt n)):=row_loadN (rl.same (O1.2 _ hl.1 hl.2)) (n:=8) rfl
  simp only[sA,sB,seval,t0,t10,t12,fld0,lk,ll]
  refine (pgoon_spec R1 ok.sd js.1.2 (by rw[a4]; omega) jn).mono ?_
  rintro _ H2 ⟨rfl,O2,R2⟩
  obtain⟨_,_,_,_,l17,_⟩:=ldP2 R2.p
  simp only[sA,sB,seval,t0,t7,nil_cell,fldA,l17]
  exact hQ H2 (O1.trans O2) R2 (goOnF_j js jp)
end Go.Proofs.Tc
