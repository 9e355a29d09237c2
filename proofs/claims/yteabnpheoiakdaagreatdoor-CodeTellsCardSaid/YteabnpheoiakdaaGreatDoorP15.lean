/- Part of a proof (YF7 YF8 YG1 YG2 YD3); no condition. -/
import Derived.Test.YteabnpheoiakdaaGreatDoorProg
import Derived.KernelRfl
import Derived.Test.YteabnpheoiakdaaGreatDoorP8
import Derived.Test.YteabnpheoiakdaaGreatDoorP9
import Derived.Test.YteabnpheoiakdaaGreatDoorP14
set_option linter.unusedSimpArgs false
set_option linter.unusedVariables false
set_option linter.unnecessarySimpa false
namespace Go.Proofs.Wo
open Go.Abs Go.Abs.S
def KL(N:Nat):Prop:=∀{l:List St} {C:List AVal} {v:AVal} {E F:Env'} {b:Bool} {x:Cs} {cb n0:Nat} {O:Nat→Prop} {H:AHeap},sizesS l≤N→MkS E x cb n0 O H→SlK (·<n0) H 9 v l.length C→XSws (·<n0) H l C→oksS l=true→sizesS l≤1000→deepsS l≤40→Scp E→ckL E b l=.ok F →
 x.code.length+3*sizesS l≤40000→x.cons.length+sizesS l≤40000→E.length+sizesS l≤40000→ACalls Tryz.prog natT 45 [cellR cb 7 0,v] H fun _ H'=>∃O',MkS E (cL E l x) cb n0 O' H'∧FrO O H O' H'
theorem three_spec{H:AHeap}:ACalls Tryz.prog natT 132 [] H fun _ H'=>H=H':=by
 refine acalls_ofN rfl za132 rfl ?_
 simp only[c132,sA,sB,seval]
 exact⟨_,rfl,rfl⟩
theorem fp_pb{P:Nat→Prop}{p:AVal}(hp:∀a,p=.ptr (some a)→P a.b)(o:Nat):∀a,fp p o=.ptr (some a)→P a.b:=by
 intro a e
 unfold fp at e
 split at e
 ·simp only[AVal.ptr.injEq,sJ]at e
  have q:=hp _ rfl
  rw[← e]; exact q
 ·simp[undefA]at e
theorem FrO.not{O O':Nat→Prop}{H H':AHeap}(f:FrO O H O' H'){c:Nat}(h1:c<H.next)(h2:¬O c):¬O' c:=fun h=>by
 rcases f.own c h with h | h
 ·exact h2 h
 ·omega
theorem kst_step{N:Nat}(ih:∀M,M<N→KL M){k:Nat}{s:Bs}{e:Ex}{body els:List St}{line:Int}{ce Cb Ce:List AVal}{vb ve p:AVal}{E E':Env'}{x:Cs}{cb n0:Nat}{O:Nat→Prop}{H:AHeap}
  (hsz:(St.mk k s e body els line).size≤N) (A:MkS E x cb n0 O H) (pt:PtC H p (.int .u8 (k:Int)::.str s::(ce++[vb,ve,.int .i64 line]))) (hp:∀a,p=.ptr (some a)→a.b<n0) (hx:XEw (·<n0) H e ce)
  (y1:SlK (·<n0) H 9 vb body.length Cb) (y2:XSws (·<n0) H body Cb) (y3:SlK (·<n0) H 9 ve els.length Ce) (y4:XSws (·<n0) H els Ce) (hok:okS (.mk k s e body els line)=true) (hs:(St.mk k s e body els line).size≤1000) (hd:(St.mk k s e body els line).deep≤40)
  (hE:Scp E) (hck:ckS E (.mk k s e body els line)=.ok E') (hc1:x.code.length+3*(St.mk k s e body els line).size≤40000) (hc2:x.cons.length+(St.mk k s e body els line).size≤40000) (hc3:E.length+(St.mk k s e body els line).size≤40000) :
  ACalls Tryz.prog natT 87 [cellR cb 7 0,p] H fun _ H'=>∃O',MkS (nextE E (.mk k s e body els line)) (cS E (.mk k s e body els line) x) cb n0 O' H'∧FrO O H O' H':=by
 obtain⟨hlf,hokE,hokB,hokL⟩:=okS_parts hok
 have hk5:=lineF_k hlf
 have hS:(St.mk k s e body els line).size=e.size+sizesS body+sizesS els+1:=rfl
 have hD:(St.mk k s e body els line).deep=max e.deep (max (deepsS body) (deepsS els))+1:=rfl
 obtain⟨t,hty,hhd,⟨Fb,hFb⟩,Fl,hFl⟩:=ckS_parts hck
 have hnx:=headS_next hhd
 obtain⟨c0,c1,c2,c3,rfl⟩:∃a b c d,ce=[a,b,c,d]:=by
  have:=hx.len
  match ce,this with
  | [a,b,c,d],_=>exact⟨a,b,c,d,rfl⟩
 have hcb:=A.lt
 have hON:=A.oN
 have nc:=pt.chk
 have g0:=pt.fld0
 have g1:=pt.fld 1
 have g2:=pt.fld 2
 have g6:=pt.fld 6
 have g7:=pt.fld 7
 have pe:PtC H (fp p 2) [c0,c1,c2,c3]:=pt.part (o:=2) (k:=4) (by simp)
 obtain⟨vn,vk,ln5,ln6,Ln,Lk,bn,bk⟩:=mk_regs A
 have lnn:=Ln.len
 obtain⟨vd,l2,Ld⟩:∃vd,oLoad false 1 H (cellR cb 7 2)=some vd∧LinM 4 H vd (codL x.code) x.code.length:=by
  obtain⟨vc,vd,vn,vk,mb,mp,A⟩:=A
  exact⟨vd,row_load A.row rfl rfl,A.ld⟩
 have ldd:=Ld.len
 refine acalls_ofN rfl za87 rfl ?_
 simp only[c87,sA,sB,seval,nil_cell,fld0,fldA,ln5,lnn,l2,ldd,nc,g2]
 refine (kexpr_spec hE om e.size rL A pe (fp_pb (P:=(·<n0)) hp 2) hx hokE hty om om ⟨om,om⟩ om).mono ?_
 rintro _ H1 ⟨O1,A1,F1⟩
 obtain⟨q1,q2,q3⟩:=cE_lim E e E.length x
 have q4:=cE_grow E e E.length x
 obtain⟨y,hy⟩:∃y,y=cE E e E.length x:=⟨_,rfl⟩
 rw[← hy]at A1 q1 q2 q3 q4
 have e1:=F1.next
 have low:∀{O2:Nat→Prop} {K:AHeap},FrO O H O2 K→∀c,c<n0→K.get c=H.get c:=fun F c hc=>F.old c om fun q=>by have:=hON c q; omega
 have ptK:∀{O2:Nat→Prop} {K:AHeap},FrO O H O2 K→PtC K p _:=fun F=>pt.same fun a ea=>low F _ (hp a ea)
 have l0:oLoad false 1 H1 p=some (.int .u8 (k:Int)):=(ptK F1).load0 rfl
 have l1:oLoad false 1 H1 (fp p 1)=some (.str s):=(ptK F1).load (o:=1) rfl
 have ld6:∀{O2:Nat→Prop} {K:AHeap},FrO O H O2 K→oLoad false 1 K (fp p 6)=some vb:=fun F=>(ptK F).load (o:=6) rfl
 have ld7:∀{O2:Nat→Prop} {K:AHeap},FrO O H O2 K→oLoad false 1 K (fp p 7)=some ve:=fun F=>(ptK F).load (o:=7) rfl
 have km:∀{O2:Nat→Prop} {K:AHeap},FrO O H O2 K→∀c,c<n0→c<n0∧K.get c=H.get c:=fun F c hc=>⟨hc,low F c hc⟩
 have nxE:k≠1→E'=E:=fun h=>by rw[hnx,if_neg h]
 simp only[sA,sB,seval,nc,g0,l0]
 rcases hk5 with rfl | rfl | rfl | rfl | rfl
 ·-- let
  have hcS:cS E (.mk 1 s e body els line) x=y:=by rw[hy]; rfl
  have hnn:nextE E (.mk 1 s e body els line)=E++[(s,t)]:=by
   have:tyOf E e=t:=by unfold tyOf; rw[hty]
   rw[← this]; rfl
  rw[hcS,hnn]
  obtain⟨vc1,vd1,vn1,vk1,mb1,mp1,A1⟩:=A1
  have hON1:=A1.oN
  have le:oLoad true 4 H1 (fp p 2)=some (.agg [c0,c1,c2,c3]):=by
   obtain⟨a,ea,hrd⟩:=(ptK F1).part (o:=2) (k:=4) (by simp)
   rw[ea]
   simp only[oLoad]
   have hrd':rdCells H1 a 4=some [c0,c1,c2,c3]:=hrd
   rw[hrd']; rfl
  have l15:oLoad false 1 H1 (cellR cb 7 5)=some vn1:=row_load A1.row rfl rfl
  have l16:oLoad false 1 H1 (cellR cb 7 6)=some vk1:=row_load A1.row rfl rfl
  simp only[sA,sB,seval,Int.cast_ofNat_Int,nc,g2,le,nil_cell,fldA,l15,l16]
  refine (tof_spec hE om A1.ln A1.lk A1.ln.blk A1.lk.blk rL om (hx.mono (km F1)) hokE om om).mono ?_
  rintro _ H2 ⟨rfl,E2⟩
  rw[hty]
  have e2:=E2.next
  have A2:=A1.keep E2.next fun c hc=>E2.old c (hON1 c hc).2
  have F02:=F1.trans (FrO.exts E2)
  obtain⟨Hr,hHr⟩:∃J,J=(H2.push (.cells [] 0 false)).push (.cells [] 0 false):=⟨_,rfl⟩
  obtain⟨H3,vn',H4,H5,vk',H6,H7,H8,fl1,a3,fl2,a5,m6,m7,⟨u1,u2,u3,u4,u5,u6⟩,ap1,ap2,kr,O8,A8,F8⟩:=mk_let A2 hHr s t om
  have ptr:PtC Hr p _:=(ptK F02).same fun a ea=>kr _ (by have:=hp a ea; omega)
  have qr1:oLoad false 1 Hr (fp p 1)=some (.str s):=ptr.load (o:=1) rfl
  have apN:∀{x:AVal},(∀c,blkOf x=some c→H2.next+1≠c)→aPf .apart [.slice (some ⟨H2.next+1,1,0⟩) 1 (.known 1),x]=some (.bool true):=fun h=>apart_any (apB_blk _ h)
  have p1:=apN (x:=.slice (some ⟨H2.next,1,0⟩) 1 (.known 1)) fun c hc=>by simp only[blkOf,sJ]at hc; omega
  have p2:=apN (x:=cellR cb 7 5) fun c hc=>by simp only[blkOf,cellR,sJ]at hc; omega
  have p3:=apN (x:=cellR cb 7 6) fun c hc=>by simp only[blkOf,cellR,sJ]at hc; omega
  have p4:=apN (x:=fp p 1) fun c hc=>by have:c<n0:=blkOf_ptr (P:=(·<n0)) hp 1 c hc; omega
  have p5:=apN (x:=vn1) ap1
  have p6:=apN (x:=vn') ap2
  have aN:=LinM.aeq A2.ln
  have aK:=LinM.aeq A2.lk
  simp only[sA,sB,seval,tyO,ext_0,ext_1]
  refine aw_drawN ?_
  simp only[claims,newOf,reserves,resO_0,clOp_fill,← hHr]
  simp only[sR,sA,sB,seval,nc,nil_cell,fld0,fldA,u1,g1,qr1,fl1,a3,u5,fl2,a5,m6,m7]
  simp only[ck_nil',ck_cons,ckP_load,ckP_claim,ckP_nil,ck_end,and_true,true_and,List.map_cons,List.map_nil,sA,sB,seval,nc,nil_cell,fld0,fldA]
  refine⟨⟨⟨_,rfl,fun _=>⟨_,u3,aN⟩⟩,⟨_,rfl,fun _=>⟨_,u2,aK⟩⟩,⟨_,rfl,fun _=>⟨_,u4,aK⟩⟩,⟨_,rfl,fun _=>⟨_,u6,aK⟩⟩⟩,?_⟩
  simp only[sA,sB,seval,p1,p2,p3,p4,p5,p6]
  exact⟨_,rfl,O8,A8,F02.trans F8⟩
 ·have hEE:=nxE dD
  subst hEE
  have hcS:cS E' (.mk 2 s e body els line) x=y.put 2 (regOf s E') E'.length 0:=by rw[hy]; rfl
  have hnn:nextE E' (.mk 2 s e body els line)=E':=rfl
  rw[hcS,hnn]
  obtain⟨i,hi1⟩:∃i,firstI s E'=some i:=by
   cases hf:firstI s E' with
   | some i=>exact⟨i,rfl⟩
   | none=>simp[headS,hf]at hhd
  have hreg:regOf s E'=i:=by unfold regOf; rw[hi1]; rfl
  have hix:idxZ s E'=(i:Int):=by unfold idxZ; rw[hi1]
  obtain⟨vn',vk',ln5',ln6',Ln',Lk',bn',bk'⟩:=mk_regs A1
  have hcel:=(LinM.cel1 Ln' bn').1
  simp only[sA,sB,seval,Int.cast_ofNat_Int,nc,nil_cell,fldA,ln5',g1,l1]
  refine (sidx_at hcel s om).mono ?_
  rintro _ _ ⟨rfl,rfl⟩
  rw[hix,hreg]
  simp only[sA,sB,seval]
  refine (kput_spec A1 2 i E'.length 0 om).mono ?_
  rintro _ H3 ⟨rfl,O3,A3,F3⟩
  simp only[sA,sB,seval]
  exact⟨_,rfl,O3,A3,F1.trans F3⟩
 ·have hEE:=nxE dD
  subst hEE
  have hcS:cS E' (.mk 3 s e body els line) x=(if els.length=0 then (cL E' body (y.put 33 E'.length 0 0)).land y.code.length else if retL body then cL E' els ((cL E' body (y.put 33 E'.length 0 0)).land y.code.length)
   else (cL E' els (((cL E' body (y.put 33 E'.length 0 0)).put 32 0 0 0).land y.code.length)).land (cL E' body (y.put 33 E'.length 0 0)).code.length):=by rw[hy]; rfl
  have hnn:nextE E' (.mk 3 s e body els line)=E':=rfl
  rw[hcS,hnn]
  simp only[sA,sB,seval,Int.cast_ofNat_Int]
  refine (kjump_spec A1 33 E'.length om).mono ?_
  rintro _ H2 ⟨O2,jb,sb,rfl,j1,j2,s1,s2,jO,sO,rj,rs,A2,F2⟩
  have F02:=F1.trans F2
  have e2:=F2.next
  obtain⟨p1,p2⟩:=put_ln 33 E'.length 0 0 y
  simp only[sA,sB,seval,nc,g6,ld6 F02]
  refine (ih (sizesS body) om rL A2 (y1.mono (km F02)) (y2.mono (km F02)) hokB om om hE hFb om (by rw[p2]; omega) om).mono ?_
  rintro _ H3 ⟨O3,A3,F3⟩
  have F03:=F02.trans F3
  have e3:=F3.next
  obtain⟨b1,b2,b3⟩:=cL_lim E' body (y.put 33 E'.length 0 0)
  have b4:=cL_grow E' body (y.put 33 E'.length 0 0)
  obtain⟨z,hz⟩:∃z,z=cL E' body (y.put 33 E'.length 0 0):=⟨_,rfl⟩
  rw[← hz]at A3 b1 b2 b3 b4 ⊢
  rw[p1]at b1 b4
  rw[p2]at b2
  have rj3:=rj.same (F3.old jb j2 jO)
  have rs3:=rs.same (F3.old sb s2 sO)
  have jO3:=F3.not j2 jO
  have sO3:=F3.not s2 sO
  have lel:=(y3.mono (km F03)).len
  by_cases h0:els.length=0
  ·have h0':(els.length:Int)=0:=om
   simp only[sA,sB,seval,nc,g7,ld7 F03,lel,h0']
   rw[if_pos h0]
   refine (kjump1_spec A3 rj3 rs3 om).mono ?_
   rintro _ H4 ⟨A4,n4,k4⟩
   simp only[sA,sB,seval]
   exact⟨_,rfl,O3,A4,F03.trans ⟨om,fun c _ hc=>k4 c hc,fun _ h=>.inl h⟩⟩
  ·have h0':¬(els.length:Int)=0:=om
   rw[if_neg h0]
   simp only[sA,sB,seval,nc,g7,ld7 F03,lel,h0',g6,ld6 F03]
   refine (kreturns_spec (sizesS body) rL om (y1.mono (km F03)) (y2.xss.mono (km F03))).mono ?_
   rintro _ _ ⟨rfl,rfl⟩
   obtain⟨z1,z2⟩:=land_len y.code.length z
   cases hr:retL body with
   | true=>
    rw[if_pos rfl]
    simp only[sA,sB,seval]
    refine (kjump1_spec A3 rj3 rs3 om).mono ?_
    rintro _ H4 ⟨A4,n4,k4⟩
    have F04:FrO O H O3 H4:=F03.trans ⟨om,fun c _ hc=>k4 c hc,fun _ h=>.inl h⟩
    simp only[sA,sB,seval,nc,g7,ld7 F04]
    refine (ih (sizesS els) om rL A4 (y3.mono (km F04)) (y4.mono (km F04)) hokL om om hE hFl om (by rw[z2]; omega) om).mono ?_
    rintro _ H5 ⟨O5,A5,F5⟩
    simp only[sA,sB,seval]
    refine three_spec.mono ?_
    rintro _ _ rfl
    simp only[sA,sB,seval]
    exact⟨_,rfl,O5,A5,F04.trans F5⟩
   | false=>
    rw[if_neg (by simp)]
    simp only[sA,sB,seval]
    refine (kjump_spec A3 32 0 om).mono ?_
    rintro _ H4 ⟨O4,jc,sc,rfl,i1,i2,v1,v2,iO,vO,ri,rv,A4,F4⟩
    obtain⟨w1,w2⟩:=put_ln 32 0 0 0 z
    have e4:=F4.next
    have F04:=F03.trans F4
    have rj4:=rj3.same (F4.old jb om jO3)
    have rs4:=rs3.same (F4.old sb om sO3)
    simp only[sA,sB,seval]
    refine (kjump1_spec A4 rj4 rs4 om).mono ?_
    rintro _ H5 ⟨A5,n5,k5⟩
    have F45:FrO O4 H4 O4 H5:=⟨om,fun c _ hc=>k5 c hc,fun _ h=>.inl h⟩
    have F05:=F04.trans F45
    have ri5:=ri.same (k5 _ iO)
    have rv5:=rv.same (k5 _ vO)
    obtain⟨u1,u2⟩:=land_len y.code.length (z.put 32 0 0 0)
    simp only[sA,sB,seval,nc,g7,ld7 F05]
    refine (ih (sizesS els) om rL A5 (y3.mono (km F05)) (y4.mono (km F05)) hokL om om hE hFl om (by rw[u2,w2]; omega) om).mono ?_
    rintro _ H6 ⟨O6,A6,F6⟩
    have gr:=cL_grow E' els ((z.put 32 0 0 0).land y.code.length)
    simp only[sA,sB,seval]
    refine (kjump1_spec A6 (ri5.same (F6.old _ om iO)) (rv5.same (F6.old _ om vO)) om).mono ?_
    rintro _ H7 ⟨A7,n7,k7⟩
    simp only[sA,sB,seval]
    exact⟨_,rfl,O6,A7,F05.trans (F6.trans ⟨om,fun c _ hc=>k7 c hc,fun _ h=>.inl h⟩)⟩
 ·have hEE:=nxE dD
  subst hEE
  have hcS:cS E' (.mk 4 s e body els line) x=((cL E' body (y.put 33 E'.length 0 0)).put 32 0 0 x.code.length).land y.code.length:=by rw[hy]; rfl
  have hnn:nextE E' (.mk 4 s e body els line)=E':=rfl
  rw[hcS,hnn]
  simp only[sA,sB,seval,Int.cast_ofNat_Int]
  refine (kjump_spec A1 33 E'.length om).mono ?_
  rintro _ H2 ⟨O2,jb,sb,rfl,j1,j2,s1,s2,jO,sO,rj,rs,A2,F2⟩
  have F02:=F1.trans F2
  have e2:=F2.next
  obtain⟨p1,p2⟩:=put_ln 33 E'.length 0 0 y
  simp only[sA,sB,seval,nc,g6,ld6 F02]
  refine (ih (sizesS body) om rL A2 (y1.mono (km F02)) (y2.mono (km F02)) hokB om om hE hFb om (by rw[p2]; omega) om).mono ?_
  rintro _ H3 ⟨O3,A3,F3⟩
  have F03:=F02.trans F3
  have e3:=F3.next
  obtain⟨b1,b2,b3⟩:=cL_lim E' body (y.put 33 E'.length 0 0)
  have b4:=cL_grow E' body (y.put 33 E'.length 0 0)
  obtain⟨z,hz⟩:∃z,z=cL E' body (y.put 33 E'.length 0 0):=⟨_,rfl⟩
  rw[← hz]at A3 b1 b2 b3 b4 ⊢
  rw[p1]at b1 b4
  have rj3:=rj.same (F3.old jb j2 jO)
  have rs3:=rs.same (F3.old sb s2 sO)
  have jO3:=F3.not j2 jO
  have sO3:=F3.not s2 sO
  simp only[sA,sB,seval]
  refine (kput_spec A3 32 0 0 x.code.length om).mono ?_
  rintro _ H4 ⟨rfl,O4,A4,F4⟩
  obtain⟨w1,w2⟩:=put_ln 32 0 0 x.code.length z
  simp only[sA,sB,seval]
  refine (kjump1_spec A4 (rj3.same (F4.old jb om jO3)) (rs3.same (F4.old sb om sO3)) om).mono ?_
  rintro _ H5 ⟨A5,n5,k5⟩
  simp only[sA,sB,seval]
  exact⟨_,rfl,O4,A5,F03.trans (F4.trans ⟨om,fun c _ hc=>k5 c hc,fun _ h=>.inl h⟩)⟩
 ·have hEE:=nxE dD
  subst hEE
  have hcS:cS E' (.mk 5 s e body els line) x=y.put 34 E'.length 0 0:=by rw[hy]; rfl
  have hnn:nextE E' (.mk 5 s e body els line)=E':=rfl
  rw[hcS,hnn]
  simp only[sA,sB,seval,Int.cast_ofNat_Int]
  refine (kput_spec A1 34 E'.length 0 0 om).mono ?_
  rintro _ H3 ⟨rfl,O3,A3,F3⟩
  simp only[sA,sB,seval]
  exact⟨_,rfl,O3,A3,F1.trans F3⟩
open Go.Abs Go.Abs.S
theorem nmL_take(E:Env')(n:Nat):(nmL E).take n=nmL (E.take n):=by simp[nmL,List.map_take]
theorem kdL_take(E:Env')(n:Nat):(kdL E).take n=kdL (E.take n):=by simp[kdL,List.map_take]
theorem nextE_take(E:Env')(x:St){n:Nat}(hn:n≤E.length):(nextE E x).take n=E.take n:=by
 obtain⟨k,s,e,body,els,line⟩:=x
 simp only[nextE]
 by_cases hk:k=1
 ·rw[if_pos hk,List.take_append_of_le_length hn]
 ·rw[if_neg hk]
theorem mk_cut{E Ei:Env'}{x:Cs}{cb n0:Nat}{O:Nat→Prop}{vc vd vn vk:AVal}{mb mp:Nat}{H:AHeap}(A:MkR Ei x cb n0 O vc vd vn vk mb mp H)(htk:Ei.take E.length=E)(hl:E.length≤Ei.length) :
  ∃vn' vk' H1 H2,aSl 1 vn none (some (.int .i64 (E.length:Int))) none=some vn'∧aSl 1 vk none (some (.int .i64 (E.length:Int))) none=some vk'∧oStore 1 H (cellR cb 7 5) vn'=some H1∧oStore 1 H1 (cellR cb 7 6) vk'=some H2∧MkS E x cb n0 O H2∧FrO O H O H2:=by
 obtain⟨vn',s1,L1,b1⟩:=A.ln.cut om hl
 obtain⟨vk',s2,L2,b2⟩:=A.lk.cut om hl
 rw[Nat.mul_one,nmL_take,htk]at L1
 rw[Nat.mul_one,kdL_take,htk]at L2
 obtain⟨H1,m1,r1,n1,k1⟩:=row_st A.row (n:=7) rfl (i:=5) om (x:=vn') L1.one (l':=[vc,.int .i64 (x.regs:Int),vd,.map (some mb),.map (some mp),vn',vk]) rfl
 obtain⟨H2,m2,r2,n2,k2⟩:=row_st r1 (n:=7) rfl (i:=6) om (x:=vk') L2.one (l':=[vc,.int .i64 (x.regs:Int),vd,.map (some mb),.map (some mp),vn',vk']) rfl
 have k:∀c,c≠cb→H2.get c=H.get c:=fun c hc=>by rw[k2 c hc,k1 c hc]
 refine⟨vn',vk',H1,H2,s1,s2,m1,m2,⟨vc,vd,vn',vk',mb,mp,r2,A.lc.same om (A.bc.mono fun c hc=>k c hc.2.1),A.ld.same om (A.bd.mono fun c hc=>k c hc.2.1),L1.same om ((b1 _ A.bn).mono fun c hc=>k c hc.2.1),L2.same om ((b2 _ A.bk).mono fun c hc=>k c hc.2.1),
  (k _ A.ne.1.symm).trans A.bl,(k _ A.ne.2.1.symm).trans A.pl,A.oc,A.ne,fun c hc=>by have:=A.oN c hc; omega,A.bc,A.bd,b1 _ A.bn,b2 _ A.bk,A.cd,(show Dj vc vn' from A.cn.mono fun c hc=>b1 _ hc),(show Dj vc vk' from A.ck.mono fun c hc=>b2 _ hc),(show Dj vd vn' from A.dn.mono fun c hc=>b1 _ hc),(show Dj vd vk' from A.dk.mono fun c hc=>b2 _ hc),?_⟩,⟨om,fun c _ h2=>k c fun e=>h2 (e ▸ A.oc.1),fun _ h=>.inl h⟩⟩
 exact b1 _ (A.nk.mono fun c hc=>b2 _ hc)
theorem kl_step{N:Nat}(ih:∀M,M<N→KL M):KL N:=by
 intro l C v E F b x cb n0 O H hsz A z1 z2 hok hs hd hE hck hc1 hc2 hc3
 obtain⟨vn,vk,ln5,ln6,Ln,Lk,bn,bk⟩:=mk_regs A
 have lnn:=Ln.len
 have ln:=z1.len
 have hcb:=A.lt
 have hON:=A.oN
 have hlenl:=len_sizesS l
 refine acalls_ofN rfl za45 rfl ?_
 simp only[c45,sA,sB,seval,nil_cell,fldA,ln5,lnn,ln]
 refine aw_loop (fun m (T:Env) K=>∃(i:Nat) (Ei:Env') (xi:Cs) (Oi:Nat→Prop),m=l.length-i∧i≤l.length∧T 0=cellR cb 7 0∧T 1=v∧T 4=.int .i64 (E.length:Int)∧T 12=.int .i64 (l.length:Int)∧T 13=.int .i64 (i:Int)∧MkS Ei xi cb n0 Oi K∧FrO O H Oi K∧Ei.take E.length=E∧E.length≤Ei.length∧Scp Ei ∧
   cL E l x=cL Ei (l.drop i) xi∧(∃b' F',ckL Ei b' (l.drop i)=.ok F')∧xi.code.length+3*sizesS (l.drop i)≤40000∧xi.cons.length+sizesS (l.drop i)≤40000∧Ei.length+sizesS (l.drop i)≤40000) l.length
  ⟨0,E,x,O,rfl,Nat.zero_le _,by simp only[sA,sB,seval]; try rfl,by simp only[sA,sB,seval]; try rfl,by simp only[sA,sB,seval]; try rfl,by simp only[sA,sB,seval]; try rfl,by simp only[sA,sB,seval]; try rfl,A,FrO.refl _ _,by rw[List.take_length],Nat.le_refl _,hE,rfl,⟨b,F,hck⟩,hc1,hc2,hc3⟩ ?_
 rintro m T K ⟨i,Ei,xi,Oi,rfl,hi,t0,t1,t4,t12,t13,AK,FK,htk,hlE,hEi,hcl,⟨b',F',hckK⟩,hd1,hd2,hd3⟩
 by_cases hlt:i<l.length
 case neg=>
  obtain rfl:i=l.length:=om
  have hlt':¬(l.length:Int)<(l.length:Int):=om
  rw[List.drop_length]at hcl
  obtain⟨vc1,vd1,vn1,vk1,mb1,mp1,AK⟩:=AK
  have l5:oLoad false 1 K (cellR cb 7 5)=some vn1:=row_load AK.row rfl rfl
  have l6:oLoad false 1 K (cellR cb 7 6)=some vk1:=row_load AK.row rfl rfl
  obtain⟨vn',vk',H1,H2,s1,s2,m1,m2,A2,F2⟩:=mk_cut AK htk hlE
  simp only[sA,sB,seval,t0,t1,t4,t12,t13,hlt',nil_cell,fldA,l5,l6,s1,s2,m1,m2]
  refine⟨_,rfl,Oi,?_,FK.trans F2⟩
  rw[hcl]; exact A2
 have hlt':(i:Int)<(l.length:Int):=om
 obtain⟨y,he⟩:∃e,l[i]?=some e:=⟨_,List.getElem?_eq_getElem hlt⟩
 have hdrop:l.drop i=y::l.drop (i+1):=by
  rw[← (List.getElem?_eq_some_iff.1 he).2,← List.drop_eq_getElem_cons hlt]
 rw[hdrop]at hcl hckK hd1 hd2 hd3
 obtain⟨hcy,b2,hck2⟩:=ckL_cons hckK
 have hmem:=List.mem_of_getElem? he
 have hsm:=size_memS hmem
 have hdm:=deepsS_mem hmem
 have low:∀c,c<n0→c<n0∧K.get c=H.get c:=fun c hc=>⟨hc,FK.old c om fun q=>by have:=hON c q; omega⟩
 have z1K:=z1.mono low
 have z2K:=z2.mono low
 have ix:=z1K.idx hlt
 have pt:=z1K.pt hlt
 have pblk:=z1K.blk hlt
 have hx3:=z2K.at he
 have hokx:=okS_at hok hmem
 have wi:IntKind.i64.wrap ((i:Int)+1)=((i+1:Nat):Int):=addN i 1 om
 have hscp:=ckS_scp hEi hcy
 have hnl:=nextE_len Ei y
 have hnt:=nextE_take Ei y hlE
 have hlim:=cS_lim Ei y xi
 have hpos:=sizeS_pos y
 simp only[sizesS]at hd1 hd2 hd3
 obtain⟨k,sx,e,body,els,line⟩:=y
 obtain⟨ce,vb,Cb,ve,Ce,hcell,x1,y1,y2,y3,y4⟩:=hx3
 rw[hcell]at pt
 simp only[sA,sB,seval,t0,t1,t4,t12,t13,hlt',ix]
 refine (kst_step ih om AK pt pblk x1 y1 y2 y3 y4 hokx om om hEi hcy om om om).mono ?_
 rintro _ K2 ⟨O2,A2,F2⟩
 simp only[sA,sB,seval,t0,t1,t4,t12,t13,wi]
 exact⟨l.length-(i+1),om,i+1,nextE Ei (.mk k sx e body els line),cS Ei (.mk k sx e body els line) xi,O2,rfl,om,tt,tt,tt,tt,tt,A2,FK.trans F2,by rw[hnt]; exact htk,om,hscp,hcl,⟨b2,F',hck2⟩,om,om,om⟩
theorem kl_all(N:Nat):KL N:=by
 induction N using Nat.strongRecOn with
 | _ N ih=>exact kl_step ih
theorem checkF_0{l:List St}(h:(checkF l).1=0):checkF l=(0,0)∧rightF l=true∧retL l=true∧∃F,ckL given4 false l=.ok F:=by
 unfold checkF at h ⊢
 by_cases hr:rightF l=true
 ·rw[if_pos hr]at h ⊢
  cases hc:ckL given4 false l with
  | error f=>rw[hc]at h; exact absurd h (ckL_err hc)
  | ok F=>
   rw[hc]at h
   simp only at h ⊢
   by_cases ht:retL l=true
   ·rw[if_pos ht]; exact⟨rfl,hr,ht,F,rfl⟩
   ·rw[if_neg ht]at h; simp at h
 ·rw[if_neg hr]at h; simp at h
structure CdR(x:Cs)(vc vd:AVal)(P:Nat→Prop)(H:AHeap):Prop where
 lc:LinM 1 H vc (conL x.cons) x.cons.length
 ld:LinM 4 H vd (codL x.code) x.code.length
 bc:Blk vc P
 bd:Blk vd P
 cd:Dj vc vd
theorem CdR.nil(P:Nat→Prop)(H:AHeap):CdR csN nilS nilS P H:=⟨.inl ⟨rfl,rfl,rfl⟩,.inl ⟨rfl,rfl,rfl⟩,blk_nil _,blk_nil _,blk_nil _⟩
def CdA(x:Cs)(vc vd:AVal):AVal:=.agg [vc,.int .i64 (x.regs:Int),vd]
theorem kcompile_spec{l:List St}{C:List AVal}{v:AVal}{n0:Nat}{H:AHeap}(z1:SlK (·<n0) H 9 v l.length C)(z2:XSws (·<n0) H l C)(hn:n0≤H.next) :
  ACalls Tryz.prog natT 20 [v] H fun u H'=>(∃vc vd,u=.tuple [CdA (compileF l).1 vc vd,.agg (flI (compileF l).2)]∧CdR (compileF l).1 vc vd (In H.next H'.next) H')∧Ext H.next H H':=by
 refine acalls_ofN rfl za20 rfl ?_
 obtain⟨H1,m1,r1,n1,k1⟩:=row_newL H [nilS,.int .i64 0,nilS] (n:=3) rfl
 obtain⟨H2,m2,r2,n2,k2⟩:=row_newL H1 [.int .i64 0,.int .i64 0] (n:=2) rfl
 have k02:∀c,c<H.next→H2.get c=H.get c:=fun c hc=>by rw[k2 c om,k1 c om]
 have km:∀{K:AHeap},(∀c,c<H.next→K.get c=H.get c)→∀c,c<n0→c<H.next∧K.get c=H.get c:=fun h c hc=>⟨om,h c om⟩
 obtain⟨ab,hab⟩:∃b,b=H.next:=⟨_,rfl⟩
 obtain⟨fb,hfb⟩:∃b,b=H1.next:=⟨_,rfl⟩
 rw[← hab]at m1 r1 k1
 rw[← hfb]at m2 r2 k2
 have m1':oNew H [.slice none 0 (.known 0),.int .i64 0,.slice none 0 (.known 0)]=_:=m1
 simp only[c20,sA,sB,seval,m1',m2]
 refine (tcheck_spec (z1.mono (km k02)) (z2.mono (km k02)) om).mono ?_
 rintro _ H3 ⟨rfl,E3⟩
 have e3:=E3.next
 obtain⟨H4,m4,r4,n4,k4⟩:=row_newL H3 [.int .i64 0,.int .i64 0] (n:=2) rfl
 obtain⟨H5,m5,r5,n5,k5⟩:=row_storeN r4 (n:=2) rfl (xs:=flI (checkF l)) rfl rfl
 have k05:∀c,c<H.next→H5.get c=H.get c:=fun c hc=>by rw[k5 c om,k4 c om,E3.old c om,k02 c hc]
 have rA:Row H5 ab [nilS,.int .i64 0,nilS]:=r1.same (by rw[k5 ab om,k4 ab om,E3.old ab om,k2 ab om])
 have rF:Row H5 fb [.int .i64 0,.int .i64 0]:=r2.same (by rw[k5 fb om,k4 fb om,E3.old fb om])
 have l5:oLoad false 1 H5 (cellR H3.next 2 0)=some (.int .i64 ((checkF l).1:Int)):=row_load r5 rfl rfl
 simp only[sA,sB,seval,m4,m5,fld0,l5]
 unfold compileF
 by_cases hc:(checkF l).1=0
 case neg=>
  have hc':¬((checkF l).1:Int)=0:=om
  obtain⟨H6,m6,r6,n6,k6⟩:=row_storeN rA (n:=3) rfl (xs:=[nilS,.int .i64 0,nilS]) rfl rfl
  obtain⟨H7,m7,r7,n7,k7⟩:=row_storeN (rF.same (k6 fb om)) (n:=2) rfl (xs:=flI (checkF l)) rfl rfl
  have l5a:oLoad true 2 H5 (cellR H3.next 2 0)=some (.agg (flI (checkF l))):=row_loadN r5 rfl
  have l6a:oLoad true 2 H6 (cellR H3.next 2 0)=some (.agg (flI (checkF l))):=row_loadN (r5.same (k6 _ om)) rfl
  have bz:aBuild [.slice none 0 (.known 0),.int .i64 0,.slice none 0 (.known 0)] []=some (.agg [nilS,.int .i64 0,nilS]):=rfl
  rw[if_neg hc]
  simp only[sA,sB,seval,hc']
  refine aw_drawC rfl ?_
  simp only[sR,sA,sB,seval,bz,l5a,m6,m7]
  simp only[ck_nil',ck_cons,ckP_load,ckP_nil,ck_end,and_true,true_and,List.map_cons,List.map_nil,sA,sB,seval]
  refine⟨⟨_,rfl,fun _=>⟨_,l6a,by simp[aeq,flI,aeqs,eqF_eq]⟩⟩,?_⟩
  refine fin_c2 _ _ _ _ _ _ _ (v:=.agg [nilS,.int .i64 0,nilS]) (v':=.agg (flI (checkF l))) (by simp only[sA,sB,seval]; exact row_loadN (r6.same (k7 ab om)) rfl) (by simp only[sA,sB,seval]; exact row_loadN r7 rfl) ?_
  exact⟨⟨nilS,nilS,rfl,CdR.nil _ _⟩,om,fun c hcc=>by rw[k7 c om,k6 c om,k05 c om]⟩
 obtain⟨hc0,hr,hret,F,hck⟩:=checkF_0 hc
 have hok:oksS l=true:=by simp only[rightF,Bool.and_eq_true]at hr; exact hr.1
 have hfit:sizesS l≤1000∧deepsS l≤40:=by simp only[rightF,fitsF,Bool.and_eq_true,decide_eq_true_eq]at hr; exact hr.2
 have hc':((checkF l).1:Int)=0:=om
 have bt:aBuild [.slice none 0 (.known 0),.int .i64 0,.slice none 0 (.known 0)] [(1,1,.int .i64 4)]=some (.agg [nilS,.int .i64 4,nilS]):=rfl
 rw[if_pos hc]
 simp only[sA,sB,seval,hc',bt]
 refine kblt_spec.mono ?_
 rintro _ H6 ⟨rfl,hB,n6,k6⟩
 obtain⟨H7,hH7⟩:∃J,J=H6.push (.map [] 0):=⟨_,rfl⟩
 have n7:H7.next=H6.next+1:=by rw[hH7]; rfl
 obtain⟨H8,hH8⟩:∃J,J=H7.push (.cells (nmL given4) 0 false):=⟨_,rfl⟩
 have n8:H8.next=H7.next+1:=by rw[hH8]; rfl
 obtain⟨H9,hH9⟩:∃J,J=H8.push (.cells (kdL given4) 0 false):=⟨_,rfl⟩
 have n9:H9.next=H8.next+1:=by rw[hH9]; rfl
 have mm:aHf .mkMap H6 []=some (.map (some H6.next),H7):=by rw[hH7]; rfl
 have b8:aBuildSl 4 [.str []] H7 [(0,1,.str [117]),(1,1,.str [118]),(2,1,.str [112]),(3,1,.str [110])]=some (.slice (some ⟨H7.next,4,0⟩) 4 (.known 4),H8):=by rw[hH8]; rfl
 have b9:aBuildSl 4 [.int .u8 0] H8 [(0,1,.int .u8 1),(1,1,.int .u8 1),(2,1,.int .u8 2),(3,1,.int .u8 2)]=some (.slice (some ⟨H8.next,4,0⟩) 4 (.known 4),H9):=by rw[hH9]; rfl
 have L8:LinM 1 H8 (.slice (some ⟨H7.next,4,0⟩) 4 (.known 4)) (nmL given4) 4:=by rw[hH8]; exact LinM.built (m:=1) (k:=4) H7 (xs:=nmL given4) rfl
 have L9:LinM 1 H9 (.slice (some ⟨H8.next,4,0⟩) 4 (.known 4)) (kdL given4) 4:=by rw[hH9]; exact LinM.built (m:=1) (k:=4) H8 (xs:=kdL given4) rfl
 have g7:H7.get H6.next=some (.map [] 0):=by rw[hH7,AHeap.get_push,if_pos rfl]
 have k69:∀c,c<H6.next→H9.get c=H6.get c:=fun c hc=>by rw[hH9,get_push_lt om,hH8,get_push_lt om,hH7,get_push_lt hc]
 have k79:∀c,c<H7.next→H9.get c=H7.get c:=fun c hc=>by rw[hH9,get_push_lt om,hH8,get_push_lt om]
 obtain⟨H10,m10,r10,n10,k10⟩:=row_newL H9 [nilS,.int .i64 4,nilS,.map (some H5.next),.map (some H6.next),.slice (some ⟨H7.next,4,0⟩) 4 (.known 4),.slice (some ⟨H8.next,4,0⟩) 4 (.known 4)] (n:=7) rfl
 have bb:aBuild [.slice none 0 (.known 0),.int .i64 0,.slice none 0 (.known 0),.map none,.map none,.slice none 0 (.known 0),.slice none 0 (.known 0)] [(0,3,.agg [nilS,.int .i64 4,nilS]),(3,1,.map (some H5.next)),(4,1,.map (some H6.next)),(5,1,.slice (some ⟨H7.next,4,0⟩) 4 (.known 4)),(6,1,.slice (some ⟨H8.next,4,0⟩) 4 (.known 4))] =
  some (.agg [nilS,.int .i64 4,nilS,.map (some H5.next),.map (some H6.next),.slice (some ⟨H7.next,4,0⟩) 4 (.known 4),.slice (some ⟨H8.next,4,0⟩) 4 (.known 4)]):=rfl
 have bN:Blk (.slice (some ⟨H7.next,4,0⟩) 4 (.known 4)) (·=H7.next):=blk_some rfl
 have bK:Blk (.slice (some ⟨H8.next,4,0⟩) 4 (.known 4)) (·=H8.next):=blk_some rfl
 have ob:∀c,H5.next≤c→c<H10.next→c≠H9.next→c≠H5.next→c≠H6.next→(H5.next≤c∧c<H10.next)∧c≠H9.next∧c≠H5.next∧c≠H6.next:=fun c a1 a2 a3 a4 a5=>⟨⟨a1,a2⟩,a3,a4,a5⟩
 have k05':∀c,c<H5.next→H10.get c=H5.get c:=fun c hc=>by rw[k10 c om,k69 c om,k6 c om]
 have A10:MkS given4 cs0 H9.next H.next (fun c=>H5.next≤c∧c<H10.next) H10:=
  ⟨nilS,nilS,_,_,H5.next,H6.next,r10,.inl ⟨rfl,rfl,rfl⟩,.inl ⟨rfl,rfl,rfl⟩,L8.same om (bN.mono fun c hc=>by show H10.get c=H8.get c; rw[k10 c om,hH9,get_push_lt om]),L9.same om (bK.mono fun c hc=>k10 c om),
   ((k10 _ om).trans (k69 _ om)).trans hB,((k10 _ om).trans (k79 _ om)).trans g7,⟨⟨om,om⟩,⟨om,om⟩,⟨om,om⟩⟩,⟨om,om,om⟩,fun c hc=>om,blk_nil _,blk_nil _,
   bN.mono fun c hc=>ob c om om om om om,bK.mono fun c hc=>ob c om om om om om,blk_nil _,blk_nil _,blk_nil _,blk_nil _,blk_nil _,bN.mono fun c hc=>bK.mono fun d hd=>om⟩
 have k0A:∀c,c<H.next→H10.get c=H.get c:=fun c hc=>by rw[k05' c om,k05 c hc]
 simp only[sA,sB,seval,mm,b8,b9,bb,cells_agg,m10]
 refine (kl_all (sizesS l) rL A10 (z1.mono (km k0A)) (z2.mono (km k0A)) hok hfit.1 hfit.2 Scp.given hck (by show 0+_≤_; omega) (by show 0+_≤_; omega) (by show 4+_≤_; omega)).mono ?_
 rintro _ H11 ⟨O11,A11,F11⟩
 have n11:=F11.next
 have kOld:∀c,c<H5.next→H11.get c=H5.get c:=fun c hc=>by rw[F11.old c om (by show ¬(H5.next≤c∧c<H10.next); omega),k05' c hc]
 obtain⟨vc,vd,vn,vk,mb,mp,A11⟩:=A11
 have lr:oLoad false 1 H11 (cellR H9.next 7 1)=some (.int .i64 ((cL given4 l cs0).regs:Int)):=row_load A11.row rfl rfl
 have rA11:=rA.same (kOld ab om)
 have rF11:=rF.same (kOld fb om)
 simp only[sA,sB,seval,nil_cell,fld0,fldA,lr]
 by_cases h250:250<(cL given4 l cs0).regs
 ·have h250':(250:Int)<((cL given4 l cs0).regs:Int):=om
  have bz:aBuild [.slice none 0 (.known 0),.int .i64 0,.slice none 0 (.known 0)] []=some (.agg [nilS,.int .i64 0,nilS]):=rfl
  have bf:aBuild [.int .i64 0,.int .i64 0] [(0,1,.int .i64 102)]=some (.agg [.int .i64 102,.int .i64 0]):=rfl
  obtain⟨H12,m12,r12,n12,k12⟩:=row_storeN rA11 (n:=3) rfl (xs:=[nilS,.int .i64 0,nilS]) rfl rfl
  obtain⟨H13,m13,r13,n13,k13⟩:=row_storeN (rF11.same (k12 fb om)) (n:=2) rfl (xs:=[.int .i64 102,.int .i64 0]) rfl rfl
  rw[if_pos h250]
  simp only[sA,sB,seval,h250',bz,bf,m12,m13]
  refine fin_c2 _ _ _ _ _ _ _ (v:=.agg [nilS,.int .i64 0,nilS]) (v':=.agg [.int .i64 102,.int .i64 0]) (by simp only[sA,sB,seval]; exact row_loadN (r12.same (k13 ab om)) rfl) (by simp only[sA,sB,seval]; exact row_loadN r13 rfl) ?_
  exact⟨⟨nilS,nilS,rfl,CdR.nil _ _⟩,om,fun c hcc=>by rw[k13 c om,k12 c om,kOld c om,k05 c om]⟩
 ·have h250':¬(250:Int)<((cL given4 l cs0).regs:Int):=om
  have l3:oLoad true 3 H11 (cellR H9.next 7 0)=some (CdA (cL given4 l cs0) vc vd):=by
   have h:=rd_row A11.row (n:=7) rfl (i:=0) (k:=3) (by simp)
   simp only[oLoad,cellR]
   rw[h]; rfl
  have bf:aBuild [.int .i64 0,.int .i64 0] []=some (.agg [.int .i64 0,.int .i64 0]):=rfl
  obtain⟨H12,m12,r12,n12,k12⟩:=row_storeN rA11 (n:=3) rfl (xs:=[vc,.int .i64 ((cL given4 l cs0).regs:Int),vd]) rfl (by simp only[List.all_cons,List.all_nil,A11.lc.one,A11.ld.one]; rfl)
  obtain⟨H13,m13,r13,n13,k13⟩:=row_storeN (rF11.same (k12 fb om)) (n:=2) rfl (xs:=[.int .i64 0,.int .i64 0]) rfl rfl
  have m12':oStore 3 H11 (cellR ab 3 0) (CdA (cL given4 l cs0) vc vd)=some H12:=m12
  have kk:∀c,c≠ab→c≠fb→H13.get c=H11.get c:=fun c h1 h2=>by rw[k13 c h2,k12 c h1]
  have bIn:∀{w:AVal},Blk w (fun b=>O11 b∧b≠H9.next∧b≠mb∧b≠mp)→Blk w fun c=>In H.next H13.next c∧c≠ab∧c≠fb:=fun h=>h.mono fun c hc=>by
   have q1:=A11.oN c hc.1
   have q2:=F11.own c hc.1
   have q3:H5.next≤c:=by
    rcases q2 with q2 | q2
    ·exact q2.1
    ·omega
   exact⟨⟨q1.1,om⟩,om,om⟩
  rw[if_neg h250]
  simp only[sA,sB,seval,h250',l3,bf,m12',m13]
  refine fin_c2 _ _ _ _ _ _ _ (v:=CdA (cL given4 l cs0) vc vd) (v':=.agg [.int .i64 0,.int .i64 0]) (by simp only[sA,sB,seval]; exact row_loadN (r12.same (k13 ab om)) rfl) (by simp only[sA,sB,seval]; exact row_loadN r13 rfl) ?_
  have i1:=bIn A11.bc
  have i2:=bIn A11.bd
  exact⟨⟨vc,vd,rfl,⟨A11.lc.same om (i1.mono fun c hc=>kk c hc.2.1 hc.2.2),A11.ld.same om (i2.mono fun c hc=>kk c hc.2.1 hc.2.2),i1.mono fun c hc=>hc.1,i2.mono fun c hc=>hc.1,A11.cd⟩⟩,om,fun c hcc=>by rw[kk c om om,kOld c om,k05 c om]⟩
open Go.Abs Go.Abs.S
def zL(xs:List Int):List AVal:=xs.map (.int .i64)
theorem zL_len(xs:List Int):(zL xs).length=xs.length:=by simp[zL]
theorem kright1_spec{xs:List Int}{v vc vd:AVal}{R:Int}{n bb:Nat}{H:AHeap}(c:Cel n H v (zL xs))(r:Row H bb [vc,.int .i64 R,vd])(hl:xs.length≤3):ACalls Tryz.prog natT 91 [v,cellR bb 3 0] H fun u H'=>u=.bool (xs.all (rgF R))∧H=H':=by
 have ln:=c.len
 rw[zL_len]at ln
 refine acalls_ofN rfl za91 rfl ?_
 simp only[c91,sA,sB,seval,ln]
 refine aw_loop (fun m (T:Env) H'=>H=H'∧∃i:Nat,m=xs.length-i∧i≤xs.length∧T 1=cellR bb 3 0∧T 6=v∧T 7=.int .i64 (xs.length:Int)∧T 8=.int .i64 (i:Int)∧(xs.take i).all (rgF R)=true) xs.length
  ⟨rfl,0,rfl,Nat.zero_le _,by simp only[sA,sB,seval]; try rfl,by simp only[sA,sB,seval]; try rfl,by simp only[sA,sB,seval]; try rfl,by simp only[sA,sB,seval]; try rfl,rfl⟩ ?_
 rintro m T _ ⟨rfl,i,rfl,hi,t1,t6,t7,t8,hx⟩
 by_cases hlt:i<xs.length
 case neg=>
  obtain rfl:i=xs.length:=om
  have hlt':¬(xs.length:Int)<(xs.length:Int):=om
  rw[List.take_length]at hx
  simp only[sA,sB,seval,t1,t6,t7,t8,hlt',hx]
  exact⟨tt,tt⟩
 have hlt':(i:Int)<(xs.length:Int):=om
 obtain⟨y,hy⟩:∃y,xs[i]?=some y:=⟨_,List.getElem?_eq_getElem hlt⟩
 have io:=c.idx .i64 (i:=i) (by rw[zL_len]; exact hlt)
 have lo:=c.load (i:=i) (x:=.int .i64 y) (by simp[zL,hy])
 have lR:oLoad false 1 H (cellR bb 3 1)=some (.int .i64 R):=row_load r rfl rfl
 have wk:IntKind.i64.wrap ((i:Int)+1)=((i+1:Nat):Int):=w64
 have hts:(xs.take (i+1)).all (rgF R)=rgF R y:=by rw[List.take_add_one,hy,List.all_append,hx]; simp
 have bad:rgF R y=false→xs.all (rgF R)=false:=fun h=>by
  rw[List.all_eq_false]
  exact⟨y,List.mem_of_getElem? hy,by rw[h]; simp⟩
 by_cases h1:y<0
 ·have hb:=bad (by simp only[rgF]; rw[decide_eq_false om]; rfl)
  simp only[sA,sB,seval,t1,t6,t7,t8,hlt',io,lo,h1,hb]
  exact⟨tt,tt⟩
 by_cases h2:R≤y
 ·have hb:=bad (by simp only[rgF]; rw[decide_eq_false (by omega:¬y<R)]; simp)
  simp only[sA,sB,seval,t1,t6,t7,t8,hlt',io,lo,h1,fldA,lR,h2,hb]
  exact⟨tt,tt⟩
 ·have hb:rgF R y=true:=by simp only[rgF]; rw[decide_eq_true om,decide_eq_true (by omega:y<R)]; rfl
  rw[hb]at hts
  simp only[sA,sB,seval,t1,t6,t7,t8,hlt',io,lo,h1,fldA,lR,h2,wk]
  exact⟨xs.length-(i+1),om,tt,i+1,rfl,om,tt,tt,tt,tt,hts⟩
theorem kright2_spec{x n:Int}{H:AHeap}:ACalls Tryz.prog natT 92 [.int .i64 x,.int .i64 n] H fun u H'=>u=.bool (rgF n x)∧H=H':=by
 refine acalls_ofN rfl za92 rfl ?_
 unfold rgF
 by_cases h1:0≤x
 ·simp only[c92,sA,sB,seval,h1]
  exact⟨by simp,tt⟩
 ·simp only[c92,sA,sB,seval,h1]
  exact⟨by simp,tt⟩
theorem bs_cel{H:AHeap}{xs:List Int}:Cel (H.next+1) (H.push (.cells (zL xs) 0 false)) (.slice (some ⟨H.next,xs.length,0⟩) xs.length (.known xs.length)) (zL xs):=by
 refine .inr ⟨⟨H.next,xs.length,0⟩,.known xs.length,by rw[zL_len],by show H.next<H.next+1; omega,?_⟩
 have:=rd_row (H:=H.push (.cells (zL xs) 0 false)) (b:=H.next) (l:=zL xs) ⟨0,by rw[AHeap.get_push,if_pos rfl],Nat.zero_le _⟩ (n:=xs.length) (by rw[zL_len]) (i:=0) (k:=xs.length) om
 rw[zL_len,this,List.drop_zero,List.take_of_length_le (by rw[zL_len]; omega)]
def izA(i:InZ):AVal:=.agg [.int .u8 (i.o:Int),.int .i64 i.a,.int .i64 i.b,.int .i64 i.c]
theorem kright_spec{i:InZ}{vc vd:AVal}{R:Int}{nk nc:Nat}{H:AHeap}(hc:aLenK false vc=some (.int .i64 (nk:Int)))(hd:aLenK false vd=some (.int .i64 (nc:Int)))(hR:R≤250)(o1:vc.one=true)(o2:vd.one=true) :
  ACalls Tryz.prog natT 49 [izA i,.agg [vc,.int .i64 R,vd]] H fun u H'=>u=.bool (okI R nk nc i)∧Ext H.next H H':=by
 obtain⟨o,a,b,c⟩:=i
 obtain⟨H1,m1,r1,n1,k1⟩:=row_newL H [.int .u8 (o:Int),.int .i64 a,.int .i64 b,.int .i64 c] (n:=4) rfl
 obtain⟨H2,m2,r2,n2,k2⟩:=row_newL H1 [vc,.int .i64 R,vd] (n:=3) rfl
 have r12:Row H2 H.next [.int .u8 (o:Int),.int .i64 a,.int .i64 b,.int .i64 c]:=r1.same (k2 _ om)
 have E2:Ext H.next H H2:=⟨om,fun c hc=>by rw[k2 c om,k1 c om]⟩
 have f0:oLoad false 1 H2 (cellR H.next 4 0)=some (.int .u8 (o:Int)):=row_load r12 rfl rfl
 obtain⟨H3,hH3⟩:∃J,J=H2.push (.cells (zL [a]) 0 false):=⟨_,rfl⟩
 obtain⟨H4,hH4⟩:∃J,J=H2.push (.cells (zL [a,b]) 0 false):=⟨_,rfl⟩
 obtain⟨H5,hH5⟩:∃J,J=H2.push (.cells (zL [a,b,c]) 0 false):=⟨_,rfl⟩
 have E3:Ext H2.next H2 H3:=by rw[hH3]; exact⟨by show _≤H2.next+1; omega,fun c hc=>get_push_lt hc⟩
 have E4:Ext H2.next H2 H4:=by rw[hH4]; exact⟨by show _≤H2.next+1; omega,fun c hc=>get_push_lt hc⟩
 have E5:Ext H2.next H2 H5:=by rw[hH5]; exact⟨by show _≤H2.next+1; omega,fun c hc=>get_push_lt hc⟩
 have to:∀{K:AHeap},Ext H2.next H2 K→Ext H.next H K:=fun e=>⟨by have:=e.next; omega,fun c hc=>by rw[e.old c om,E2.old c hc]⟩
 have bs3:aBuildSl 1 [.int .i64 0] H2 [(0,1,.int .i64 a)]=some (.slice (some ⟨H2.next,1,0⟩) 1 (.known 1),H3):=by rw[hH3]; rfl
 have bs4:aBuildSl 2 [.int .i64 0] H2 [(0,1,.int .i64 a),(1,1,.int .i64 b)]=some (.slice (some ⟨H2.next,2,0⟩) 2 (.known 2),H4):=by rw[hH4]; rfl
 have bs5:aBuildSl 3 [.int .i64 0] H2 [(0,1,.int .i64 a),(1,1,.int .i64 b),(2,1,.int .i64 c)]=some (.slice (some ⟨H2.next,3,0⟩) 3 (.known 3),H5):=by rw[hH5]; rfl
 have c3:Cel (H2.next+1) H3 (.slice (some ⟨H2.next,1,0⟩) 1 (.known 1)) (zL [a]):=by rw[hH3]; exact bs_cel (xs:=[a])
 have c4:Cel (H2.next+1) H4 (.slice (some ⟨H2.next,2,0⟩) 2 (.known 2)) (zL [a,b]):=by rw[hH4]; exact bs_cel (xs:=[a,b])
 have c5:Cel (H2.next+1) H5 (.slice (some ⟨H2.next,3,0⟩) 3 (.known 3)) (zL [a,b,c]):=by rw[hH5]; exact bs_cel (xs:=[a,b,c])
 have p3:=r2.same (E3.old _ om)
 have p4:=r2.same (E4.old _ om)
 have p5:=r2.same (E5.old _ om)
 have q3:=r12.same (E3.old _ om)
 have q4:=r12.same (E4.old _ om)
 have la2:oLoad false 1 H2 (cellR H.next 4 1)=some (.int .i64 a):=row_load r12 rfl rfl
 have lb2:oLoad false 1 H2 (cellR H.next 4 2)=some (.int .i64 b):=row_load r12 rfl rfl
 have lc2:oLoad false 1 H2 (cellR H.next 4 3)=some (.int .i64 c):=row_load r12 rfl rfl
 have lb3:oLoad false 1 H3 (cellR H.next 4 2)=some (.int .i64 b):=row_load q3 rfl rfl
 have lc3:oLoad false 1 H3 (cellR H.next 4 3)=some (.int .i64 c):=row_load q3 rfl rfl
 have lb4:oLoad false 1 H4 (cellR H.next 4 2)=some (.int .i64 b):=row_load q4 rfl rfl
 have lc4:oLoad false 1 H4 (cellR H.next 4 3)=some (.int .i64 c):=row_load q4 rfl rfl
 have lk3:oLoad false 1 H3 (cellR H1.next 3 0)=some vc:=row_load p3 rfl rfl
 have ld3:oLoad false 1 H3 (cellR H1.next 3 2)=some vd:=row_load p3 rfl rfl
 have ld2:oLoad false 1 H2 (cellR H1.next 3 2)=some vd:=row_load r2 rfl rfl
 have lR4:oLoad false 1 H4 (cellR H1.next 3 1)=some (.int .i64 R):=row_load p4 rfl rfl
 have F2:=E2
 have F3:=to E3
 have F4:=to E4
 have F5:=to E5
 have w3:=kright1_spec c3 p3 (by simp)
 have w4:=kright1_spec c4 p4 (by simp)
 have w5:=kright1_spec c5 p5 (by simp)
 have e3:[a].all (rgF R)=rgF R a:=by simp
 have e4:[a,b].all (rgF R)=(rgF R a&&rgF R b):=by simp
 have e5:[a,b,c].all (rgF R)=(rgF R a&&(rgF R b&&rgF R c)):=by simp
 rw[e3]at w3
 rw[e4]at w4
 rw[e5]at w5
 unfold izA
 refine acalls_ofN rfl za49 rfl ?_
 by_cases h:o=1
 ·have hok:okI R nk nc ⟨o,a,b,c⟩=(rgF R a&&(rgF nk b&&decide (c=0))):=by rw[h]; rfl
  rw[hok]
  subst h
  simp only[Int.cast_ofNat_Int]at m1 f0
  simp only[c49,sA,sB,seval,Int.cast_ofNat_Int,cells_agg,m1,m2,fld0,fldA,f0,la2,bs3]
  refine w3.mono ?_
  rintro _ _ ⟨rfl,rfl⟩
  cases ha:rgF R a with
  | false=>
   simp only[sA,sB,seval]
   exact⟨by simp,F3⟩
  | true=>
   simp only[sA,sB,seval,fld0,fldA,lb3,lk3,hc]
   refine kright2_spec.mono ?_
   rintro _ _ ⟨rfl,rfl⟩
   cases hb:rgF nk b with
   | false=>
    simp only[sA,sB,seval]
    exact⟨by simp,F3⟩
   | true=>
    simp only[sA,sB,seval,fldA,lc3]
    exact⟨by simp,F3⟩
 by_cases h:o=2
 ·have hok:okI R nk nc ⟨o,a,b,c⟩=(rgF R a&&(rgF R b&&decide (c=0))):=by rw[h]; rfl
  rw[hok]
  subst h
  simp only[Int.cast_ofNat_Int]at m1 f0
  simp only[c49,sA,sB,seval,Int.cast_ofNat_Int,cells_agg,m1,m2,fld0,fldA,f0,la2,lb2,bs4]
  refine w4.mono ?_
  rintro _ _ ⟨rfl,rfl⟩
  cases ha:(rgF R a&&rgF R b) with
  | false=>
   simp only[sA,sB,seval]
   exact⟨by rw[← Bool.and_assoc,ha]; simp,F4⟩
  | true=>
   simp only[sA,sB,seval,fldA,lc4]
   exact⟨by rw[← Bool.and_assoc,ha]; simp,F4⟩
 by_cases h:o=7
 ·have hok:okI R nk nc ⟨o,a,b,c⟩=(rgF R a&&(rgF R b&&decide (c=0))):=by rw[h]; rfl
  rw[hok]
  subst h
  simp only[Int.cast_ofNat_Int]at m1 f0
  simp only[c49,sA,sB,seval,Int.cast_ofNat_Int,cells_agg,m1,m2,fld0,fldA,f0,la2,lb2,bs4]
  refine w4.mono ?_
  rintro _ _ ⟨rfl,rfl⟩
  cases ha:(rgF R a&&rgF R b) with
  | false=>
   simp only[sA,sB,seval]
   exact⟨by rw[← Bool.and_assoc,ha]; simp,F4⟩
  | true=>
   simp only[sA,sB,seval,fldA,lc4]
   exact⟨by rw[← Bool.and_assoc,ha]; simp,F4⟩
 by_cases h:o=8
 ·have hok:okI R nk nc ⟨o,a,b,c⟩=(rgF R a&&(rgF R b&&decide (c=0))):=by rw[h]; rfl
  rw[hok]
  subst h
  simp only[Int.cast_ofNat_Int]at m1 f0
  simp only[c49,sA,sB,seval,Int.cast_ofNat_Int,cells_agg,m1,m2,fld0,fldA,f0,la2,lb2,bs4]
  refine w4.mono ?_
  rintro _ _ ⟨rfl,rfl⟩
  cases ha:(rgF R a&&rgF R b) with
  | false=>
   simp only[sA,sB,seval]
   exact⟨by rw[← Bool.and_assoc,ha]; simp,F4⟩
  | true=>
   simp only[sA,sB,seval,fldA,lc4]
   exact⟨by rw[← Bool.and_assoc,ha]; simp,F4⟩
 by_cases h:o=18
 ·have hok:okI R nk nc ⟨o,a,b,c⟩=(rgF R a&&(rgF R b&&decide (c=0))):=by rw[h]; rfl
  rw[hok]
  subst h
  simp only[Int.cast_ofNat_Int]at m1 f0
  simp only[c49,sA,sB,seval,Int.cast_ofNat_Int,cells_agg,m1,m2,fld0,fldA,f0,la2,lb2,bs4]
  refine w4.mono ?_
  rintro _ _ ⟨rfl,rfl⟩
  cases ha:(rgF R a&&rgF R b) with
  | false=>
   simp only[sA,sB,seval]
   exact⟨by rw[← Bool.and_assoc,ha]; simp,F4⟩
  | true=>
   simp only[sA,sB,seval,fldA,lc4]
   exact⟨by rw[← Bool.and_assoc,ha]; simp,F4⟩
 by_cases h:o=19
 ·have hok:okI R nk nc ⟨o,a,b,c⟩=(rgF R a&&(rgF R b&&decide (c=0))):=by rw[h]; rfl
  rw[hok]
  subst h
  simp only[Int.cast_ofNat_Int]at m1 f0
  simp only[c49,sA,sB,seval,Int.cast_ofNat_Int,cells_agg,m1,m2,fld0,fldA,f0,la2,lb2,bs4]
  refine w4.mono ?_
  rintro _ _ ⟨rfl,rfl⟩
  cases ha:(rgF R a&&rgF R b) with
  | false=>
   simp only[sA,sB,seval]
   exact⟨by rw[← Bool.and_assoc,ha]; simp,F4⟩
  | true=>
   simp only[sA,sB,seval,fldA,lc4]
   exact⟨by rw[← Bool.and_assoc,ha]; simp,F4⟩
 by_cases h:o=20
 ·have hok:okI R nk nc ⟨o,a,b,c⟩=(rgF R a&&(rgF R b&&decide (c=0))):=by rw[h]; rfl
  rw[hok]
  subst h
  simp only[Int.cast_ofNat_Int]at m1 f0
  simp only[c49,sA,sB,seval,Int.cast_ofNat_Int,cells_agg,m1,m2,fld0,fldA,f0,la2,lb2,bs4]
  refine w4.mono ?_
  rintro _ _ ⟨rfl,rfl⟩
  cases ha:(rgF R a&&rgF R b) with
  | false=>
   simp only[sA,sB,seval]
   exact⟨by rw[← Bool.and_assoc,ha]; simp,F4⟩
  | true=>
   simp only[sA,sB,seval,fldA,lc4]
   exact⟨by rw[← Bool.and_assoc,ha]; simp,F4⟩
 by_cases h:o=23
 ·have hok:okI R nk nc ⟨o,a,b,c⟩=(rgF R a&&(rgF R b&&decide (c=0))):=by rw[h]; rfl
  rw[hok]
  subst h
  simp only[Int.cast_ofNat_Int]at m1 f0
  simp only[c49,sA,sB,seval,Int.cast_ofNat_Int,cells_agg,m1,m2,fld0,fldA,f0,la2,lb2,bs4]
  refine w4.mono ?_
  rintro _ _ ⟨rfl,rfl⟩
  cases ha:(rgF R a&&rgF R b) with
  | false=>
   simp only[sA,sB,seval]
   exact⟨by rw[← Bool.and_assoc,ha]; simp,F4⟩
  | true=>
   simp only[sA,sB,seval,fldA,lc4]
   exact⟨by rw[← Bool.and_assoc,ha]; simp,F4⟩
 by_cases h:o=24
 ·have hok:okI R nk nc ⟨o,a,b,c⟩=(rgF R a&&(rgF R b&&decide (c=0))):=by rw[h]; rfl
  rw[hok]
  subst h
  simp only[Int.cast_ofNat_Int]at m1 f0
  simp only[c49,sA,sB,seval,Int.cast_ofNat_Int,cells_agg,m1,m2,fld0,fldA,f0,la2,lb2,bs4]
  refine w4.mono ?_
  rintro _ _ ⟨rfl,rfl⟩
  cases ha:(rgF R a&&rgF R b) with
  | false=>
   simp only[sA,sB,seval]
   exact⟨by rw[← Bool.and_assoc,ha]; simp,F4⟩
  | true=>
   simp only[sA,sB,seval,fldA,lc4]
   exact⟨by rw[← Bool.and_assoc,ha]; simp,F4⟩
 by_cases h:o=25
 ·have hok:okI R nk nc ⟨o,a,b,c⟩=(rgF R a&&(rgF R b&&decide (c=0))):=by rw[h]; rfl
  rw[hok]
  subst h
  simp only[Int.cast_ofNat_Int]at m1 f0
  simp only[c49,sA,sB,seval,Int.cast_ofNat_Int,cells_agg,m1,m2,fld0,fldA,f0,la2,lb2,bs4]
  refine w4.mono ?_
  rintro _ _ ⟨rfl,rfl⟩
  cases ha:(rgF R a&&rgF R b) with
  | false=>
   simp only[sA,sB,seval]
   exact⟨by rw[← Bool.and_assoc,ha]; simp,F4⟩
  | true=>
   simp only[sA,sB,seval,fldA,lc4]
   exact⟨by rw[← Bool.and_assoc,ha]; simp,F4⟩
 by_cases h:o=26
 ·have hok:okI R nk nc ⟨o,a,b,c⟩=(rgF R a&&(rgF R b&&decide (c=0))):=by rw[h]; rfl
  rw[hok]
  subst h
  simp only[Int.cast_ofNat_Int]at m1 f0
  simp only[c49,sA,sB,seval,Int.cast_ofNat_Int,cells_agg,m1,m2,fld0,fldA,f0,la2,lb2,bs4]
  refine w4.mono ?_
  rintro _ _ ⟨rfl,rfl⟩
  cases ha:(rgF R a&&rgF R b) with
  | false=>
   simp only[sA,sB,seval]
   exact⟨by rw[← Bool.and_assoc,ha]; simp,F4⟩
  | true=>
   simp only[sA,sB,seval,fldA,lc4]
   exact⟨by rw[← Bool.and_assoc,ha]; simp,F4⟩
 by_cases h:o=27
 ·have hok:okI R nk nc ⟨o,a,b,c⟩=(rgF R a&&(rgF R b&&decide (c=0))):=by rw[h]; rfl
  rw[hok]
  subst h
  simp only[Int.cast_ofNat_Int]at m1 f0
  simp only[c49,sA,sB,seval,Int.cast_ofNat_Int,cells_agg,m1,m2,fld0,fldA,f0,la2,lb2,bs4]
  refine w4.mono ?_
  rintro _ _ ⟨rfl,rfl⟩
  cases ha:(rgF R a&&rgF R b) with
  | false=>
   simp only[sA,sB,seval]
   exact⟨by rw[← Bool.and_assoc,ha]; simp,F4⟩
  | true=>
   simp only[sA,sB,seval,fldA,lc4]
   exact⟨by rw[← Bool.and_assoc,ha]; simp,F4⟩
 by_cases h:o=28
 ·have hok:okI R nk nc ⟨o,a,b,c⟩=(rgF R a&&(rgF R b&&decide (c=0))):=by rw[h]; rfl
  rw[hok]
  subst h
  simp only[Int.cast_ofNat_Int]at m1 f0
  simp only[c49,sA,sB,seval,Int.cast_ofNat_Int,cells_agg,m1,m2,fld0,fldA,f0,la2,lb2,bs4]
  refine w4.mono ?_
  rintro _ _ ⟨rfl,rfl⟩
  cases ha:(rgF R a&&rgF R b) with
  | false=>
   simp only[sA,sB,seval]
   exact⟨by rw[← Bool.and_assoc,ha]; simp,F4⟩
  | true=>
   simp only[sA,sB,seval,fldA,lc4]
   exact⟨by rw[← Bool.and_assoc,ha]; simp,F4⟩
 by_cases h:o=3
 ·have hok:okI R nk nc ⟨o,a,b,c⟩=(rgF R a&&(rgF R b&&rgF R c)):=by rw[h]; rfl
  rw[hok]
  subst h
  simp only[Int.cast_ofNat_Int]at m1 f0
  simp only[c49,sA,sB,seval,Int.cast_ofNat_Int,cells_agg,m1,m2,fld0,fldA,f0,la2,lb2,lc2,bs5]
  refine w5.mono ?_
  rintro _ _ ⟨rfl,rfl⟩
  simp only[sA,sB,seval]
  exact⟨tt,F5⟩
 by_cases h:o=4
 ·have hok:okI R nk nc ⟨o,a,b,c⟩=(rgF R a&&(rgF R b&&rgF R c)):=by rw[h]; rfl
  rw[hok]
  subst h
  simp only[Int.cast_ofNat_Int]at m1 f0
  simp only[c49,sA,sB,seval,Int.cast_ofNat_Int,cells_agg,m1,m2,fld0,fldA,f0,la2,lb2,lc2,bs5]
  refine w5.mono ?_
  rintro _ _ ⟨rfl,rfl⟩
  simp only[sA,sB,seval]
  exact⟨tt,F5⟩
 by_cases h:o=5
 ·have hok:okI R nk nc ⟨o,a,b,c⟩=(rgF R a&&(rgF R b&&rgF R c)):=by rw[h]; rfl
  rw[hok]
  subst h
  simp only[Int.cast_ofNat_Int]at m1 f0
  simp only[c49,sA,sB,seval,Int.cast_ofNat_Int,cells_agg,m1,m2,fld0,fldA,f0,la2,lb2,lc2,bs5]
  refine w5.mono ?_
  rintro _ _ ⟨rfl,rfl⟩
  simp only[sA,sB,seval]
  exact⟨tt,F5⟩
 by_cases h:o=6
 ·have hok:okI R nk nc ⟨o,a,b,c⟩=(rgF R a&&(rgF R b&&rgF R c)):=by rw[h]; rfl
  rw[hok]
  subst h
  simp only[Int.cast_ofNat_Int]at m1 f0
  simp only[c49,sA,sB,seval,Int.cast_ofNat_Int,cells_agg,m1,m2,fld0,fldA,f0,la2,lb2,lc2,bs5]
  refine w5.mono ?_
  rintro _ _ ⟨rfl,rfl⟩
  simp only[sA,sB,seval]
  exact⟨tt,F5⟩
 by_cases h:o=9
 ·have hok:okI R nk nc ⟨o,a,b,c⟩=(rgF R a&&(rgF R b&&rgF R c)):=by rw[h]; rfl
  rw[hok]
  subst h
  simp only[Int.cast_ofNat_Int]at m1 f0
  simp only[c49,sA,sB,seval,Int.cast_ofNat_Int,cells_agg,m1,m2,fld0,fldA,f0,la2,lb2,lc2,bs5]
  refine w5.mono ?_
  rintro _ _ ⟨rfl,rfl⟩
  simp only[sA,sB,seval]
  exact⟨tt,F5⟩
 by_cases h:o=10
 ·have hok:okI R nk nc ⟨o,a,b,c⟩=(rgF R a&&(rgF R b&&rgF R c)):=by rw[h]; rfl
  rw[hok]
  subst h
  simp only[Int.cast_ofNat_Int]at m1 f0
  simp only[c49,sA,sB,seval,Int.cast_ofNat_Int,cells_agg,m1,m2,fld0,fldA,f0,la2,lb2,lc2,bs5]
  refine w5.mono ?_
  rintro _ _ ⟨rfl,rfl⟩
  simp only[sA,sB,seval]
  exact⟨tt,F5⟩
 by_cases h:o=11
 ·have hok:okI R nk nc ⟨o,a,b,c⟩=(rgF R a&&(rgF R b&&rgF R c)):=by rw[h]; rfl
  rw[hok]
  subst h
  simp only[Int.cast_ofNat_Int]at m1 f0
  simp only[c49,sA,sB,seval,Int.cast_ofNat_Int,cells_agg,m1,m2,fld0,fldA,f0,la2,lb2,lc2,bs5]
  refine w5.mono ?_
  rintro _ _ ⟨rfl,rfl⟩
  simp only[sA,sB,seval]
  exact⟨tt,F5⟩
 by_cases h:o=12
 ·have hok:okI R nk nc ⟨o,a,b,c⟩=(rgF R a&&(rgF R b&&rgF R c)):=by rw[h]; rfl
  rw[hok]
  subst h
  simp only[Int.cast_ofNat_Int]at m1 f0
  simp only[c49,sA,sB,seval,Int.cast_ofNat_Int,cells_agg,m1,m2,fld0,fldA,f0,la2,lb2,lc2,bs5]
  refine w5.mono ?_
  rintro _ _ ⟨rfl,rfl⟩
  simp only[sA,sB,seval]
  exact⟨tt,F5⟩
 by_cases h:o=13
 ·have hok:okI R nk nc ⟨o,a,b,c⟩=(rgF R a&&(rgF R b&&rgF R c)):=by rw[h]; rfl
  rw[hok]
  subst h
  simp only[Int.cast_ofNat_Int]at m1 f0
  simp only[c49,sA,sB,seval,Int.cast_ofNat_Int,cells_agg,m1,m2,fld0,fldA,f0,la2,lb2,lc2,bs5]
  refine w5.mono ?_
  rintro _ _ ⟨rfl,rfl⟩
  simp only[sA,sB,seval]
  exact⟨tt,F5⟩
 by_cases h:o=14
 ·have hok:okI R nk nc ⟨o,a,b,c⟩=(rgF R a&&(rgF R b&&rgF R c)):=by rw[h]; rfl
  rw[hok]
  subst h
  simp only[Int.cast_ofNat_Int]at m1 f0
  simp only[c49,sA,sB,seval,Int.cast_ofNat_Int,cells_agg,m1,m2,fld0,fldA,f0,la2,lb2,lc2,bs5]
  refine w5.mono ?_
  rintro _ _ ⟨rfl,rfl⟩
  simp only[sA,sB,seval]
  exact⟨tt,F5⟩
 by_cases h:o=15
 ·have hok:okI R nk nc ⟨o,a,b,c⟩=(rgF R a&&(rgF R b&&rgF R c)):=by rw[h]; rfl
  rw[hok]
  subst h
  simp only[Int.cast_ofNat_Int]at m1 f0
  simp only[c49,sA,sB,seval,Int.cast_ofNat_Int,cells_agg,m1,m2,fld0,fldA,f0,la2,lb2,lc2,bs5]
  refine w5.mono ?_
  rintro _ _ ⟨rfl,rfl⟩
  simp only[sA,sB,seval]
  exact⟨tt,F5⟩
 by_cases h:o=16
 ·have hok:okI R nk nc ⟨o,a,b,c⟩=(rgF R a&&(rgF R b&&rgF R c)):=by rw[h]; rfl
  rw[hok]
  subst h
  simp only[Int.cast_ofNat_Int]at m1 f0
  simp only[c49,sA,sB,seval,Int.cast_ofNat_Int,cells_agg,m1,m2,fld0,fldA,f0,la2,lb2,lc2,bs5]
  refine w5.mono ?_
  rintro _ _ ⟨rfl,rfl⟩
  simp only[sA,sB,seval]
  exact⟨tt,F5⟩
 by_cases h:o=21
 ·have hok:okI R nk nc ⟨o,a,b,c⟩=(rgF R a&&(rgF R b&&rgF R c)):=by rw[h]; rfl
  rw[hok]
  subst h
  simp only[Int.cast_ofNat_Int]at m1 f0
  simp only[c49,sA,sB,seval,Int.cast_ofNat_Int,cells_agg,m1,m2,fld0,fldA,f0,la2,lb2,lc2,bs5]
  refine w5.mono ?_
  rintro _ _ ⟨rfl,rfl⟩
  simp only[sA,sB,seval]
  exact⟨tt,F5⟩
 by_cases h:o=22
 ·have hok:okI R nk nc ⟨o,a,b,c⟩=(rgF R a&&(rgF R b&&rgF R c)):=by rw[h]; rfl
  rw[hok]
  subst h
  simp only[Int.cast_ofNat_Int]at m1 f0
  simp only[c49,sA,sB,seval,Int.cast_ofNat_Int,cells_agg,m1,m2,fld0,fldA,f0,la2,lb2,lc2,bs5]
  refine w5.mono ?_
  rintro _ _ ⟨rfl,rfl⟩
  simp only[sA,sB,seval]
  exact⟨tt,F5⟩
 by_cases h:o=29
 ·have hok:okI R nk nc ⟨o,a,b,c⟩=(rgF R a&&(rgF R b&&rgF R c)):=by rw[h]; rfl
  rw[hok]
  subst h
  simp only[Int.cast_ofNat_Int]at m1 f0
  simp only[c49,sA,sB,seval,Int.cast_ofNat_Int,cells_agg,m1,m2,fld0,fldA,f0,la2,lb2,lc2,bs5]
  refine w5.mono ?_
  rintro _ _ ⟨rfl,rfl⟩
  simp only[sA,sB,seval]
  exact⟨tt,F5⟩
 by_cases h:o=30
 ·have hok:okI R nk nc ⟨o,a,b,c⟩=(rgF R a&&(rgF R b&&rgF R c)):=by rw[h]; rfl
  rw[hok]
  subst h
  simp only[Int.cast_ofNat_Int]at m1 f0
  simp only[c49,sA,sB,seval,Int.cast_ofNat_Int,cells_agg,m1,m2,fld0,fldA,f0,la2,lb2,lc2,bs5]
  refine w5.mono ?_
  rintro _ _ ⟨rfl,rfl⟩
  simp only[sA,sB,seval]
  exact⟨tt,F5⟩
 by_cases h:o=31
 ·have hok:okI R nk nc ⟨o,a,b,c⟩=(rgF R a&&(rgF R b&&rgF R c)):=by rw[h]; rfl
  rw[hok]
  subst h
  simp only[Int.cast_ofNat_Int]at m1 f0
  simp only[c49,sA,sB,seval,Int.cast_ofNat_Int,cells_agg,m1,m2,fld0,fldA,f0,la2,lb2,lc2,bs5]
  refine w5.mono ?_
  rintro _ _ ⟨rfl,rfl⟩
  simp only[sA,sB,seval]
  exact⟨tt,F5⟩
 by_cases h:o=17
 ·have hok:okI R nk nc ⟨o,a,b,c⟩=(rgF R a&&(rgF R b&&(decide (b+2<R)&&decide (c=0)))):=by rw[h]; rfl
  rw[hok]
  subst h
  simp only[Int.cast_ofNat_Int]at m1 f0
  simp only[c49,sA,sB,seval,Int.cast_ofNat_Int,cells_agg,m1,m2,fld0,fldA,f0,la2,lb2,bs4]
  refine w4.mono ?_
  rintro _ _ ⟨rfl,rfl⟩
  cases ha:(rgF R a&&rgF R b) with
  | false=>
   simp only[sA,sB,seval]
   exact⟨by rw[← Bool.and_assoc,ha]; simp,F4⟩
  | true=>
   have hb:0≤b∧b<R:=by
    simp only[Bool.and_eq_true,rgF,decide_eq_true_eq]at ha; exact ha.2
   have wb:IntKind.i64.wrap (b+2)=b+2:=w64
   by_cases h2:b+2<R
   ·simp only[sA,sB,seval,fldA,lb4,lR4,wb,h2,lc4]
    exact⟨by rw[← Bool.and_assoc,ha]; simp,F4⟩
   ·simp only[sA,sB,seval,fldA,lb4,lR4,wb,h2]
    exact⟨by rw[← Bool.and_assoc,ha]; simp,F4⟩
 by_cases h:o=32
 ·have hok:okI R nk nc ⟨o,a,b,c⟩=(decide (a=0)&&(decide (b=0)&&rgF nc c)):=by rw[h]; rfl
  rw[hok]
  subst h
  simp only[Int.cast_ofNat_Int]at m1 f0
  by_cases ha:a=0
  ·subst ha
   by_cases hb:b=0
   ·subst hb
    simp only[c49,sA,sB,seval,Int.cast_ofNat_Int,cells_agg,m1,m2,fld0,fldA,f0,la2,lb2,lc2,ld2,hd]
    refine kright2_spec.mono ?_
    rintro _ _ ⟨rfl,rfl⟩
    simp only[sA,sB,seval]
    exact⟨by simp,F2⟩
   ·simp only[c49,sA,sB,seval,Int.cast_ofNat_Int,cells_agg,m1,m2,fld0,fldA,f0,la2,lb2,hb]
    exact⟨by simp,F2⟩
  ·simp only[c49,sA,sB,seval,Int.cast_ofNat_Int,cells_agg,m1,m2,fld0,fldA,f0,la2,ha]
   exact⟨by simp,F2⟩
 by_cases h:o=33
 ·have hok:okI R nk nc ⟨o,a,b,c⟩=(rgF R a&&(decide (b=0)&&rgF nc c)):=by rw[h]; rfl
  rw[hok]
  subst h
  simp only[Int.cast_ofNat_Int]at m1 f0
  simp only[c49,sA,sB,seval,Int.cast_ofNat_Int,cells_agg,m1,m2,fld0,fldA,f0,la2,bs3]
  refine w3.mono ?_
  rintro _ _ ⟨rfl,rfl⟩
  cases ha:rgF R a with
  | false=>
   simp only[sA,sB,seval]
   exact⟨by simp,F3⟩
  | true=>
   by_cases hb:b=0
   ·simp only[sA,sB,seval,fld0,fldA,lb3,hb,lc3,ld3,hd]
    refine kright2_spec.mono ?_
    rintro _ _ ⟨rfl,rfl⟩
    simp only[sA,sB,seval]
    exact⟨by simp,F3⟩
   ·simp only[sA,sB,seval,fld0,fldA,lb3,hb]
    exact⟨by simp,F3⟩
 by_cases h:o=34
 ·have hok:okI R nk nc ⟨o,a,b,c⟩=(rgF R a&&(decide (b=0)&&decide (c=0))):=by rw[h]; rfl
  rw[hok]
  subst h
  simp only[Int.cast_ofNat_Int]at m1 f0
  simp only[c49,sA,sB,seval,Int.cast_ofNat_Int,cells_agg,m1,m2,fld0,fldA,f0,la2,bs3]
  refine w3.mono ?_
  rintro _ _ ⟨rfl,rfl⟩
  cases ha:rgF R a with
  | false=>
   simp only[sA,sB,seval]
   exact⟨by simp,F3⟩
  | true=>
   by_cases hb:b=0
   ·simp only[sA,sB,seval,fld0,fldA,lb3,hb,lc3]
    exact⟨by simp,F3⟩
   ·simp only[sA,sB,seval,fld0,fldA,lb3,hb]
    exact⟨by simp,F3⟩
 have hok:okI R nk nc ⟨o,a,b,c⟩=false:=by
  unfold okI
  rw[if_neg (by assumption),if_neg (by simp only[twoO,List.mem_cons,List.not_mem_nil,or_false]; omega),if_neg (by simp only[threeO,List.mem_cons,List.not_mem_nil,or_false]; omega),if_neg (by assumption),if_neg (by assumption),if_neg (by assumption),if_neg (by assumption)]
 rw[hok]
 have z1:¬(o:Int)=1:=om
 have z2:¬(o:Int)=2:=om
 have z7:¬(o:Int)=7:=om
 have z8:¬(o:Int)=8:=om
 have z18:¬(o:Int)=18:=om
 have z19:¬(o:Int)=19:=om
 have z20:¬(o:Int)=20:=om
 have z23:¬(o:Int)=23:=om
 have z24:¬(o:Int)=24:=om
 have z25:¬(o:Int)=25:=om
 have z26:¬(o:Int)=26:=om
 have z27:¬(o:Int)=27:=om
 have z28:¬(o:Int)=28:=om
 have z3:¬(o:Int)=3:=om
 have z4:¬(o:Int)=4:=om
 have z5:¬(o:Int)=5:=om
 have z6:¬(o:Int)=6:=om
 have z9:¬(o:Int)=9:=om
 have z10:¬(o:Int)=10:=om
 have z11:¬(o:Int)=11:=om
 have z12:¬(o:Int)=12:=om
 have z13:¬(o:Int)=13:=om
 have z14:¬(o:Int)=14:=om
 have z15:¬(o:Int)=15:=om
 have z16:¬(o:Int)=16:=om
 have z21:¬(o:Int)=21:=om
 have z22:¬(o:Int)=22:=om
 have z29:¬(o:Int)=29:=om
 have z30:¬(o:Int)=30:=om
 have z31:¬(o:Int)=31:=om
 have z17:¬(o:Int)=17:=om
 have z32:¬(o:Int)=32:=om
 have z33:¬(o:Int)=33:=om
 have z34:¬(o:Int)=34:=om
 simp only[c49,sA,sB,seval,cells_agg,m1,m2,fld0,fldA,f0,z1,z2,z7,z8,z18,z19,z20,z23,z24,z25,z26,z27,z28,z3,z4,z5,z6,z9,z10,z11,z12,z13,z14,z15,z16,z21,z22,z29,z30,z31,z17,z32,z33,z34]
 exact⟨tt,F2⟩
open Go.Abs Go.Abs.S
def izC(i:InZ):List AVal:=[.int .u8 (i.o:Int),.int .i64 i.a,.int .i64 i.b,.int .i64 i.c]
def izL:List InZ→List AVal
 | []=>[]
 | i::l=>izC i++izL l
theorem izL_at:∀{l:List InZ} {i:Nat} {x:InZ},l[i]?=some x→((izL l).drop (i*4)).take 4=izC x
 | [],i,x,h=>by simp at h
 | y::l,0,x,h=>by
  simp only[List.getElem?_cons_zero,sJ]at h
  subst h; rfl
 | y::l,i+1,x,h=>by
  simp only[List.getElem?_cons_succ]at h
  have:=izL_at h
  rw[show (i+1)*4=(izC y).length+i*4 by simp[izC]; omega]
  simp only[izL]
  rw[List.drop_append,List.drop_of_length_le om,List.nil_append,show (izC y).length+i*4-(izC y).length=i*4 by omega]
  exact this
theorem kcheck_spec{l:List InZ}{vc vd:AVal}{R:Int}{nk n0:Nat}{H:AHeap}(hc:aLenK false vc=some (.int .i64 (nk:Int)))(z:SlK (·<n0) H 4 vd l.length (izL l))(hn:n0≤H.next)(o1:vc.one=true)(hl:l.length≤1000000) :
  ACalls Tryz.prog natT 23 [.agg [vc,.int .i64 R,vd]] H fun u H'=>u=.int .i64 (okCode R nk l:Int)∧Ext H.next H H':=by
 have o2:=z.one
 have hd:=z.len
 obtain⟨H1,m1,r1,n1,k1⟩:=row_newL H [vc,.int .i64 R,vd] (n:=3) (by rfl)
 have E1:Ext H.next H H1:=⟨om,fun c hc=>k1 c om⟩
 obtain⟨bb,hbb⟩:∃b,b=H.next:=⟨_,rfl⟩
 rw[← hbb]at m1 r1 k1
 have l0:oLoad false 1 H1 (cellR bb 3 0)=some vc:=row_load r1 rfl rfl
 have l1:oLoad false 1 H1 (cellR bb 3 1)=some (.int .i64 R):=row_load r1 rfl rfl
 have l2:oLoad false 1 H1 (cellR bb 3 2)=some vd:=row_load r1 rfl rfl
 refine acalls_ofN rfl za23 rfl ?_
 unfold okCode
 by_cases h4:R<4
 ·rw[if_pos (.inl h4)]
  simp only[c23,sA,sB,seval,cells_agg,m1,fldA,l1,h4]
  exact⟨tt,E1⟩
 by_cases h250:250<R
 ·rw[if_pos (.inr h250)]
  simp only[c23,sA,sB,seval,cells_agg,m1,fldA,l1,h4,h250]
  exact⟨tt,E1⟩
 rw[if_neg om]
 by_cases h0:l.length=0
 ·have h0':(l.length:Int)=0:=om
  rw[if_pos (.inl h0)]
  simp only[c23,sA,sB,seval,cells_agg,m1,fldA,l1,h4,h250,l2,hd,h0']
  exact⟨tt,E1⟩
 have h0':¬(l.length:Int)=0:=om
 by_cases h6:65536<l.length
 ·have h6':(65536:Int)<(l.length:Int):=om
  rw[if_pos (.inr (.inl h6))]
  simp only[c23,sA,sB,seval,cells_agg,m1,fldA,l1,h4,h250,l2,hd,h0',h6']
  exact⟨tt,E1⟩
 have h6':¬(65536:Int)<(l.length:Int):=om
 by_cases h7:65536<nk
 ·have h7':(65536:Int)<(nk:Int):=om
  rw[if_pos (.inr (.inr h7))]
  simp only[c23,sA,sB,seval,cells_agg,m1,fld0,fldA,l1,h4,h250,l2,hd,h0',h6',l0,hc,h7']
  exact⟨tt,E1⟩
 have h7':¬(65536:Int)<(nk:Int):=om
 rw[if_neg om]
 simp only[c23,sA,sB,seval,cells_agg,m1,fld0,fldA,l1,h4,h250,l2,hd,h0',h6',l0,hc,h7']
 refine aw_loop (fun m (T:Env) K=>∃i:Nat,m=l.length-i∧i≤l.length∧T 1=cellR bb 3 0∧T 31=vd∧T 32=.int .i64 (l.length:Int)∧T 33=.int .i64 (i:Int)∧Ext H1.next H1 K∧(l.take i).all (okI R nk l.length)=true) l.length
  ⟨0,rfl,Nat.zero_le _,by simp only[sA,sB,seval]; try rfl,by simp only[sA,sB,seval]; try rfl,by simp only[sA,sB,seval]; try rfl,by simp only[sA,sB,seval]; try rfl,⟨Nat.le_refl _,fun _ _=>rfl⟩,rfl⟩ ?_
 rintro m T K ⟨i,rfl,hi,t1,t31,t32,t33,EK,hx⟩
 have eK:=EK.next
 have rK:=r1.same (EK.old bb om)
 have zK:SlK (·<n0) K 4 vd l.length (izL l):=z.mono fun c hcc=>⟨hcc,by have:c<n0:=hcc; rw[EK.old c om,E1.old c om]⟩
 have to:∀{K':AHeap},Ext K.next K K'→Ext H.next H K':=fun e=>⟨by have:=e.next; omega,fun c hcc=>by rw[e.old c om,EK.old c om,E1.old c hcc]⟩
 by_cases hlt:i<l.length
 case neg=>
  obtain rfl:i=l.length:=om
  have hlt':¬(l.length:Int)<(l.length:Int):=om
  rw[List.take_length]at hx
  rw[if_pos hx]
  obtain⟨x,hx2⟩:∃x,l[l.length-1]?=some x:=⟨_,List.getElem?_eq_getElem om⟩
  have hlo:lastO l=x.o:=by unfold lastO; rw[List.getLast?_eq_getElem?,hx2]
  have wj:IntKind.i64.wrap ((l.length:Int)-1)=((l.length-1:Nat):Int):=w64
  have ix:=zK.idx (i:=l.length-1) om
  have pt:=zK.pt (i:=l.length-1) om
  rw[izL_at hx2]at pt
  have lo:oLoad false 1 K (placeK 4 vd (l.length-1))=some (.int .u8 (x.o:Int)):=pt.load0 rfl
  have f0:=pt.fld0
  have lK2:oLoad false 1 K (cellR bb 3 2)=some vd:=row_load rK rfl rfl
  rw[hlo]
  by_cases h32:x.o=32
  ·have q:(x.o:Int)=32:=om
   rw[if_pos (.inl h32)]
   simp only[sA,sB,seval,t1,t31,t32,t33,hlt',fldA,lK2,hd,wj,ix,f0,lo,q]
   exact⟨tt,to ⟨Nat.le_refl _,fun _ _=>rfl⟩⟩
  have q:¬(x.o:Int)=32:=om
  by_cases h34:x.o=34
  ·have q2:(x.o:Int)=34:=om
   rw[if_pos (.inr h34)]
   simp only[sA,sB,seval,t1,t31,t32,t33,hlt',fldA,lK2,hd,wj,ix,f0,lo,q2]
   exact⟨tt,to ⟨Nat.le_refl _,fun _ _=>rfl⟩⟩
  ·have q2:¬(x.o:Int)=34:=om
   rw[if_neg om]
   simp only[sA,sB,seval,t1,t31,t32,t33,hlt',fldA,lK2,hd,wj,ix,f0,lo,q,q2]
   exact⟨tt,to ⟨Nat.le_refl _,fun _ _=>rfl⟩⟩
 have hlt':(i:Int)<(l.length:Int):=om
 obtain⟨x,hx2⟩:∃x,l[i]?=some x:=⟨_,List.getElem?_eq_getElem hlt⟩
 have ix:=zK.idx hlt
 have ld:=zK.load hlt
 rw[izL_at hx2]at ld
 have wk:IntKind.i64.wrap ((i:Int)+1)=((i+1:Nat):Int):=addN i 1 om
 obtain⟨H2,m2,r2,n2,k2⟩:=row_newL K [.int .u8 0,.int .i64 0,.int .i64 0,.int .i64 0] (n:=4) rfl
 obtain⟨H3,m3,r3,n3,k3⟩:=row_storeN r2 (n:=4) rfl (xs:=izC x) rfl rfl
 have la:oLoad true 4 H3 (cellR K.next 4 0)=some (izA x):=row_loadN r3 rfl
 have k03:∀c,c<K.next→H3.get c=K.get c:=fun c hcc=>by rw[k3 c om,k2 c om]
 have lb:oLoad true 3 H3 (cellR bb 3 0)=some (.agg [vc,.int .i64 R,vd]):=row_loadN (rK.same (k03 bb om)) rfl
 have m3':oStore 4 H2 (cellR K.next 4 0) (.agg (izC x))=some H3:=m3
 simp only[sA,sB,seval,t1,t31,t32,t33,hlt',ix,ld,m2,m3',la,lb]
 refine (kright_spec (nk:=nk) (nc:=l.length) hc hd om o1 o2).mono ?_
 rintro _ H4 ⟨rfl,E4⟩
 have e4:=E4.next
 have EK4:Ext K.next K H4:=⟨om,fun c hcc=>by rw[E4.old c om,k03 c hcc]⟩
 cases hok:okI R nk l.length x with
 | false=>
  rw[if_neg (fun h=>by rw[List.all_eq_true]at h; rw[h x (List.mem_of_getElem? hx2)]at hok; exact absurd hok (by simp))]
  simp only[sA,sB,seval]
  exact⟨tt,to EK4⟩
 | true=>
  simp only[sA,sB,seval,t1,t31,t32,t33,wk]
  refine⟨l.length-(i+1),om,i+1,rfl,om,tt,tt,tt,tt,⟨om,fun c hcc=>by rw[EK4.old c om,EK.old c hcc]⟩,?_⟩
  rw[List.take_add_one,hx2,List.all_append,hx]
  simp[hok]
open Go.Abs Go.Abs.S
noncomputable section
def c21:AFn:=⟨41,zq [zo 2 (.new [zN,zI 0,zN]),zo 3 (.new [zI 0,zI 0])] (zq [zm 8 0,zx 9 46 [.t 8],zo 4 (.new [zI 0,zI 0]),zp (.store 2 (.t 4) (.t 9))] (zr [zf 10 0 4,zl 11 10,zk 12 .neq 11 0] 12 (.seq (.draw [zo 13 (.build [zN,zI 0,zN] []),zt 14 2 4,zp (.store 3 (.t 2) (.t 13)),zp (.store 2 (.t 3) (.t 14))] [[],[3],[],[]]) .ret) .skip (zq [zo 5 (.mv (zu 1)),zo 6 (.mv (zu 2))] (zq [zo 15 (.build [zN,zI 0,zN] [(1,1,zi 4)]),zo 16 (.buildSl 4 [.str []] [(0,1,.c (.str [117])),(1,1,.c (.str [118])),(2,1,.c (.str [112])),(3,1,.c (.str [110]))]),zm 17 5,zm 18 5,zm 19 6,zm 20 6,zo 21 (.buildSl 4 [zU 0] [(0,1,.t 17),(1,1,.t 18),(2,1,.t 19),(3,1,.t 20)]),zo 22 (.buildSl 4 [zI 0] [(0,1,zi 0),(1,1,zi 1),(2,1,zi 2),(3,1,zi 3)]),zo 23 (.build [zN,zI 0,zN,zN,zN,zN,zI 0] [(0,3,.t 15),(3,1,.t 16),(4,1,.t 21),(5,1,.t 22),(6,1,zi 4)]),zo 24 (.box (.t 23)),zm 7 24] (zq [zm 25 7,zm 26 0,zx 27 47 [.t 25,.t 26]] (zr [zm 28 7,zc 29 28,zf 30 0 29,zf 31 1 30,zl 32 31,zk 33 .gtr 32 250] 33 (zq [zo 34 (.build [zN,zI 0,zN] []),zo 35 (.build [zI 0,zI 0] [(0,1,zi 102)]),zp (.store 3 (.t 2) (.t 34)),zp (.store 2 (.t 3) (.t 35))] .ret) .skip (zq [zm 36 7,zc 37 36,zf 38 0 37,zt 39 3 38,zo 40 (.build [zI 0,zI 0] []),zp (.store 3 (.t 2) (.t 39)),zp (.store 2 (.t 3) (.t 40))] .ret))))))),[.cell true 3 2,.cell true 2 3]⟩
theorem za21:cN Tryz.prog 21=some c21:=by kernel_rfl
def c46:AFn:=⟨31,zq [zo 2 (.new [zI 0,zI 0])] (zr [zm 4 0,zx 5 16 [.t 4],zo 6 (.un .not (.t 5))] 6 (zq [zo 7 (.build [zI 0,zI 0] [(0,1,zi 103)]),zp (.store 2 (.t 2) (.t 7))] .ret) .skip (zq [zo 8 (.build [zI 0,zI 0] []),zo 9 (.box (.t 8)),zm 3 9] (zq [zm 10 3,zm 11 0,zo 12 (.buildSl 4 [.str []] [(0,1,.c (.str [117])),(1,1,.c (.str [118])),(2,1,.c (.str [112])),(3,1,.c (.str [110]))]),zo 13 (.buildSl 4 [zU 0] [(0,1,zu 1),(1,1,zu 1),(2,1,zu 2),(3,1,zu 2)]),zx 14 88 [.t 10,.t 11,.t 12,.t 13]] (zr [zm 15 3,zc 16 15,zf 17 0 16,zf 18 0 17,zl 19 18,zk 20 .eql 19 0,zm 21 20,zg 22 (.mv (.t 0)) 21 true,zg 23 (.call 89 [.t 22]) 21 true,zg 24 (.un .not (.t 23)) 21 true,zo 25 (.pick (.t 21) (.t 24) (.c (.bool false)))] 25 (zq [zo 26 (.build [zI 0,zI 0] [(0,1,zi 113)]),zp (.store 2 (.t 2) (.t 26))] .ret) .skip (zq [zm 27 3,zc 28 27,zf 29 0 28,zt 30 2 29,zp (.store 2 (.t 2) (.t 30))] .ret))))),[.cell true 2 2]⟩
theorem za46:cN Tryz.prog 46=some c46:=by kernel_rfl
def c88:AFn:=⟨141,zq [zo 8 (.mv (zi 0))] (.block 0 (.loop (zr [zm 13 8,zm 14 1,zh 15 14,zb 16 .lss 13 15,zm 17 16,zg 18 (.mv (.t 0)) 17 true,zg 19 (.nilChk (.t 18)) 17 true,zg 20 (.fieldA 0 (.t 19)) 17 true,zg 21 (.fieldA 0 (.t 20)) 17 true,zg 22 (.load false 1 (.t 21)) 17 true,zg 23 (.bin .eql (.t 22) (zi 0)) 17 true,zo 24 (.pick (.t 17) (.t 23) (.c (.bool false)))] 24 .skip (.exit 0) (.seq (.block 1 (zq [zm 27 1,zm 28 8,zo 29 (.idxA 9 (.t 27) (.t 28)),zt 30 9 29,zo 9 (.new [zU 0,.str [],zU 0,.str [],zI 0,zN,zN,zN,zI 0]),zp (.store 9 (.t 9) (.t 30))] (zr [zm 31 8,zk 32 .gtr 31 0,zm 33 32,zg 34 (.mv (.t 1)) 33 true,zg 35 (.mv (.t 8)) 33 true,zg 36 (.bin .sub (.t 35) (zi 1)) 33 true,zg 37 (.idxA 9 (.t 34) (.t 36)) 33 true,zg 38 (.fieldA 0 (.t 37)) 33 true,zg 39 (.load false 1 (.t 38)) 33 true,zg 40 (.bin .eql (.t 39) (zu 5)) 33 true,zo 41 (.pick (.t 33) (.t 40) (.c (.bool false)))] 41 (zq [zm 42 0,zf 43 8 9,zl 44 43,zx 45 134 [.t 42,zi 113,.t 44]] .ret) .skip (zq [zf 47 2 9,zt 48 4 47,zm 49 2,zm 50 3,zx 51 135 [.t 48,.t 49,.t 50],zm 46 51,ze 52 0 46,ze 53 1 46,zm 10 52,zm 11 53] (zq [zm 54 0,zm 55 11,zf 56 8 9,zl 57 56,zx 58 134 [.t 54,.t 55,.t 57]] (zr [zm 59 0,zc 60 59,zf 61 0 60,zf 62 0 61,zl 63 62,zk 64 .neq 63 0] 64 .ret .skip (zq [zf 65 1 9,zl 66 65,zm 67 2,zm 68 3,zx 69 136 [.t 66,.t 67,.t 68],zm 12 69] (.seq (zq [zf 70 0 9,zl 71 70] (.block 2 (zq [zo 79 (.bin .eql (.t 71) (zu 1)),zm 78 79] (.cond (.t 78) (zr [zm 80 12,zo 81 (.bin .neq (.t 80) (zu 0))] 81 (.reg [zm 82 0,zf 83 8 9,zl 84 83,zx 85 134 [.t 82,zi 110,.t 84]]) .skip (.seq (.seq (.draw [zo 86 (.hf (.fill 0 (.lit 0 [.str []] [])) []),zm 87 2,zo 88 (.append 1 16 (.t 86) (.t 87)),zf 89 1 9,zl 90 89,zo 91 (.hf (.fill 0 (.lit 1 [.str []] [(0,1)])) [.t 90]),zo 92 (.append 1 16 (.t 88) (.t 91)),zm 2 92] [[],[],[],[],[0,2],[],[],[]]) (.reg [zp (.pf .apart [.t 91,.t 86]),zp (.pf .apart [.t 91,.t 86]),zp (.pf .apart [.t 91,.t 87]),zp (.pf .apart [.t 91,.t 88])])) (.reg [zo 93 (.buildSl 0 [zU 0] []),zm 94 3,zy 95 93 94,zm 96 10,zo 97 (.buildSl 1 [zU 0] [(0,1,.t 96)]),zy 98 95 97,zm 3 98]))) (zq [zo 100 (.bin .eql (.t 71) (zu 2)),zm 99 100] (.cond (.t 99) (zq [zm 101 12,zo 102 (.bin .eql (.t 101) (zu 0)),zm 103 102,zg 104 (.fieldA 1 (.t 9)) 103 false,zg 105 (.load false 1 (.t 104)) 103 false,zg 106 (.buildSl 4 [.str []] [(0,1,.c (.str [117])),(1,1,.c (.str [118])),(2,1,.c (.str [112])),(3,1,.c (.str [110]))]) 103 false,zg 107 (.call 137 [.t 105,.t 106]) 103 false,zo 108 (.pick (.t 103) (.c (.bool true)) (.t 107))] (.cond (.t 108) (.reg [zm 109 0,zf 110 8 9,zl 111 110,zx 112 134 [.t 109,zi 110,.t 111]]) (zq [zm 113 12,zm 114 10,zb 115 .neq 113 114] (.cond (.t 115) (.reg [zm 116 0,zf 117 8 9,zl 118 117,zx 119 134 [.t 116,zi 111,.t 118]]) .skip)))) (zr [zo 121 (.bin .eql (.t 71) (zu 3)),zm 120 121] 120 .skip (.reg [zo 122 (.bin .eql (.t 71) (zu 4)),zm 120 122]) (.cond (.t 120) (zq [zm 123 10,zo 124 (.bin .neq (.t 123) (zu 1))] (.cond (.t 124) (.reg [zm 125 0,zf 126 8 9,zl 127 126,zx 128 134 [.t 125,zi 111,.t 127]]) .skip)) (zq [zm 72 10,zo 73 (.bin .neq (.t 72) (zu 2))] (.cond (.t 73) (.reg [zm 74 0,zf 75 8 9,zl 76 75,zx 77 134 [.t 74,zi 111,.t 76]]) .skip)))))))))) (zq [zm 129 0,zf 130 6 9,zl 131 130,zm 132 2,zm 133 3,zx 134 88 [.t 129,.t 131,.t 132,.t 133]] (.reg [zm 135 0,zf 136 7 9,zl 137 136,zm 138 2,zm 139 3,zx 140 88 [.t 135,.t 137,.t 138,.t 139]])))))))))) (.reg [zm 25 8,zk 26 .add 25 1,zm 8 26]))))),[]⟩
theorem za88:cN Tryz.prog 88=some c88:=by kernel_rfl
def c134:AFn:=⟨22,zq [zm 6 0,zc 7 6,zf 8 0 7,zf 9 0 8,zl 10 9,zk 11 .eql 10 0,zm 12 11,zg 13 (.mv (.t 1)) 12 true,zg 14 (.bin .neq (.t 13) (zi 0)) 12 true,zo 15 (.pick (.t 12) (.t 14) (.c (.bool false)))] (.cond (.t 15) (.reg [zm 16 0,zm 17 1,zm 18 2,zo 19 (.build [zI 0,zI 0] [(0,1,.t 17),(1,1,.t 18)]),zc 20 16,zf 21 0 20,zp (.store 2 (.t 21) (.t 19))]) .skip),[]⟩
theorem za134:cN Tryz.prog 134=some c134:=by kernel_rfl
def c135:AFn:=⟨16,zq [zo 3 (.box (.t 0)),zo 6 (.mv (zu 0)),zo 7 (.mv (zi 0))] (zr [zt 8 4 3,zx 9 171 [.t 8,zi 40]] 9 (zq [zo 6 (.mv (zu 0)),zo 7 (.mv (zi 102))] .ret) .skip (zq [zt 10 4 3,zm 11 1,zm 12 2,zx 13 172 [.t 10,.t 11,.t 12],ze 14 0 13,ze 15 1 13,zm 6 14,zm 7 15] .ret)),[.t 6,.t 7]⟩
theorem za135:cN Tryz.prog 135=some c135:=by kernel_rfl
def c171:AFn:=⟨23,zq [zo 2 (.box (.t 0)),zo 4 (.mv (.c (.bool false)))] (zr [zm 6 1,zk 7 .lss 6 1] 7 (zq [zo 4 (.mv (.c (.bool true)))] .ret) .skip (.seq (zq [zo 5 (.mv (zi 0))] (.block 0 (.loop (zr [zm 8 5,zf 9 3 2,zl 10 9,zh 11 10,zb 12 .lss 8 11] 12 .skip (.exit 0) (.seq (.block 1 (zq [zf 15 3 2,zl 16 15,zm 17 5,zo 18 (.idxA 4 (.t 16) (.t 17)),zt 19 4 18,zm 20 1,zk 21 .sub 20 1,zx 22 171 [.t 19,.t 21]] (.cond (.t 22) (zq [zo 4 (.mv (.c (.bool true)))] .ret) .skip))) (.reg [zm 13 5,zk 14 .add 13 1,zm 5 14])))))) (zq [zo 4 (.mv (.c (.bool false)))] .ret))),[.t 4]⟩
theorem za171:cN Tryz.prog 171=some c171:=by kernel_rfl
def c172:AFn:=⟨109,zq [zo 3 (.box (.t 0)),zo 6 (.mv (zu 0)),zo 7 (.mv (zi 0))] (zq [zo 8 (.mv zn)] (.seq (zq [zo 9 (.mv (zi 0))] (.block 0 (.loop (zr [zm 17 9,zf 18 3 3,zl 19 18,zh 20 19,zb 21 .lss 17 20] 21 .skip (.exit 0) (.seq (.block 1 (zq [zf 25 3 3,zl 26 25,zm 27 9,zo 28 (.idxA 4 (.t 26) (.t 27)),zt 29 4 28,zm 30 1,zm 31 2,zx 32 172 [.t 29,.t 30,.t 31],zm 24 32,ze 33 0 24,ze 34 1 24,zm 10 33,zm 11 34] (zr [zm 35 11,zk 36 .neq 35 0] 36 (zq [zm 37 11,zo 6 (.mv (zu 0)),zm 7 37] .ret) .skip (.reg [zm 38 8,zm 39 10,zo 40 (.buildSl 1 [zU 0] [(0,1,.t 39)]),zy 41 38 40,zm 8 41])))) (.reg [zm 22 9,zk 23 .add 22 1,zm 9 23])))))) (.seq (zq [zf 42 0 3,zl 43 42] (.block 2 (zq [zo 45 (.bin .eql (.t 43) (zu 1)),zm 44 45] (.cond (.t 44) (zq [zo 6 (.mv (zu 1)),zo 7 (.mv (zi 0))] .ret) (zq [zo 47 (.bin .eql (.t 43) (zu 2)),zm 46 47] (.cond (.t 46) (.seq (zq [zm 48 1,zh 49 48,zm 50 2,zh 51 50,zo 52 (.pf (.mm false) [.t 49,.t 51]),zk 53 .sub 52 1,zm 12 53] (.block 3 (.loop (zr [zm 54 12,zk 55 .geq 54 0] 55 .skip (.exit 3) (.seq (.block 4 (zq [zm 58 1,zm 59 12,zd 60 58 59,zl 61 60,zf 62 1 3,zl 63 62,zb 64 .eql 61 63] (.cond (.t 64) (zq [zm 65 2,zm 66 12,zd 67 65 66,zl 68 67,zm 6 68,zo 7 (.mv (zi 0))] .ret) .skip))) (.reg [zm 56 12,zk 57 .sub 56 1,zm 12 57])))))) (zq [zo 6 (.mv (zu 0)),zo 7 (.mv (zi 110))] .ret)) (zq [zo 70 (.bin .eql (.t 43) (zu 4)),zm 69 70] (.cond (.t 69) (zq [zf 72 1 3,zl 73 72,zx 74 193 [.t 73],zm 71 74,ze 75 0 71,ze 76 1 71,zm 13 75,zm 14 76] (zr [zm 77 14,zo 78 (.bin .eql (.t 77) (zu 0))] 78 (zq [zo 6 (.mv (zu 0)),zo 7 (.mv (zi 110))] .ret) .skip (zr [zm 79 13,zh 80 79,zm 81 8,zh 82 81,zb 83 .neq 80 82] 83 (zq [zo 6 (.mv (zu 0)),zo 7 (.mv (zi 112))] .ret) .skip (.seq (zq [zo 15 (.mv (zi 0))] (.block 5 (.loop (zr [zm 84 15,zm 85 13,zh 86 85,zb 87 .lss 84 86] 87 .skip (.exit 5) (.seq (.block 6 (zq [zm 90 13,zm 91 15,zd 92 90 91,zl 93 92,zm 94 8,zm 95 15,zd 96 94 95,zl 97 96,zb 98 .neq 93 97] (.cond (.t 98) (zq [zo 6 (.mv (zu 0)),zo 7 (.mv (zi 111))] .ret) .skip))) (.reg [zm 88 15,zk 89 .add 88 1,zm 15 89])))))) (zq [zm 99 14,zm 6 99,zo 7 (.mv (zi 0))] .ret))))) (zq [zo 101 (.bin .eql (.t 43) (zu 3)),zm 100 101] (.cond (.t 100) (zq [zf 102 1 3,zl 103 102,zm 104 8,zx 105 194 [.t 103,.t 104],zm 16 105] (zq [zm 106 16,zo 107 (.bin .neq (.t 106) (zu 0))] (.cond (.t 107) (zq [zm 108 16,zm 6 108,zo 7 (.mv (zi 0))] .ret) .skip))) .skip)))))))))) (zq [zo 6 (.mv (zu 0)),zo 7 (.mv (zi 111))] .ret)))),[.t 6,.t 7]⟩
theorem za172:cN Tryz.prog 172=some c172:=by kernel_rfl
def c193:AFn:=⟨89,zq [zo 2 (.mv zn),zo 3 (.mv (zu 0))] (zq [zo 4 (.mv (zu 1)),zo 5 (.mv (zu 2))] (.seq (zq [zm 6 0] (.block 0 (zq [zo 8 (.bin .eql (.t 6) (.c (.str [118,101,99]))),zm 7 8] (.cond (.t 7) (zq [zm 9 4,zm 10 4,zm 11 4,zo 12 (.buildSl 3 [zU 0] [(0,1,.t 9),(1,1,.t 10),(2,1,.t 11)]),zm 13 5,zm 2 12,zm 3 13] .ret) (zq [zo 15 (.bin .eql (.t 6) (.c (.str [120]))),zm 14 15] (.cond (.t 14) (zq [zm 16 5,zo 17 (.buildSl 1 [zU 0] [(0,1,.t 16)]),zm 18 4,zm 2 17,zm 3 18] .ret) (zq [zo 20 (.bin .eql (.t 6) (.c (.str [121]))),zm 19 20] (.cond (.t 19) (zq [zm 21 5,zo 22 (.buildSl 1 [zU 0] [(0,1,.t 21)]),zm 23 4,zm 2 22,zm 3 23] .ret) (zq [zo 25 (.bin .eql (.t 6) (.c (.str [122]))),zm 24 25] (.cond (.t 24) (zq [zm 26 5,zo 27 (.buildSl 1 [zU 0] [(0,1,.t 26)]),zm 28 4,zm 2 27,zm 3 28] .ret) (zq [zo 30 (.bin .eql (.t 6) (.c (.str [100,111,116]))),zm 29 30] (.cond (.t 29) (zq [zm 31 5,zm 32 5,zo 33 (.buildSl 2 [zU 0] [(0,1,.t 31),(1,1,.t 32)]),zm 34 4,zm 2 33,zm 3 34] .ret) (zq [zo 36 (.bin .eql (.t 6) (.c (.str [99,114,111,115,115]))),zm 35 36] (.cond (.t 35) (zq [zm 37 5,zm 38 5,zo 39 (.buildSl 2 [zU 0] [(0,1,.t 37),(1,1,.t 38)]),zm 40 5,zm 2 39,zm 3 40] .ret) (zq [zo 42 (.bin .eql (.t 6) (.c (.str [117,110,105,116]))),zm 41 42] (.cond (.t 41) (zq [zm 43 5,zo 44 (.buildSl 1 [zU 0] [(0,1,.t 43)]),zm 45 5,zm 2 44,zm 3 45] .ret) (zq [zo 47 (.bin .eql (.t 6) (.c (.str [115,113,114,116]))),zm 46 47] (.cond (.t 46) (zq [zm 48 4,zo 49 (.buildSl 1 [zU 0] [(0,1,.t 48)]),zm 50 4,zm 2 49,zm 3 50] .ret) (zq [zo 52 (.bin .eql (.t 6) (.c (.str [115,105,110]))),zm 51 52] (.cond (.t 51) (zq [zm 53 4,zo 54 (.buildSl 1 [zU 0] [(0,1,.t 53)]),zm 55 4,zm 2 54,zm 3 55] .ret) (zq [zo 57 (.bin .eql (.t 6) (.c (.str [99,111,115]))),zm 56 57] (.cond (.t 56) (zq [zm 58 4,zo 59 (.buildSl 1 [zU 0] [(0,1,.t 58)]),zm 60 4,zm 2 59,zm 3 60] .ret) (zq [zo 62 (.bin .eql (.t 6) (.c (.str [97,98,115]))),zm 61 62] (.cond (.t 61) (zq [zm 63 4,zo 64 (.buildSl 1 [zU 0] [(0,1,.t 63)]),zm 65 4,zm 2 64,zm 3 65] .ret) (zq [zo 67 (.bin .eql (.t 6) (.c (.str [102,108,111,111,114]))),zm 66 67] (.cond (.t 66) (zq [zm 68 4,zo 69 (.buildSl 1 [zU 0] [(0,1,.t 68)]),zm 70 4,zm 2 69,zm 3 70] .ret) (zq [zo 72 (.bin .eql (.t 6) (.c (.str [109,105,110]))),zm 71 72] (.cond (.t 71) (zq [zm 73 4,zm 74 4,zo 75 (.buildSl 2 [zU 0] [(0,1,.t 73),(1,1,.t 74)]),zm 76 4,zm 2 75,zm 3 76] .ret) (zq [zo 78 (.bin .eql (.t 6) (.c (.str [109,97,120]))),zm 77 78] (.cond (.t 77) (zq [zm 79 4,zm 80 4,zo 81 (.buildSl 2 [zU 0] [(0,1,.t 79),(1,1,.t 80)]),zm 82 4,zm 2 81,zm 3 82] .ret) (zq [zo 84 (.bin .eql (.t 6) (.c (.str [115,97,109,112,108,101]))),zm 83 84] (.cond (.t 83) (zq [zm 85 4,zm 86 4,zo 87 (.buildSl 2 [zU 0] [(0,1,.t 85),(1,1,.t 86)]),zm 88 5,zm 2 87,zm 3 88] .ret) .skip)))))))))))))))))))))))))))))))) (zq [zo 2 (.mv zn),zo 3 (.mv (zu 0))] .ret))),[.t 2,.t 3]⟩
theorem za193:cN Tryz.prog 193=some c193:=by kernel_rfl
def c194:AFn:=⟨70,zq [zo 4 (.mv (zu 0))] (.seq (zq [zm 7 1,zh 8 7] (.block 0 (zq [zk 10 .eql 8 1,zm 9 10] (.cond (.t 9) (zr [zm 11 0,zo 12 (.bin .eql (.t 11) (.c (.str [45]))),zm 13 12,zg 14 (.mv (.t 0)) 13 false,zg 15 (.bin .eql (.t 14) (.c (.str [33]))) 13 false,zg 16 (.mv (.t 15)) 13 false,zg 17 (.mv (.t 1)) 16 true,zg 18 (.idxA 1 (.t 17) (zi 0)) 16 true,zg 19 (.load false 1 (.t 18)) 16 true,zg 20 (.bin .eql (.t 19) (zu 1)) 16 true,zg 21 (.pick (.t 16) (.t 20) (.c (.bool false))) 13 false,zo 22 (.pick (.t 13) (.c (.bool true)) (.t 21))] 22 (zq [zm 23 1,zo 24 (.idxA 1 (.t 23) (zi 0)),zl 25 24,zm 4 25] .ret) .skip (zq [zo 4 (.mv (zu 0))] .ret)) (zq [zk 27 .eql 8 2,zm 26 27] (.cond (.t 26) (.exit 0) (zq [zo 4 (.mv (zu 0))] .ret))))))) (zq [zm 28 1,zo 29 (.idxA 1 (.t 28) (zi 0)),zl 30 29,zm 31 1,zo 32 (.idxA 1 (.t 31) (zi 1)),zl 33 32,zm 5 30,zm 6 33] (.seq (.block 1 (zq [zm 35 0,zo 36 (.buildSl 8 [.str []] [(0,1,.c (.str [124,124])),(1,1,.c (.str [38,38])),(2,1,.c (.str [61,61])),(3,1,.c (.str [33,61])),(4,1,.c (.str [60,61])),(5,1,.c (.str [62,61])),(6,1,.c (.str [60])),(7,1,.c (.str [62]))]),zx 37 137 [.t 35,.t 36],zm 34 37] (.cond (.t 34) (zq [zm 38 5,zo 39 (.bin .eql (.t 38) (zu 1)),zm 40 39,zg 41 (.mv (.t 6)) 40 true,zg 42 (.bin .eql (.t 41) (zu 1)) 40 true,zo 43 (.pick (.t 40) (.t 42) (.c (.bool false)))] (.cond (.t 43) (zq [zo 4 (.mv (zu 1))] .ret) .skip)) (zq [zm 45 0,zo 46 (.bin .eql (.t 45) (.c (.str [43]))),zm 47 46,zg 48 (.mv (.t 0)) 47 false,zg 49 (.bin .eql (.t 48) (.c (.str [45]))) 47 false,zo 50 (.pick (.t 47) (.c (.bool true)) (.t 49)),zm 44 50] (.cond (.t 44) (zq [zm 51 5,zm 52 6,zb 53 .eql 51 52] (.cond (.t 53) (zq [zm 54 5,zm 4 54] .ret) .skip)) (zq [zm 56 0,zo 57 (.bin .eql (.t 56) (.c (.str [42]))),zm 55 57] (.cond (.t 55) (zr [zm 58 5,zo 59 (.bin .eql (.t 58) (zu 1))] 59 (zq [zm 60 6,zm 4 60] .ret) .skip (zq [zm 61 6,zo 62 (.bin .eql (.t 61) (zu 1))] (.cond (.t 62) (zq [zm 63 5,zm 4 63] .ret) .skip))) (zq [zm 65 0,zo 66 (.bin .eql (.t 65) (.c (.str [47]))),zm 64 66] (.cond (.t 64) (zq [zm 67 6,zo 68 (.bin .eql (.t 67) (zu 1))] (.cond (.t 68) (zq [zm 69 5,zm 4 69] .ret) .skip)) .skip))))))))) (zq [zo 4 (.mv (zu 0))] .ret)))),[.t 4]⟩
theorem za194:cN Tryz.prog 194=some c194:=by kernel_rfl
def c137:AFn:=⟨18,zq [zo 4 (.mv (.c (.bool false)))] (.seq (zq [zo 5 (.mv (zi 0))] (.block 0 (.loop (zr [zm 6 5,zm 7 1,zh 8 7,zb 9 .lss 6 8] 9 .skip (.exit 0) (.seq (.block 1 (zq [zm 12 1,zm 13 5,zd 14 12 13,zl 15 14,zm 16 0,zb 17 .eql 15 16] (.cond (.t 17) (zq [zo 4 (.mv (.c (.bool true)))] .ret) .skip))) (.reg [zm 10 5,zk 11 .add 10 1,zm 5 11])))))) (zq [zo 4 (.mv (.c (.bool false)))] .ret)),[.t 4]⟩
theorem za137:cN Tryz.prog 137=some c137:=by kernel_rfl
def c136:AFn:=⟨24,zq [zo 6 (.mv (zu 0))] (.seq (zq [zo 7 (.mv (zi 0))] (.block 0 (.loop (zr [zm 8 7,zm 9 1,zh 10 9,zb 11 .lss 8 10] 11 .skip (.exit 0) (.seq (.block 1 (zq [zm 14 1,zm 15 7,zd 16 14 15,zl 17 16,zm 18 0,zb 19 .eql 17 18] (.cond (.t 19) (zq [zm 20 2,zm 21 7,zd 22 20 21,zl 23 22,zm 6 23] .ret) .skip))) (.reg [zm 12 7,zk 13 .add 12 1,zm 7 13])))))) (zq [zo 6 (.mv (zu 0))] .ret)),[.t 6]⟩
theorem za136:cN Tryz.prog 136=some c136:=by kernel_rfl
def c89:AFn:=⟨31,zq [zo 2 (.mv (.c (.bool false)))] (zr [zm 4 0,zh 5 4,zk 6 .eql 5 0] 6 (zq [zo 2 (.mv (.c (.bool false)))] .ret) .skip (zq [zm 7 0,zm 8 0,zh 9 8,zk 10 .sub 9 1,zo 11 (.idxA 9 (.t 7) (.t 10)),zt 12 9 11,zo 3 (.new [zU 0,.str [],zU 0,.str [],zI 0,zN,zN,zN,zI 0]),zp (.store 9 (.t 3) (.t 12))] (zq [zf 13 0 3,zl 14 13,zo 15 (.bin .eql (.t 14) (zu 5)),zm 16 15,zg 17 (.fieldA 0 (.t 3)) 16 false,zg 18 (.load false 1 (.t 17)) 16 false,zg 19 (.bin .eql (.t 18) (zu 3)) 16 false,zg 20 (.mv (.t 19)) 16 false,zg 21 (.fieldA 6 (.t 3)) 20 true,zg 22 (.load false 1 (.t 21)) 20 true,zg 23 (.call 89 [.t 22]) 20 true,zg 24 (.pick (.t 20) (.t 23) (.c (.bool false))) 16 false,zg 25 (.mv (.t 24)) 16 false,zg 26 (.fieldA 7 (.t 3)) 25 true,zg 27 (.load false 1 (.t 26)) 25 true,zg 28 (.call 89 [.t 27]) 25 true,zg 29 (.pick (.t 25) (.t 28) (.c (.bool false))) 16 false,zo 30 (.pick (.t 16) (.c (.bool true)) (.t 29)),zm 2 30] .ret))),[.t 2]⟩
theorem za89:cN Tryz.prog 89=some c89:=by kernel_rfl
def c47:AFn:=⟨17,zq [zo 4 (.mv (zi 0))] (.block 0 (.loop (zr [zm 5 4,zm 6 1,zh 7 6,zb 8 .lss 5 7] 8 .skip (.exit 0) (.seq (.block 1 (.reg [zm 11 0,zm 12 1,zm 13 4,zo 14 (.idxA 9 (.t 12) (.t 13)),zt 15 9 14,zx 16 90 [.t 11,.t 15]])) (.reg [zm 9 4,zk 10 .add 9 1,zm 4 10]))))),[]⟩
theorem za47:cN Tryz.prog 47=some c47:=by kernel_rfl
def c90:AFn:=⟨141,zq [zo 3 (.box (.t 1))] (zq [zm 11 0,zc 12 11,zf 13 6 12,zl 14 13,zm 4 14] (zq [zm 15 0,zc 16 15,zf 17 0 16,zf 18 2 17,zl 19 18,zh 20 19,zm 5 20] (zq [zm 21 0,zm 22 4,zf 23 2 3,zt 24 4 23,zx 25 138 [.t 21,.t 22,.t 24]] (zq [zf 26 0 3,zl 27 26] (.block 0 (zq [zo 32 (.bin .eql (.t 27) (zu 1)),zm 31 32] (.cond (.t 31) (zq [zf 34 2 3,zt 35 4 34,zm 36 0,zc 37 36,zf 38 3 37,zl 39 38,zm 40 0,zc 41 40,zf 42 4 41,zl 43 42,zx 44 135 [.t 35,.t 39,.t 43],zm 33 44,ze 45 0 33,ze 46 1 33,zm 6 45,zm 7 46] (.seq (.seq (.draw [zm 47 0,zm 48 0,zm 49 0,zm 50 0,zc 51 50,zf 52 3 51,zl 53 52,zf 54 1 3,zl 55 54,zo 56 (.hf (.fill 0 (.lit 1 [.str []] [(0,1)])) [.t 55]),zo 57 (.append 1 16 (.t 53) (.t 56)),zm 58 0,zc 59 58,zf 60 4 59,zl 61 60,zm 62 6,zo 63 (.hf (.fill 0 (.lit 1 [zU 0] [(0,1)])) [.t 62]),zy 64 61 63,zm 65 0,zc 66 65,zf 67 5 66,zl 68 67,zm 69 4,zo 70 (.hf (.fill 0 (.lit 1 [zI 0] [(0,1)])) [.t 69]),zo 71 (.append 1 8 (.t 68) (.t 70)),zc 72 47,zf 73 3 72,zs 73 57,zc 74 48,zf 75 4 74,zs 75 64,zc 76 49,zf 77 5 76,zs 77 71] [[],[],[],[],[],[],[10],[],[],[],[],[],[],[],[9,10,17],[],[],[],[],[],[],[9,10,16,17,24],[],[],[],[],[],[],[],[],[],[],[],[]]) (.reg [zp (.pf .apart [.t 63,.t 56]),zp (.pf .apart [.t 63,.t 52]),zp (.pf .apart [.t 63,.t 54]),zp (.pf .apart [.t 63,.t 60]),zp (.pf .apart [.t 63,.t 67]),zp (.pf .apart [.t 63,.t 53]),zp (.pf .apart [.t 63,.t 56]),zp (.pf .apart [.t 63,.t 57]),zp (.pf .apart [.t 63,.t 52]),zp (.pf .apart [.t 63,.t 54]),zp (.pf .apart [.t 63,.t 60]),zp (.pf .apart [.t 63,.t 67]),zp (.pf .apart [.t 70,.t 56]),zp (.pf .apart [.t 70,.t 52]),zp (.pf .apart [.t 70,.t 54]),zp (.pf .apart [.t 70,.t 60]),zp (.pf .apart [.t 70,.t 67]),zp (.pf .apart [.t 70,.t 53]),zp (.pf .apart [.t 70,.t 56]),zp (.pf .apart [.t 70,.t 57]),zp (.pf .apart [.t 70,.t 52]),zp (.pf .apart [.t 70,.t 54]),zp (.pf .apart [.t 70,.t 60]),zp (.pf .apart [.t 70,.t 67]),zp (.pf .apart [.t 70,.t 63]),zp (.pf .apart [.t 70,.t 52]),zp (.pf .apart [.t 70,.t 54]),zp (.pf .apart [.t 70,.t 60]),zp (.pf .apart [.t 70,.t 67]),zp (.pf .apart [.t 70,.t 61]),zp (.pf .apart [.t 70,.t 63]),zp (.pf .apart [.t 70,.t 64]),zp (.pf .apart [.t 70,.t 52]),zp (.pf .apart [.t 70,.t 54]),zp (.pf .apart [.t 70,.t 60]),zp (.pf .apart [.t 70,.t 67])])) (.reg [zm 78 0,zc 79 78,zf 80 6 79,zl 81 80,zk 82 .add 81 1,zc 83 78,zf 84 6 83,zs 84 82]))) (zq [zo 86 (.bin .eql (.t 27) (zu 2)),zm 85 86] (.cond (.t 85) (.reg [zm 87 0,zm 88 0,zf 89 1 3,zl 90 89,zx 91 140 [.t 88,.t 90],zm 92 4,zx 93 139 [.t 87,zu 2,.t 91,.t 92,zi 0]]) (zq [zo 95 (.bin .eql (.t 27) (zu 3)),zm 94 95] (.cond (.t 94) (zq [zm 96 0,zm 97 4,zx 98 139 [.t 96,zu 33,.t 97,zi 0,zi 0],zm 8 98] (zq [zm 99 0,zf 100 6 3,zl 101 100,zx 102 141 [.t 99,.t 101]] (zr [zf 103 7 3,zl 104 103,zh 105 104,zk 106 .gtr 105 0] 106 (zq [zo 9 (.mv (.c (.int .i64 (.negSucc 0))))] (zr [zf 107 6 3,zl 108 107,zx 109 142 [.t 108],zo 110 (.un .not (.t 109))] 110 (.reg [zm 111 0,zx 112 139 [.t 111,zu 32,zi 0,zi 0,zi 0],zm 9 112]) .skip (zq [zm 113 0,zm 114 8,zx 115 143 [.t 113,.t 114]] (zq [zm 116 9,zm 8 116] (.reg [zm 117 0,zf 118 7 3,zl 119 118,zx 120 141 [.t 117,.t 119]]))))) .skip (zq [zm 121 8,zk 122 .geq 121 0] (.cond (.t 122) (.reg [zm 123 0,zm 124 8,zx 125 143 [.t 123,.t 124]]) .skip))))) (zq [zo 127 (.bin .eql (.t 27) (zu 4)),zm 126 127] (.cond (.t 126) (zq [zm 128 0,zm 129 4,zx 130 139 [.t 128,zu 33,.t 129,zi 0,zi 0],zm 10 130] (zq [zm 131 0,zf 132 6 3,zl 133 132,zx 134 141 [.t 131,.t 133]] (zq [zm 135 0,zm 136 5,zx 137 139 [.t 135,zu 32,zi 0,zi 0,.t 136]] (.reg [zm 138 0,zm 139 10,zx 140 143 [.t 138,.t 139]])))) (.reg [zm 28 0,zm 29 4,zx 30 139 [.t 28,zu 34,.t 29,zi 0,zi 0]])))))))))))))),[]⟩
theorem za90:cN Tryz.prog 90=some c90:=by kernel_rfl
def c138:AFn:=⟨165,zq [zo 5 (.box (.t 2))] (zq [zm 12 0,zm 13 1,zx 14 173 [.t 12,.t 13]] (.seq (zq [zf 15 0 5,zl 16 15] (.block 0 (zq [zo 18 (.bin .eql (.t 16) (zu 1)),zm 17 18] (.cond (.t 17) (zq [zo 6 (.mv (zi 0))] (.seq (.block 1 (.loop (zr [zm 19 6,zm 20 0,zc 21 20,zf 22 0 21,zf 23 0 22,zl 24 23,zh 25 24,zb 26 .lss 19 25,zm 27 26,zg 28 (.mv (.t 0)) 27 true,zg 29 (.nilChk (.t 28)) 27 true,zg 30 (.fieldA 0 (.t 29)) 27 true,zg 31 (.fieldA 0 (.t 30)) 27 true,zg 32 (.load false 1 (.t 31)) 27 true,zg 33 (.mv (.t 6)) 27 true,zg 34 (.idxA 1 (.t 32) (.t 33)) 27 true,zg 35 (.load false 1 (.t 34)) 27 true,zg 36 (.fieldA 2 (.t 5)) 27 true,zg 37 (.load false 1 (.t 36)) 27 true,zg 38 (.bin .neq (.t 35) (.t 37)) 27 true,zo 39 (.pick (.t 27) (.t 38) (.c (.bool false)))] 39 .skip (.exit 1) (.block 2 (.reg [zm 40 6,zk 41 .add 40 1,zm 6 41]))))) (zr [zm 42 6,zm 43 0,zc 44 43,zf 45 0 44,zf 46 0 45,zl 47 46,zh 48 47,zb 49 .eql 42 48] 49 (.draw [zm 50 0,zm 51 0,zc 52 51,zf 53 0 52,zf 54 0 53,zl 55 54,zf 56 2 5,zl 57 56,zo 58 (.buildSl 1 [zI 0] [(0,1,.t 57)]),zo 59 (.append 1 8 (.t 55) (.t 58)),zc 60 50,zf 61 0 60,zf 62 0 61,zs 62 59] [[],[],[],[],[],[9],[],[],[],[],[],[],[],[]]) .skip (zq [zm 63 0,zm 64 1,zm 65 6,zx 66 139 [.t 63,zu 1,.t 64,.t 65,zi 0]] .ret)))) (zq [zo 68 (.bin .eql (.t 16) (zu 2)),zm 67 68] (.cond (.t 67) (zq [zm 69 0,zm 70 1,zm 71 0,zf 72 1 5,zl 73 72,zx 74 140 [.t 71,.t 73],zx 75 139 [.t 69,zu 2,.t 70,.t 74,zi 0]] .ret) .skip)))))) (.seq (zq [zo 7 (.mv (zi 0))] (.block 3 (.loop (zr [zm 76 7,zf 77 3 5,zl 78 77,zh 79 78,zb 80 .lss 76 79] 80 .skip (.exit 3) (.seq (.block 4 (.reg [zm 83 0,zm 84 1,zm 85 7,zb 86 .add 84 85,zf 87 3 5,zl 88 87,zm 89 7,zo 90 (.idxA 4 (.t 88) (.t 89)),zt 91 4 90,zx 92 138 [.t 83,.t 86,.t 91]])) (.reg [zm 81 7,zk 82 .add 81 1,zm 7 82])))))) (zr [zf 93 0 5,zl 94 93,zo 95 (.bin .eql (.t 94) (zu 3)),zm 96 95,zg 97 (.fieldA 3 (.t 5)) 96 true,zg 98 (.load false 1 (.t 97)) 96 true,zg 99 (.len false (.t 98)) 96 true,zg 100 (.bin .eql (.t 99) (zi 1)) 96 true,zo 101 (.pick (.t 96) (.t 100) (.c (.bool false)))] 101 (zq [zo 8 (.mv (zu 7))] (zr [zf 102 1 5,zl 103 102,zo 104 (.bin .eql (.t 103) (.c (.str [33])))] 104 (.reg [zo 8 (.mv (zu 8))]) .skip (zq [zm 105 0,zm 106 8,zm 107 1,zm 108 1,zx 109 139 [.t 105,.t 106,.t 107,.t 108,zi 0]] .ret))) .skip (zr [zf 110 0 5,zl 111 110,zo 112 (.bin .eql (.t 111) (zu 3))] 112 (zq [zf 114 3 5,zl 115 114,zo 116 (.idxA 4 (.t 115) (zi 0)),zt 117 4 116,zm 118 0,zc 119 118,zf 120 3 119,zl 121 120,zm 122 0,zc 123 122,zf 124 4 123,zl 125 124,zx 126 135 [.t 117,.t 121,.t 125],zm 113 126,ze 127 0 113,ze 128 1 113,zm 9 127,zm 10 128] (zr [zf 129 1 5,zl 130 129,zo 131 (.bin .eql (.t 130) (.c (.str [42]))),zm 132 131,zg 133 (.mv (.t 9)) 132 true,zg 134 (.bin .eql (.t 133) (zu 2)) 132 true,zo 135 (.pick (.t 132) (.t 134) (.c (.bool false)))] 135 (.reg [zm 136 0,zm 137 1,zm 138 1,zk 139 .add 138 1,zm 140 1,zx 141 139 [.t 136,zu 5,.t 137,.t 139,.t 140]]) (.reg [zm 142 0,zf 143 1 5,zl 144 143,zx 145 174 [.t 144],zm 146 1,zm 147 1,zm 148 1,zk 149 .add 148 1,zx 150 139 [.t 142,.t 145,.t 146,.t 147,.t 149]]) .ret)) .skip (zq [zo 11 (.mv (zi 0))] (zr [zf 151 3 5,zl 152 151,zh 153 152,zk 154 .eql 153 2] 154 (.reg [zm 155 1,zk 156 .add 155 1,zm 11 156]) .skip (.reg [zm 157 0,zf 158 1 5,zl 159 158,zx 160 175 [.t 159],zm 161 1,zm 162 1,zm 163 11,zx 164 139 [.t 157,.t 160,.t 161,.t 162,.t 163]])))))))),[]⟩
theorem za138:cN Tryz.prog 138=some c138:=by kernel_rfl
def c173:AFn:=⟨17,zq [zm 4 1,zm 5 0,zc 6 5,zf 7 0 6,zf 8 1 7,zl 9 8,zb 10 .geq 4 9] (.cond (.t 10) (.reg [zm 11 0,zm 12 1,zk 13 .add 12 1,zc 14 11,zf 15 0 14,zf 16 1 15,zs 16 13]) .skip),[]⟩
theorem za173:cN Tryz.prog 173=some c173:=by kernel_rfl
def c139:AFn:=⟨34,zq [zo 10 (.mv (zi 0))] (zq [zm 11 0,zm 12 0,zc 13 12,zf 14 0 13,zf 15 2 14,zl 16 15,zm 17 1,zm 18 2,zm 19 3,zm 20 4,zo 21 (.build [zU 0,zI 0,zI 0,zI 0] [(0,1,.t 17),(1,1,.t 18),(2,1,.t 19),(3,1,.t 20)]),zo 22 (.buildSl 1 [zU 0,zI 0,zI 0,zI 0] [(0,4,.t 21)]),zo 23 (.append 4 32 (.t 16) (.t 22)),zc 24 11,zf 25 0 24,zf 26 2 25,zs 26 23] (zq [zm 27 0,zc 28 27,zf 29 0 28,zf 30 2 29,zl 31 30,zh 32 31,zk 33 .sub 32 1,zm 10 33] .ret)),[.t 10]⟩
theorem za139:cN Tryz.prog 139=some c139:=by kernel_rfl
def c140:AFn:=⟨32,zq [zo 4 (.mv (zi 0))] (.seq (zq [zm 6 0,zc 7 6,zf 8 3 7,zl 9 8,zh 10 9,zk 11 .sub 10 1,zm 5 11] (.block 0 (.loop (zr [zm 12 5,zk 13 .geq 12 0] 13 .skip (.exit 0) (.seq (.block 1 (zq [zm 16 0,zc 17 16,zf 18 3 17,zl 19 18,zm 20 5,zd 21 19 20,zl 22 21,zm 23 1,zb 24 .eql 22 23] (.cond (.t 24) (zq [zm 25 0,zc 26 25,zf 27 5 26,zl 28 27,zm 29 5,zd 30 28 29,zl 31 30,zm 4 31] .ret) .skip))) (.reg [zm 14 5,zk 15 .sub 14 1,zm 5 15])))))) (zq [zo 4 (.mv (zi 0))] .ret)),[.t 4]⟩
theorem za140:cN Tryz.prog 140=some c140:=by kernel_rfl
def c174:AFn:=⟨24,zq [zo 2 (.mv (zu 0))] (zq [zo 6 (.buildSl 12 [.str []] [(0,1,.c (.str [43])),(1,1,.c (.str [45])),(2,1,.c (.str [42])),(3,1,.c (.str [47])),(4,1,.c (.str [61,61])),(5,1,.c (.str [33,61])),(6,1,.c (.str [60,61])),(7,1,.c (.str [62,61])),(8,1,.c (.str [60])),(9,1,.c (.str [62])),(10,1,.c (.str [38,38])),(11,1,.c (.str [124,124]))]),zm 3 6] (zq [zo 7 (.buildSl 12 [zU 0] [(0,1,zu 3),(1,1,zu 4),(2,1,zu 5),(3,1,zu 6),(4,1,zu 9),(5,1,zu 10),(6,1,zu 11),(7,1,zu 12),(8,1,zu 13),(9,1,zu 14),(10,1,zu 15),(11,1,zu 16)]),zm 4 7] (.seq (zq [zo 5 (.mv (zi 0))] (.block 0 (.loop (zr [zm 8 5,zm 9 3,zh 10 9,zb 11 .lss 8 10] 11 .skip (.exit 0) (.seq (.block 1 (zq [zm 14 3,zm 15 5,zd 16 14 15,zl 17 16,zm 18 0,zb 19 .eql 17 18] (.cond (.t 19) (zq [zm 20 4,zm 21 5,zd 22 20 21,zl 23 22,zm 2 23] .ret) .skip))) (.reg [zm 12 5,zk 13 .add 12 1,zm 5 13])))))) (zq [zo 2 (.mv (zu 0))] .ret)))),[.t 2]⟩
theorem za174:cN Tryz.prog 174=some c174:=by kernel_rfl
def c175:AFn:=⟨21,zq [zo 2 (.mv (zu 0))] (zq [zo 5 (.buildSl 15 [.str []] [(0,1,.c (.str [118,101,99])),(1,1,.c (.str [120])),(2,1,.c (.str [121])),(3,1,.c (.str [122])),(4,1,.c (.str [100,111,116])),(5,1,.c (.str [99,114,111,115,115])),(6,1,.c (.str [117,110,105,116])),(7,1,.c (.str [115,113,114,116])),(8,1,.c (.str [115,105,110])),(9,1,.c (.str [99,111,115])),(10,1,.c (.str [97,98,115])),(11,1,.c (.str [102,108,111,111,114])),(12,1,.c (.str [109,105,110])),(13,1,.c (.str [109,97,120])),(14,1,.c (.str [115,97,109,112,108,101]))]),zm 3 5] (.seq (zq [zo 4 (.mv (zi 0))] (.block 0 (.loop (zr [zm 6 4,zm 7 3,zh 8 7,zb 9 .lss 6 8] 9 .skip (.exit 0) (.seq (.block 1 (zq [zm 12 3,zm 13 4,zd 14 12 13,zl 15 14,zm 16 0,zb 17 .eql 15 16] (.cond (.t 17) (zq [zm 18 4,zv 19 .u8 18,zo 20 (.bin .add (zu 17) (.t 19)),zm 2 20] .ret) .skip))) (.reg [zm 10 4,zk 11 .add 10 1,zm 4 11])))))) (zq [zo 2 (.mv (zu 0))] .ret))),[.t 2]⟩
theorem za175:cN Tryz.prog 175=some c175:=by kernel_rfl
def c141:AFn:=⟨49,zq [zm 6 0,zc 7 6,zf 8 3 7,zl 9 8,zh 10 9,zm 11 0,zc 12 11,zf 13 6 12,zl 14 13,zm 4 10,zm 5 14] (zq [zm 15 0,zm 16 1,zx 17 47 [.t 15,.t 16]] (.reg [zm 18 0,zm 19 0,zm 20 0,zm 21 0,zm 22 0,zc 23 22,zf 24 3 23,zl 25 24,zm 26 4,zo 27 (.sl 1 (.t 25) none (some (.t 26)) none),zm 28 0,zc 29 28,zf 30 4 29,zl 31 30,zm 32 4,zo 33 (.sl 1 (.t 31) none (some (.t 32)) none),zm 34 0,zc 35 34,zf 36 5 35,zl 37 36,zm 38 4,zo 39 (.sl 1 (.t 37) none (some (.t 38)) none),zm 40 5,zc 41 18,zf 42 3 41,zs 42 27,zc 43 19,zf 44 4 43,zs 44 33,zc 45 20,zf 46 5 45,zs 46 39,zc 47 21,zf 48 6 47,zs 48 40])),[]⟩
theorem za141:cN Tryz.prog 141=some c141:=by kernel_rfl
def c142:AFn:=⟨31,zq [zo 2 (.mv (.c (.bool false)))] (zr [zm 4 0,zh 5 4,zk 6 .eql 5 0] 6 (zq [zo 2 (.mv (.c (.bool false)))] .ret) .skip (zq [zm 7 0,zm 8 0,zh 9 8,zk 10 .sub 9 1,zo 11 (.idxA 9 (.t 7) (.t 10)),zt 12 9 11,zo 3 (.new [zU 0,.str [],zU 0,.str [],zI 0,zN,zN,zN,zI 0]),zp (.store 9 (.t 3) (.t 12))] (zq [zf 13 0 3,zl 14 13,zo 15 (.bin .eql (.t 14) (zu 5)),zm 16 15,zg 17 (.fieldA 0 (.t 3)) 16 false,zg 18 (.load false 1 (.t 17)) 16 false,zg 19 (.bin .eql (.t 18) (zu 3)) 16 false,zg 20 (.mv (.t 19)) 16 false,zg 21 (.fieldA 6 (.t 3)) 20 true,zg 22 (.load false 1 (.t 21)) 20 true,zg 23 (.call 142 [.t 22]) 20 true,zg 24 (.pick (.t 20) (.t 23) (.c (.bool false))) 16 false,zg 25 (.mv (.t 24)) 16 false,zg 26 (.fieldA 7 (.t 3)) 25 true,zg 27 (.load false 1 (.t 26)) 25 true,zg 28 (.call 142 [.t 27]) 25 true,zg 29 (.pick (.t 25) (.t 28) (.c (.bool false))) 16 false,zo 30 (.pick (.t 16) (.c (.bool true)) (.t 29)),zm 2 30] .ret))),[.t 2]⟩
theorem za142:cN Tryz.prog 142=some c142:=by kernel_rfl
def c143:AFn:=⟨18,.reg [zm 4 0,zc 5 4,zf 6 0 5,zf 7 2 6,zl 8 7,zm 9 1,zm 10 0,zc 11 10,zf 12 0 11,zf 13 2 12,zl 14 13,zh 15 14,zo 16 (.idxA 4 (.t 8) (.t 9)),zf 17 3 16,zs 17 15],[]⟩
theorem za143:cN Tryz.prog 143=some c143:=by kernel_rfl
def c24:AFn:=⟨57,zq [zo 1 (.box (.t 0)),zo 2 (.mv (zi 0))] (zq [zf 6 2 1,zl 7 6,zh 8 7,zm 3 8] (zr [zf 9 1 1,zl 10 9,zk 11 .lss 10 4,zm 12 11,zg 13 (.fieldA 1 (.t 1)) 12 false,zg 14 (.load false 1 (.t 13)) 12 false,zg 15 (.bin .gtr (.t 14) (zi 250)) 12 false,zo 16 (.pick (.t 12) (.c (.bool true)) (.t 15)),zm 17 16,zg 18 (.mv (.t 3)) 17 false,zg 19 (.bin .lss (.t 18) (zi 1)) 17 false,zo 20 (.pick (.t 17) (.c (.bool true)) (.t 19)),zm 21 20,zg 22 (.mv (.t 3)) 21 false,zg 23 (.bin .gtr (.t 22) (zi 65536)) 21 false,zo 24 (.pick (.t 21) (.c (.bool true)) (.t 23)),zm 25 24,zg 26 (.fieldA 0 (.t 1)) 25 false,zg 27 (.load false 1 (.t 26)) 25 false,zg 28 (.len false (.t 27)) 25 false,zg 29 (.bin .gtr (.t 28) (zi 65536)) 25 false,zo 30 (.pick (.t 25) (.c (.bool true)) (.t 29))] 30 (zq [zo 2 (.mv (zi 120))] .ret) .skip (.seq (zq [zo 4 (.mv (zi 0))] (.block 0 (.loop (zr [zm 31 4,zm 32 3,zb 33 .lss 31 32] 33 .skip (.exit 0) (.seq (.block 1 (zq [zt 36 3 1,zf 37 2 1,zl 38 37,zm 39 4,zo 40 (.idxA 4 (.t 38) (.t 39)),zt 41 4 40,zx 42 50 [.t 36,.t 41],zo 43 (.un .not (.t 42))] (.cond (.t 43) (zq [zo 2 (.mv (zi 120))] .ret) .skip))) (.reg [zm 34 4,zk 35 .add 34 1,zm 4 35])))))) (.seq (zq [zf 44 2 1,zl 45 44,zm 46 3,zk 47 .sub 46 1,zo 48 (.idxA 4 (.t 45) (.t 47)),zf 49 0 48,zl 50 49,zm 5 50] (zq [zm 51 5,zo 52 (.bin .neq (.t 51) (zu 32)),zm 53 52,zg 54 (.mv (.t 5)) 53 true,zg 55 (.bin .neq (.t 54) (zu 34)) 53 true,zo 56 (.pick (.t 53) (.t 55) (.c (.bool false)))] (.cond (.t 56) (zq [zo 2 (.mv (zi 120))] .ret) .skip))) (zq [zo 2 (.mv (zi 0))] .ret))))),[.t 2]⟩
theorem za24:cN Tryz.prog 24=some c24:=by kernel_rfl
def c50:AFn:=⟨149,zq [zo 2 (.box (.t 0)),zo 3 (.box (.t 1)),zo 4 (.mv (.c (.bool false)))] (zq [zf 6 3 3,zl 7 6,zk 8 .geq 7 0,zm 9 8,zg 10 (.fieldA 3 (.t 3)) 9 true,zg 11 (.load false 1 (.t 10)) 9 true,zg 12 (.fieldA 2 (.t 2)) 9 true,zg 13 (.load false 1 (.t 12)) 9 true,zg 14 (.len false (.t 13)) 9 true,zg 15 (.bin .lss (.t 11) (.t 14)) 9 true,zo 16 (.pick (.t 9) (.t 15) (.c (.bool false))),zm 5 16] (.seq (zq [zf 17 0 3,zl 18 17,zx 19 93 [.t 18]] (.block 0 (zq [zk 21 .eql 19 2,zm 20 21] (.cond (.t 20) (zq [zt 22 3 2,zf 23 1 3,zl 24 23,zx 25 94 [.t 22,.t 24],zm 26 25,zg 27 (.load true 3 (.t 2)) 26 true,zg 28 (.fieldA 2 (.t 3)) 26 true,zg 29 (.load false 1 (.t 28)) 26 true,zg 30 (.call 94 [.t 27,.t 29]) 26 true,zo 31 (.pick (.t 26) (.t 30) (.c (.bool false))),zm 32 31,zg 33 (.fieldA 3 (.t 3)) 32 true,zg 34 (.load false 1 (.t 33)) 32 true,zg 35 (.bin .eql (.t 34) (zi 0)) 32 true,zo 36 (.pick (.t 32) (.t 35) (.c (.bool false))),zm 4 36] .ret) (zq [zk 38 .eql 19 3,zm 37 38] (.cond (.t 37) (zq [zt 39 3 2,zf 40 1 3,zl 41 40,zx 42 94 [.t 39,.t 41],zm 43 42,zg 44 (.load true 3 (.t 2)) 43 true,zg 45 (.fieldA 2 (.t 3)) 43 true,zg 46 (.load false 1 (.t 45)) 43 true,zg 47 (.call 94 [.t 44,.t 46]) 43 true,zo 48 (.pick (.t 43) (.t 47) (.c (.bool false))),zm 49 48,zg 50 (.load true 3 (.t 2)) 49 true,zg 51 (.fieldA 3 (.t 3)) 49 true,zg 52 (.load false 1 (.t 51)) 49 true,zg 53 (.call 94 [.t 50,.t 52]) 49 true,zo 54 (.pick (.t 49) (.t 53) (.c (.bool false))),zm 4 54] .ret) .skip)))))) (.seq (zq [zf 55 0 3,zl 56 55] (.block 1 (zq [zo 58 (.bin .eql (.t 56) (zu 1)),zm 57 58] (.cond (.t 57) (zq [zt 59 3 2,zf 60 1 3,zl 61 60,zx 62 94 [.t 59,.t 61],zm 63 62,zg 64 (.fieldA 2 (.t 3)) 63 true,zg 65 (.load false 1 (.t 64)) 63 true,zg 66 (.bin .geq (.t 65) (zi 0)) 63 true,zo 67 (.pick (.t 63) (.t 66) (.c (.bool false))),zm 68 67,zg 69 (.fieldA 2 (.t 3)) 68 true,zg 70 (.load false 1 (.t 69)) 68 true,zg 71 (.fieldA 0 (.t 2)) 68 true,zg 72 (.load false 1 (.t 71)) 68 true,zg 73 (.len false (.t 72)) 68 true,zg 74 (.bin .lss (.t 70) (.t 73)) 68 true,zo 75 (.pick (.t 68) (.t 74) (.c (.bool false))),zm 76 75,zg 77 (.fieldA 3 (.t 3)) 76 true,zg 78 (.load false 1 (.t 77)) 76 true,zg 79 (.bin .eql (.t 78) (zi 0)) 76 true,zo 80 (.pick (.t 76) (.t 79) (.c (.bool false))),zm 4 80] .ret) (zq [zo 82 (.bin .eql (.t 56) (zu 17)),zm 81 82] (.cond (.t 81) (zq [zt 83 3 2,zf 84 1 3,zl 85 84,zx 86 94 [.t 83,.t 85],zm 87 86,zg 88 (.load true 3 (.t 2)) 87 true,zg 89 (.fieldA 2 (.t 3)) 87 true,zg 90 (.load false 1 (.t 89)) 87 true,zg 91 (.call 94 [.t 88,.t 90]) 87 true,zo 92 (.pick (.t 87) (.t 91) (.c (.bool false))),zm 93 92,zg 94 (.fieldA 2 (.t 3)) 93 true,zg 95 (.load false 1 (.t 94)) 93 true,zg 96 (.fieldA 1 (.t 2)) 93 true,zg 97 (.load false 1 (.t 96)) 93 true,zg 98 (.bin .sub (.t 97) (zi 2)) 93 true,zg 99 (.bin .lss (.t 95) (.t 98)) 93 true,zo 100 (.pick (.t 93) (.t 99) (.c (.bool false))),zm 101 100,zg 102 (.fieldA 3 (.t 3)) 101 true,zg 103 (.load false 1 (.t 102)) 101 true,zg 104 (.bin .eql (.t 103) (zi 0)) 101 true,zo 105 (.pick (.t 101) (.t 104) (.c (.bool false))),zm 4 105] .ret) (zq [zo 107 (.bin .eql (.t 56) (zu 32)),zm 106 107] (.cond (.t 106) (zq [zf 108 1 3,zl 109 108,zk 110 .eql 109 0,zm 111 110,zg 112 (.fieldA 2 (.t 3)) 111 true,zg 113 (.load false 1 (.t 112)) 111 true,zg 114 (.bin .eql (.t 113) (zi 0)) 111 true,zo 115 (.pick (.t 111) (.t 114) (.c (.bool false))),zm 116 115,zg 117 (.mv (.t 5)) 116 true,zo 118 (.pick (.t 116) (.t 117) (.c (.bool false))),zm 4 118] .ret) (zq [zo 120 (.bin .eql (.t 56) (zu 33)),zm 119 120] (.cond (.t 119) (zq [zt 121 3 2,zf 122 1 3,zl 123 122,zx 124 94 [.t 121,.t 123],zm 125 124,zg 126 (.fieldA 2 (.t 3)) 125 true,zg 127 (.load false 1 (.t 126)) 125 true,zg 128 (.bin .eql (.t 127) (zi 0)) 125 true,zo 129 (.pick (.t 125) (.t 128) (.c (.bool false))),zm 130 129,zg 131 (.mv (.t 5)) 130 true,zo 132 (.pick (.t 130) (.t 131) (.c (.bool false))),zm 4 132] .ret) (zq [zo 134 (.bin .eql (.t 56) (zu 34)),zm 133 134] (.cond (.t 133) (zq [zt 135 3 2,zf 136 1 3,zl 137 136,zx 138 94 [.t 135,.t 137],zm 139 138,zg 140 (.fieldA 2 (.t 3)) 139 true,zg 141 (.load false 1 (.t 140)) 139 true,zg 142 (.bin .eql (.t 141) (zi 0)) 139 true,zo 143 (.pick (.t 139) (.t 142) (.c (.bool false))),zm 144 143,zg 145 (.fieldA 3 (.t 3)) 144 true,zg 146 (.load false 1 (.t 145)) 144 true,zg 147 (.bin .eql (.t 146) (zi 0)) 144 true,zo 148 (.pick (.t 144) (.t 147) (.c (.bool false))),zm 4 148] .ret) .skip)))))))))))) (zq [zo 4 (.mv (.c (.bool false)))] .ret)))),[.t 4]⟩
theorem za50:cN Tryz.prog 50=some c50:=by kernel_rfl
def c93:AFn:=⟨35,zq [zo 2 (.mv (zi 0))] (.seq (zq [zm 3 0] (.block 0 (zr [zo 5 (.bin .eql (.t 3) (zu 2)),zm 4 5] 4 .skip (zq [zo 6 (.bin .eql (.t 3) (zu 7)),zm 4 6] (.cond (.t 4) .skip (zq [zo 7 (.bin .eql (.t 3) (zu 8)),zm 4 7] (.cond (.t 4) .skip (zq [zo 8 (.bin .eql (.t 3) (zu 18)),zm 4 8] (.cond (.t 4) .skip (zq [zo 9 (.bin .eql (.t 3) (zu 19)),zm 4 9] (.cond (.t 4) .skip (zq [zo 10 (.bin .eql (.t 3) (zu 20)),zm 4 10] (.cond (.t 4) .skip (zq [zo 11 (.bin .eql (.t 3) (zu 23)),zm 4 11] (.cond (.t 4) .skip (zq [zo 12 (.bin .eql (.t 3) (zu 24)),zm 4 12] (.cond (.t 4) .skip (zq [zo 13 (.bin .eql (.t 3) (zu 25)),zm 4 13] (.cond (.t 4) .skip (zq [zo 14 (.bin .eql (.t 3) (zu 26)),zm 4 14] (.cond (.t 4) .skip (zq [zo 15 (.bin .eql (.t 3) (zu 27)),zm 4 15] (.cond (.t 4) .skip (.reg [zo 16 (.bin .eql (.t 3) (zu 28)),zm 4 16]))))))))))))))))))))) (.cond (.t 4) (zq [zo 2 (.mv (zi 2))] .ret) (zr [zo 18 (.bin .eql (.t 3) (zu 3)),zm 17 18] 17 .skip (zq [zo 19 (.bin .eql (.t 3) (zu 4)),zm 17 19] (.cond (.t 17) .skip (zq [zo 20 (.bin .eql (.t 3) (zu 5)),zm 17 20] (.cond (.t 17) .skip (zq [zo 21 (.bin .eql (.t 3) (zu 6)),zm 17 21] (.cond (.t 17) .skip (zq [zo 22 (.bin .eql (.t 3) (zu 9)),zm 17 22] (.cond (.t 17) .skip (zq [zo 23 (.bin .eql (.t 3) (zu 10)),zm 17 23] (.cond (.t 17) .skip (zq [zo 24 (.bin .eql (.t 3) (zu 11)),zm 17 24] (.cond (.t 17) .skip (zq [zo 25 (.bin .eql (.t 3) (zu 12)),zm 17 25] (.cond (.t 17) .skip (zq [zo 26 (.bin .eql (.t 3) (zu 13)),zm 17 26] (.cond (.t 17) .skip (zq [zo 27 (.bin .eql (.t 3) (zu 14)),zm 17 27] (.cond (.t 17) .skip (zq [zo 28 (.bin .eql (.t 3) (zu 15)),zm 17 28] (.cond (.t 17) .skip (zq [zo 29 (.bin .eql (.t 3) (zu 16)),zm 17 29] (.cond (.t 17) .skip (zq [zo 30 (.bin .eql (.t 3) (zu 21)),zm 17 30] (.cond (.t 17) .skip (zq [zo 31 (.bin .eql (.t 3) (zu 22)),zm 17 31] (.cond (.t 17) .skip (zq [zo 32 (.bin .eql (.t 3) (zu 29)),zm 17 32] (.cond (.t 17) .skip (zq [zo 33 (.bin .eql (.t 3) (zu 30)),zm 17 33] (.cond (.t 17) .skip (.reg [zo 34 (.bin .eql (.t 3) (zu 31)),zm 17 34]))))))))))))))))))))))))))))))) (.cond (.t 17) (zq [zo 2 (.mv (zi 3))] .ret) .skip)))))) (zq [zo 2 (.mv (zi 0))] .ret)),[.t 2]⟩
theorem za93:cN Tryz.prog 93=some c93:=by kernel_rfl
def c94:AFn:=⟨13,zq [zo 2 (.box (.t 0)),zo 4 (.mv (.c (.bool false)))] (zq [zm 5 1,zk 6 .geq 5 0,zm 7 6,zg 8 (.mv (.t 1)) 7 true,zg 9 (.fieldA 1 (.t 2)) 7 true,zg 10 (.load false 1 (.t 9)) 7 true,zg 11 (.bin .lss (.t 8) (.t 10)) 7 true,zo 12 (.pick (.t 7) (.t 11) (.c (.bool false))),zm 4 12] .ret),[.t 4]⟩
theorem za94:cN Tryz.prog 94=some c94:=by kernel_rfl
def c26:AFn:=⟨44,zq [zo 1 (.box (.t 0)),zo 2 (.mv (.c (.str [])))] (zq [zo 5 (.buildSl 34 [.str []] [(0,1,.c (.str [99,111,110,115,116])),(1,1,.c (.str [109,111,118,101])),(2,1,.c (.str [97,100,100])),(3,1,.c (.str [115,117,98])),(4,1,.c (.str [116,105,109,101,115])),(5,1,.c (.str [111,118,101,114])),(6,1,.c (.str [110,101,103])),(7,1,.c (.str [110,111,116])),(8,1,.c (.str [101,113])),(9,1,.c (.str [110,101])),(10,1,.c (.str [108,101])),(11,1,.c (.str [103,101])),(12,1,.c (.str [108,116])),(13,1,.c (.str [103,116])),(14,1,.c (.str [97,110,100])),(15,1,.c (.str [111,114])),(16,1,.c (.str [118,101,99])),(17,1,.c (.str [120])),(18,1,.c (.str [121])),(19,1,.c (.str [122])),(20,1,.c (.str [100,111,116])),(21,1,.c (.str [99,114,111,115,115])),(22,1,.c (.str [117,110,105,116])),(23,1,.c (.str [115,113,114,116])),(24,1,.c (.str [115,105,110])),(25,1,.c (.str [99,111,115])),(26,1,.c (.str [97,98,115])),(27,1,.c (.str [102,108,111,111,114])),(28,1,.c (.str [109,105,110])),(29,1,.c (.str [109,97,120])),(30,1,.c (.str [115,97,109,112,108,101])),(31,1,.c (.str [106,117,109,112])),(32,1,.c (.str [117,110,108,101,115,115])),(33,1,.c (.str [114,101,116,117,114,110]))]),zm 3 5] (zq [zf 6 0 1,zl 7 6,zv 8 .i64 7,zx 9 53 [.t 8],zo 10 (.bin .add (.c (.str [111,112])) (.t 9)),zm 4 10] (zr [zf 11 0 1,zl 12 11,zo 13 (.bin .geq (.t 12) (zu 1)),zm 14 13,zg 15 (.fieldA 0 (.t 1)) 14 true,zg 16 (.load false 1 (.t 15)) 14 true,zg 17 (.conv .i64 (.t 16)) 14 true,zg 18 (.mv (.t 3)) 14 true,zg 19 (.len false (.t 18)) 14 true,zg 20 (.bin .leq (.t 17) (.t 19)) 14 true,zo 21 (.pick (.t 14) (.t 20) (.c (.bool false)))] 21 (.reg [zm 22 3,zf 23 0 1,zl 24 23,zo 25 (.bin .sub (.t 24) (zu 1)),zd 26 22 25,zl 27 26,zm 4 27]) .skip (.seq (.draw [zm 28 4,zo 29 (.bin .add (.t 28) (.c (.str [32]))),zf 30 1 1,zl 31 30,zx 32 53 [.t 31],zb 33 .add 29 32,zo 34 (.bin .add (.t 33) (.c (.str [32]))),zf 35 2 1,zl 36 35,zx 37 53 [.t 36],zb 38 .add 34 37,zo 39 (.bin .add (.t 38) (.c (.str [32]))),zf 40 3 1,zl 41 40,zx 42 53 [.t 41],zb 43 .add 39 42,zm 2 43] [[],[],[],[],[],[],[],[],[4],[],[],[],[],[4,9],[],[],[]]) .ret)))),[.t 2]⟩
theorem za26:cN Tryz.prog 26=some c26:=by kernel_rfl
def c53:AFn:=⟨34,zq [zo 2 (.mv (.c (.str [])))] (zq [zm 6 0,zv 7 .u64 6,zo 3 (.mv (.c (.str []))),zm 4 7] (zr [zm 8 0,zk 9 .lss 8 0] 9 (.reg [zm 10 0,zv 11 .u64 10,zo 12 (.un .neg (.t 11)),zo 3 (.mv (.c (.str [45]))),zm 4 12]) .skip (zq [zm 13 4,zo 14 (.bin .rem (.t 13) (.c (.int .u64 (.ofNat 10)))),zo 15 (.bin .add (.c (.int .u64 (.ofNat 48))) (.t 14)),zv 16 .u8 15,zo 17 (.buildSl 1 [zU 0] [(0,1,.t 16)]),zo 18 (.convBS (.t 17)),zm 5 18] (.seq (.block 0 (.loop (zr [zm 19 4,zo 20 (.bin .geq (.t 19) (.c (.int .u64 (.ofNat 10))))] 20 .skip (.exit 0) (.block 1 (zq [zm 21 4,zo 22 (.bin .quo (.t 21) (.c (.int .u64 (.ofNat 10)))),zm 4 22] (.reg [zm 23 4,zo 24 (.bin .rem (.t 23) (.c (.int .u64 (.ofNat 10)))),zo 25 (.bin .add (.c (.int .u64 (.ofNat 48))) (.t 24)),zv 26 .u8 25,zo 27 (.buildSl 1 [zU 0] [(0,1,.t 26)]),zo 28 (.convBS (.t 27)),zm 29 5,zb 30 .add 28 29,zm 5 30])))))) (zq [zm 31 3,zm 32 5,zb 33 .add 31 32,zm 2 33] .ret))))),[.t 2]⟩
theorem za53:cN Tryz.prog 53=some c53:=by kernel_rfl
end
end Go.Proofs.Wo
