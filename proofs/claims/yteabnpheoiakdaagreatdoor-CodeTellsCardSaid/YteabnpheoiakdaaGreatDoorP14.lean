/- Part of a proof (YE8 YD2 YT3 YF1 YF2 YF3 YF4 YF5 YF6); no condition. -/
import Derived.Test.YteabnpheoiakdaaGreatDoorProg
import Derived.KernelRfl
import Derived.Test.YteabnpheoiakdaaGreatDoorP8
import Derived.Test.YteabnpheoiakdaaGreatDoorP9
import Derived.Test.YteabnpheoiakdaaGreatDoorP11
import Derived.Test.YteabnpheoiakdaaGreatDoorP13
set_option linter.unusedSimpArgs false
set_option linter.unusedVariables false
set_option linter.unnecessarySimpa false
namespace Go.Proofs.Wo
open Go.Abs Go.Abs.S
theorem li_all(N:Nat):N≤1000→LiT N:=by
 induction N using Nat.strongRecOn with
 | _ N ih=>exact fun h=>li_step h fun M hM=>ih M hM om
theorem retL_last(x:St):∀l:List St,retL (l++[x])=retS x
 | []=>rfl
 | [_]=>rfl
 | _::y::l=>by
  have:=retL_last x (y::l)
  simp only[List.cons_append]at this ⊢
  simp only[retL]
  exact this
theorem last_of{l:List St}(h:l≠[]):∃x j,l.length=j+1∧l[j]?=some x∧retL l=retS x:=by
 obtain⟨l',x,rfl⟩:∃l' x,l=l'++[x]:=⟨l.dropLast,l.getLast h,(List.dropLast_concat_getLast h).symm⟩
 exact⟨x,l'.length,by simp,by simp,retL_last x l'⟩
theorem treturns_spec:∀(N:Nat) {l:List St} {C:List AVal} {v:AVal} {P:Nat→Prop} {H:AHeap},sizesS l≤N→N≤1000000→SlK P H 9 v l.length C→XSs P H l C→ACalls Tryz.prog natT 55 [v] H fun u H'=>u=.bool (retL l)∧H=H':=by
 intro N
 induction N with
 | zero=>
  intro l C v P H hsz hN z1 z2
  have hl0:l=[]:=by
   cases l with
   | nil=>rfl
   | cons x l=>have:=sizeS_pos x; simp only[sizesS]at hsz; omega
  subst hl0
  have ln:=z1.len
  have h0:(([]:List St).length:Int)=0:=rfl
  refine acalls_ofN rfl za55 rfl ?_
  simp only[c55,sA,sB,seval,ln,h0]
  exact⟨tt,tt⟩
 | succ N ih=>
  intro l C v P H hsz hN z1 z2
  have ln:=z1.len
  by_cases hl0:l=[]
  ·subst hl0
   have h0:(([]:List St).length:Int)=0:=rfl
   refine acalls_ofN rfl za55 rfl ?_
   simp only[c55,sA,sB,seval,ln,h0]
   exact⟨tt,tt⟩
  obtain⟨x,j,hj,he,hr⟩:=last_of hl0
  have hjl:j<l.length:=om
  have hlen:=len_sizesS l
  have hn0:¬(l.length:Int)=0:=om
  have wj:IntKind.i64.wrap ((l.length:Int)-1)=(j:Int):=w64
  have ix:=z1.idx hjl
  have pt:=z1.pt hjl
  have hsm:=size_memS (List.mem_of_getElem? he)
  have hx:=z2.at he
  obtain⟨k,s,e,body,els,line⟩:=x
  obtain⟨ce,vb,Cb,ve,Ce,hcell,x1,y1,y2,y3,y4⟩:=hx
  obtain⟨c0,c1,c2,c3,rfl⟩:∃a b c d,ce=[a,b,c,d]:=by
   have:=x1.len
   match ce,this with
   | [a,b,c,d],_=>exact⟨a,b,c,d,rfl⟩
  rw[hcell]at pt
  have hsz2:(St.mk k s e body els line).size=e.size+sizesS body+sizesS els+1:=rfl
  have hrs:retS (.mk k s e body els line)=(decide (k=5)||(decide (k=3)&&(retL body&&retL els))):=rfl
  have nc:=pt.chk
  have f0:=pt.fld0
  have f6:=pt.fld 6
  have f7:=pt.fld 7
  have l0:oLoad false 1 H (placeK 9 v j)=some (.int .u8 (k:Int)):=pt.load0 rfl
  have l6:oLoad false 1 H (fp (placeK 9 v j) 6)=some vb:=pt.load (o:=6) rfl
  have l7:oLoad false 1 H (fp (placeK 9 v j) 7)=some ve:=pt.load (o:=7) rfl
  rw[hr,hrs]
  refine acalls_ofN rfl za55 rfl ?_
  by_cases h5:k=5
  ·subst h5
   simp only[c55,sA,sB,seval,ln,hn0,wj,ix,nc,f0,l0,Int.cast_ofNat_Int]
   exact⟨tt,tt⟩
  have h5':¬(k:Int)=5:=om
  by_cases h3:k=3
  ·subst h3
   simp only[c55,sA,sB,seval,ln,hn0,wj,ix,nc,f0,l0,Int.cast_ofNat_Int,f6,l6]
   refine (ih om om y1 y2).mono ?_
   rintro _ _ ⟨rfl,rfl⟩
   cases hb:retL body with
   | false=>
    simp only[sA,sB,seval]
    exact⟨tt,tt⟩
   | true=>
    simp only[sA,sB,seval,nc,f7,l7]
    refine (ih om om y3 y4).mono ?_
    rintro _ _ ⟨rfl,rfl⟩
    simp only[sA,sB,seval]
    exact⟨by simp,tt⟩
  ·have h3':¬(k:Int)=3:=om
   simp only[c55,sA,sB,seval,ln,hn0,wj,ix,nc,f0,l0,h5',h3',h5,h3]
   exact⟨tt,tt⟩
theorem tcheck_spec{l:List St}{C:List AVal}{v:AVal}{n0:Nat}{H:AHeap}(z1:SlK (·<n0) H 9 v l.length C)(z2:XSws (·<n0) H l C)(hn:n0≤H.next) :
  ACalls Tryz.prog natT 27 [v] H fun u H'=>u=.agg (flI (checkF l))∧Ext H.next H H':=by
 refine acalls_ofN rfl za27 rfl ?_
 obtain⟨H1,m1,r1,n1,k1⟩:=row_newL H [.int .i64 0,.int .i64 0] (n:=2) rfl
 have k1':∀c,c<H.next→H1.get c=H.get c:=fun c hc=>k1 c om
 have km1:∀b,b<n0→b<H1.next∧H1.get b=H.get b:=fun b hb=>⟨om,k1' b om⟩
 obtain⟨rb,hrb⟩:∃b,b=H.next:=⟨_,rfl⟩
 rw[← hrb]at m1 r1 k1
 simp only[c27,sA,sB,seval,m1]
 refine (mright_spec (z1.mono km1) (z2.xss.mono km1)).mono ?_
 rintro _ H2 ⟨rfl,E2⟩
 have e2:=E2.next
 have r2:=r1.same (E2.old rb om)
 unfold checkF
 cases hr:rightF l with
 | false=>
  have bb:aBuild [.int .i64 0,.int .i64 0] [(0,1,.int .i64 103)]=some (.agg [.int .i64 103,.int .i64 0]):=rfl
  obtain⟨H3,m3,r3,n3,k3⟩:=row_storeN r2 (n:=2) rfl (xs:=[.int .i64 103,.int .i64 0]) rfl rfl
  simp only[sA,sB,seval,bb,m3]
  refine fin_c1 _ _ _ _ (v:=.agg [.int .i64 103,.int .i64 0]) (by simp only[sA,sB,seval]; exact row_loadN r3 rfl) ?_
  exact⟨rfl,om,fun c hc=>by rw[k3 c om,E2.old c om,k1' c hc]⟩
 | true=>
 have hok:oksS l=true:=by simp only[rightF,Bool.and_eq_true]at hr; exact hr.1
 have hfit:sizesS l≤1000∧deepsS l≤40:=by simp only[rightF,fitsF,Bool.and_eq_true,decide_eq_true_eq]at hr; exact hr.2
 obtain⟨H3,hH3⟩:∃J,J=H2.push (.cells (nmL given4) 0 false):=⟨_,rfl⟩
 have n3:H3.next=H2.next+1:=by rw[hH3]; rfl
 obtain⟨H4,hH4⟩:∃J,J=H3.push (.cells (kdL given4) 0 false):=⟨_,rfl⟩
 have n4:H4.next=H3.next+1:=by rw[hH4]; rfl
 have b3:aBuildSl 4 [.str []] H2 [(0,1,.str [117]),(1,1,.str [118]),(2,1,.str [112]),(3,1,.str [110])]=some (.slice (some ⟨H2.next,4,0⟩) 4 (.known 4),H3):=by rw[hH3]; rfl
 have b4:aBuildSl 4 [.int .u8 0] H3 [(0,1,.int .u8 1),(1,1,.int .u8 1),(2,1,.int .u8 2),(3,1,.int .u8 2)]=some (.slice (some ⟨H3.next,4,0⟩) 4 (.known 4),H4):=by rw[hH4]; rfl
 have L3:LinM 1 H3 (.slice (some ⟨H2.next,4,0⟩) 4 (.known 4)) (nmL given4) 4:=by rw[hH3]; exact LinM.built (m:=1) (k:=4) H2 (xs:=nmL given4) rfl
 have L4:LinM 1 H4 (.slice (some ⟨H3.next,4,0⟩) 4 (.known 4)) (kdL given4) 4:=by rw[hH4]; exact LinM.built (m:=1) (k:=4) H3 (xs:=kdL given4) rfl
 have k34:∀c,c<H2.next→H4.get c=H2.get c:=fun c hc=>by rw[hH4,get_push_lt om,hH3,get_push_lt hc]
 obtain⟨H5,m5,r5,n5,k5⟩:=row_newL H4 [.slice (some ⟨H2.next,4,0⟩) 4 (.known 4),.slice (some ⟨H3.next,4,0⟩) 4 (.known 4)] (n:=2) rfl
 have bb:aBuild [.slice none 0 (.known 0),.slice none 0 (.known 0)] [(0,1,.slice (some ⟨H2.next,4,0⟩) 4 (.known 4)),(1,1,.slice (some ⟨H3.next,4,0⟩) 4 (.known 4))]=some (.agg [.slice (some ⟨H2.next,4,0⟩) 4 (.known 4),.slice (some ⟨H3.next,4,0⟩) 4 (.known 4)]):=rfl
 have bN:Blk (.slice (some ⟨H2.next,4,0⟩) 4 (.known 4)) (·=H2.next):=blk_some rfl
 have bK:Blk (.slice (some ⟨H3.next,4,0⟩) 4 (.known 4)) (·=H3.next):=blk_some rfl
 have A5:ChS given4 H4.next n0 (.slice (some ⟨H2.next,4,0⟩) 4 (.known 4)) (.slice (some ⟨H3.next,4,0⟩) 4 (.known 4)) H5:=
  ⟨r5,om,om,L3.same om (bN.mono fun x hx=>by rw[k5 x om,hH4,get_push_lt om]),L4.same om (bK.mono fun x hx=>k5 x om),bN.mono fun x hx=>⟨om,om⟩,bK.mono fun x hx=>⟨om,om⟩,bN.mono fun x hx=>bK.mono fun y hy=>om⟩
 have k25:∀c,c<H2.next→H5.get c=H2.get c:=fun c hc=>by rw[k5 c om,k34 c hc]
 have k05:∀c,c<n0→c<n0∧H5.get c=H.get c:=fun c hc=>⟨hc,by rw[k25 c om,E2.old c om,k1' c om]⟩
 simp only[sA,sB,seval,b3,b4,bb,cells_agg,m5]
 refine (li_all (sizesS l) om rL A5 (z1.mono k05) (z2.mono k05) hok hfit.2 Scp.given (by show 4+_≤_; omega)).mono ?_
 rintro _ H6 ⟨rfl,vn',vk',A6,F6⟩
 have e6:=F6.next
 have old6:∀c,c<H2.next→H6.get c=H2.get c:=fun c hc=>by rw[F6.old c om om (bN.mono fun x hx=>om) (bK.mono fun x hx=>om),k25 c hc]
 have old6':∀c,c<H.next→H6.get c=H.get c:=fun c hc=>by rw[old6 c om,E2.old c om,k1' c hc]
 have r6:=r2.same (old6 rb om)
 obtain⟨H7,m7,r7,n7,k7⟩:=row_newL H6 [.int .i64 0,.int .i64 0] (n:=2) rfl
 obtain⟨H8,m8,r8,n8,k8⟩:=row_storeN r7 (n:=2) rfl (xs:=flI (fltL (ckL given4 false l))) rfl rfl
 have k68:∀c,c<H6.next→H8.get c=H6.get c:=fun c hc=>by rw[k8 c om,k7 c om]
 have r68:=r6.same (k68 rb om)
 have l8:oLoad false 1 H8 (cellR H6.next 2 0)=some (.int .i64 ((fltL (ckL given4 false l)).1:Int)):=row_load r8 rfl rfl
 have l8a:oLoad true 2 H8 (cellR H6.next 2 0)=some (.agg (flI (fltL (ckL given4 false l)))):=row_loadN r8 rfl
 simp only[sA,sB,seval,m7,m8,fld0,l8]
 cases hck:ckL given4 false l with
 | error f=>
  have hf0:=ckL_err hck
  have hf':¬(f.1:Int)=0:=om
  rw[hck]at l8a
  obtain⟨H9,m9,r9,n9,k9⟩:=row_storeN r68 (n:=2) rfl (xs:=flI f) rfl rfl
  simp only[sA,sB,seval,fltL,hf',l8a,m9]
  refine fin_c1 _ _ _ _ (v:=.agg (flI f)) (by simp only[sA,sB,seval]; exact row_loadN r9 rfl) ?_
  exact⟨rfl,om,fun c hc=>by rw[k9 c om,k68 c om,old6' c hc]⟩
 | ok Ef=>
  have km8:∀b,b<n0→b<n0∧H8.get b=H.get b:=fun b hb=>⟨hb,by rw[k68 b om,old6' b om]⟩
  simp only[sA,sB,seval,fltL,Int.cast_ofNat_Int]
  refine (treturns_spec (sizesS l) rL om (z1.mono km8) (z2.xss.mono km8)).mono ?_
  rintro _ _ ⟨rfl,rfl⟩
  cases hret:retL l with
  | false=>
   have bb2:aBuild [.int .i64 0,.int .i64 0] [(0,1,.int .i64 113)]=some (.agg [.int .i64 113,.int .i64 0]):=rfl
   obtain⟨H9,m9,r9,n9,k9⟩:=row_storeN r68 (n:=2) rfl (xs:=[.int .i64 113,.int .i64 0]) rfl rfl
   simp only[sA,sB,seval,bb2,m9]
   refine fin_c1 _ _ _ _ (v:=.agg [.int .i64 113,.int .i64 0]) (by simp only[sA,sB,seval]; exact row_loadN r9 rfl) ?_
   exact⟨rfl,om,fun c hc=>by rw[k9 c om,k68 c om,old6' c hc]⟩
  | true=>
   have bb2:aBuild [.int .i64 0,.int .i64 0] []=some (.agg [.int .i64 0,.int .i64 0]):=rfl
   obtain⟨H9,m9,r9,n9,k9⟩:=row_storeN r68 (n:=2) rfl (xs:=[.int .i64 0,.int .i64 0]) rfl rfl
   simp only[sA,sB,seval,bb2,m9]
   refine fin_c1 _ _ _ _ (v:=.agg [.int .i64 0,.int .i64 0]) (by simp only[sA,sB,seval]; exact row_loadN r9 rfl) ?_
   exact⟨rfl,om,fun c hc=>by rw[k9 c om,k68 c om,old6' c hc]⟩
open Go.Abs Go.Abs.S
noncomputable section
def c20:AFn:=⟨36,zq [zo 2 (.new [zN,zI 0,zN]),zo 3 (.new [zI 0,zI 0])] (.seq (zq [zm 6 0,zx 7 27 [.t 6],zo 4 (.new [zI 0,zI 0]),zp (.store 2 (.t 4) (.t 7))] (zq [zf 8 0 4,zl 9 8,zk 10 .neq 9 0] (.cond (.t 10) (.seq (.draw [zo 11 (.build [zN,zI 0,zN] []),zt 12 2 4,zp (.store 3 (.t 2) (.t 11)),zp (.store 2 (.t 3) (.t 12))] [[],[3],[],[]]) .ret) .skip))) (zq [zo 13 (.build [zN,zI 0,zN] [(1,1,zi 4)]),zx 14 44 [],zo 15 (.hf .mkMap []),zo 16 (.buildSl 4 [.str []] [(0,1,.c (.str [117])),(1,1,.c (.str [118])),(2,1,.c (.str [112])),(3,1,.c (.str [110]))]),zo 17 (.buildSl 4 [zU 0] [(0,1,zu 1),(1,1,zu 1),(2,1,zu 2),(3,1,zu 2)]),zo 18 (.build [zN,zI 0,zN,.map none,.map none,zN,zN] [(0,3,.t 13),(3,1,.t 14),(4,1,.t 15),(5,1,.t 16),(6,1,.t 17)]),zo 19 (.box (.t 18)),zm 5 19] (zq [zm 20 5,zm 21 0,zx 22 45 [.t 20,.t 21]] (zr [zm 23 5,zc 24 23,zf 25 0 24,zf 26 1 25,zl 27 26,zk 28 .gtr 27 250] 28 (zq [zo 29 (.build [zN,zI 0,zN] []),zo 30 (.build [zI 0,zI 0] [(0,1,zi 102)]),zp (.store 3 (.t 2) (.t 29)),zp (.store 2 (.t 3) (.t 30))] .ret) .skip (zq [zm 31 5,zc 32 31,zf 33 0 32,zt 34 3 33,zo 35 (.build [zI 0,zI 0] []),zp (.store 3 (.t 2) (.t 34)),zp (.store 2 (.t 3) (.t 35))] .ret))))),[.cell true 3 2,.cell true 2 3]⟩
theorem za20:cN Tryz.prog 20=some c20:=by kernel_rfl
def c44:AFn:=⟨18,zq [zo 0 (.mv (.c (.map none)))] (zq [zo 1 (.hf .mkMap []),zo 2 (.build [zU 0,zI 0] [(0,1,zu 17),(1,1,zi 3)]),zp (.hf (.mf (.upd .str)) [.t 1,.c (.str [118,101,99]),.t 2]),zo 3 (.build [zU 0,zI 0] [(0,1,zu 18),(1,1,zi 1)]),zp (.hf (.mf (.upd .str)) [.t 1,.c (.str [120]),.t 3]),zo 4 (.build [zU 0,zI 0] [(0,1,zu 19),(1,1,zi 1)]),zp (.hf (.mf (.upd .str)) [.t 1,.c (.str [121]),.t 4]),zo 5 (.build [zU 0,zI 0] [(0,1,zu 20),(1,1,zi 1)]),zp (.hf (.mf (.upd .str)) [.t 1,.c (.str [122]),.t 5]),zo 6 (.build [zU 0,zI 0] [(0,1,zu 21),(1,1,zi 2)]),zp (.hf (.mf (.upd .str)) [.t 1,.c (.str [100,111,116]),.t 6]),zo 7 (.build [zU 0,zI 0] [(0,1,zu 22),(1,1,zi 2)]),zp (.hf (.mf (.upd .str)) [.t 1,.c (.str [99,114,111,115,115]),.t 7]),zo 8 (.build [zU 0,zI 0] [(0,1,zu 23),(1,1,zi 1)]),zp (.hf (.mf (.upd .str)) [.t 1,.c (.str [117,110,105,116]),.t 8]),zo 9 (.build [zU 0,zI 0] [(0,1,zu 24),(1,1,zi 1)]),zp (.hf (.mf (.upd .str)) [.t 1,.c (.str [115,113,114,116]),.t 9]),zo 10 (.build [zU 0,zI 0] [(0,1,zu 25),(1,1,zi 1)]),zp (.hf (.mf (.upd .str)) [.t 1,.c (.str [115,105,110]),.t 10]),zo 11 (.build [zU 0,zI 0] [(0,1,zu 26),(1,1,zi 1)]),zp (.hf (.mf (.upd .str)) [.t 1,.c (.str [99,111,115]),.t 11]),zo 12 (.build [zU 0,zI 0] [(0,1,zu 27),(1,1,zi 1)]),zp (.hf (.mf (.upd .str)) [.t 1,.c (.str [97,98,115]),.t 12]),zo 13 (.build [zU 0,zI 0] [(0,1,zu 28),(1,1,zi 1)]),zp (.hf (.mf (.upd .str)) [.t 1,.c (.str [102,108,111,111,114]),.t 13]),zo 14 (.build [zU 0,zI 0] [(0,1,zu 29),(1,1,zi 2)]),zp (.hf (.mf (.upd .str)) [.t 1,.c (.str [109,105,110]),.t 14]),zo 15 (.build [zU 0,zI 0] [(0,1,zu 30),(1,1,zi 2)]),zp (.hf (.mf (.upd .str)) [.t 1,.c (.str [109,97,120]),.t 15]),zo 16 (.build [zU 0,zI 0] [(0,1,zu 31),(1,1,zi 2)]),zp (.hf (.mf (.upd .str)) [.t 1,.c (.str [115,97,109,112,108,101]),.t 16]),zm 17 1,zm 0 17] .ret),[.t 0]⟩
theorem za44:cN Tryz.prog 44=some c44:=by kernel_rfl
def c45:AFn:=⟨40,zq [zm 6 0,zc 7 6,zf 8 5 7,zl 9 8,zh 10 9,zm 4 10] (.seq (zq [zm 11 1,zh 12 11,zo 13 (.mv (zi 0))] (.block 0 (.loop (zq [zb 14 .lss 13 12] (.seq (.cond (.t 14) .skip (.exit 0)) (.seq (.block 1 (zq [zm 15 13,zm 5 15] (.reg [zm 16 0,zm 17 1,zm 18 5,zo 19 (.idxA 9 (.t 17) (.t 18)),zx 20 87 [.t 16,.t 19]]))) (.reg [zk 21 .add 13 1,zm 13 21]))))))) (.reg [zm 22 0,zm 23 0,zm 24 0,zc 25 24,zf 26 5 25,zl 27 26,zm 28 4,zo 29 (.sl 1 (.t 27) none (some (.t 28)) none),zm 30 0,zc 31 30,zf 32 6 31,zl 33 32,zm 34 4,zo 35 (.sl 1 (.t 33) none (some (.t 34)) none),zc 36 22,zf 37 5 36,zs 37 29,zc 38 23,zf 39 6 38,zs 39 35])),[]⟩
theorem za45:cN Tryz.prog 45=some c45:=by kernel_rfl
def c87:AFn:=⟨145,zq [zm 11 0,zc 12 11,zf 13 5 12,zl 14 13,zh 15 14,zm 4 15] (zq [zm 16 0,zc 17 16,zf 18 0 17,zf 19 2 18,zl 20 19,zh 21 20,zm 5 21] (zq [zm 22 0,zm 23 1,zc 24 23,zf 25 2 24,zm 26 4,zx 27 127 [.t 22,.t 25,.t 26]] (zq [zm 28 1,zc 29 28,zf 30 0 29,zl 31 30] (.block 0 (zq [zo 33 (.bin .eql (.t 31) (zu 1)),zm 32 33] (.cond (.t 32) (zq [zm 35 1,zc 36 35,zf 37 2 36,zt 38 4 37,zm 39 0,zc 40 39,zf 41 5 40,zl 42 41,zm 43 0,zc 44 43,zf 45 6 44,zl 46 45,zx 47 128 [.t 38,.t 42,.t 46],zm 34 47,ze 48 0 34,ze 49 1 34,zm 6 48,zm 7 49] (.seq (.draw [zm 50 0,zm 51 0,zm 52 0,zc 53 52,zf 54 5 53,zl 55 54,zm 56 1,zc 57 56,zf 58 1 57,zl 59 58,zo 60 (.hf (.fill 0 (.lit 1 [.str []] [(0,1)])) [.t 59]),zo 61 (.append 1 16 (.t 55) (.t 60)),zm 62 0,zc 63 62,zf 64 6 63,zl 65 64,zm 66 6,zo 67 (.hf (.fill 0 (.lit 1 [zU 0] [(0,1)])) [.t 66]),zy 68 65 67,zc 69 50,zf 70 5 69,zs 70 61,zc 71 51,zf 72 6 71,zs 72 68] [[],[],[],[],[],[11],[],[],[],[],[],[],[],[],[],[10,11,18],[],[],[],[],[],[],[],[],[]]) (.reg [zp (.pf .apart [.t 67,.t 60]),zp (.pf .apart [.t 67,.t 54]),zp (.pf .apart [.t 67,.t 58]),zp (.pf .apart [.t 67,.t 64]),zp (.pf .apart [.t 67,.t 55]),zp (.pf .apart [.t 67,.t 60]),zp (.pf .apart [.t 67,.t 61]),zp (.pf .apart [.t 67,.t 54]),zp (.pf .apart [.t 67,.t 58]),zp (.pf .apart [.t 67,.t 64])]))) (zq [zo 74 (.bin .eql (.t 31) (zu 2)),zm 73 74] (.cond (.t 73) (.reg [zm 75 0,zm 76 0,zc 77 76,zf 78 5 77,zl 79 78,zm 80 1,zc 81 80,zf 82 1 81,zl 83 82,zx 84 130 [.t 79,.t 83],zm 85 4,zx 86 129 [.t 75,zu 2,.t 84,.t 85,zi 0]]) (zq [zo 88 (.bin .eql (.t 31) (zu 3)),zm 87 88] (.cond (.t 87) (zq [zm 89 0,zm 90 4,zx 91 131 [.t 89,zu 33,.t 90],zm 8 91] (zq [zm 92 0,zm 93 1,zc 94 93,zf 95 6 94,zl 96 95,zx 97 45 [.t 92,.t 96]] (zr [zm 98 1,zc 99 98,zf 100 7 99,zl 101 100,zh 102 101,zk 103 .eql 102 0] 103 (zq [zm 104 8,zo 105 (.callv (.t 104) [])] (.exit 0)) .skip (zq [zo 9 (.mv (.f 132))] (zr [zm 106 1,zc 107 106,zf 108 6 107,zl 109 108,zx 110 133 [.t 109],zo 111 (.un .not (.t 110))] 111 (.reg [zm 112 0,zx 113 131 [.t 112,zu 32,zi 0],zm 9 113]) .skip (zq [zm 114 8,zo 115 (.callv (.t 114) [])] (zq [zm 116 0,zm 117 1,zc 118 117,zf 119 7 118,zl 120 119,zx 121 45 [.t 116,.t 120]] (.reg [zm 122 9,zo 123 (.callv (.t 122) [])])))))))) (zq [zo 125 (.bin .eql (.t 31) (zu 4)),zm 124 125] (.cond (.t 124) (zq [zm 126 0,zm 127 4,zx 128 131 [.t 126,zu 33,.t 127],zm 10 128] (zq [zm 129 0,zm 130 1,zc 131 130,zf 132 6 131,zl 133 132,zx 134 45 [.t 129,.t 133]] (zq [zm 135 0,zm 136 5,zx 137 129 [.t 135,zu 32,zi 0,zi 0,.t 136]] (.reg [zm 138 10,zo 139 (.callv (.t 138) [])])))) (zq [zo 141 (.bin .eql (.t 31) (zu 5)),zm 140 141] (.cond (.t 140) (.reg [zm 142 0,zm 143 4,zx 144 129 [.t 142,zu 34,.t 143,zi 0,zi 0]]) .skip)))))))))))))),[]⟩
theorem za87:cN Tryz.prog 87=some c87:=by kernel_rfl
def c127:AFn:=⟨103,zq [zm 8 0,zm 9 0,zc 10 9,zf 11 0 10,zf 12 1 11,zl 13 12,zm 14 2,zk 15 .add 14 1,zo 16 (.pf (.mm true) [.t 13,.t 15]),zc 17 8,zf 18 0 17,zf 19 1 18,zs 19 16] (.seq (zq [zm 20 1,zc 21 20,zf 22 3 21,zl 23 22,zh 24 23,zo 25 (.mv (zi 0))] (.block 0 (.loop (zq [zb 26 .lss 25 24] (.seq (.cond (.t 26) .skip (.exit 0)) (.seq (.block 1 (zq [zm 27 25,zm 6 27] (.reg [zm 28 0,zm 29 1,zc 30 29,zf 31 3 30,zl 32 31,zm 33 6,zo 34 (.idxA 4 (.t 32) (.t 33)),zm 35 2,zm 36 6,zb 37 .add 35 36,zx 38 127 [.t 28,.t 34,.t 37]]))) (.reg [zk 39 .add 25 1,zm 25 39]))))))) (zq [zm 40 1,zc 41 40,zf 42 0 41,zl 43 42] (.block 2 (zq [zo 45 (.bin .eql (.t 43) (zu 1)),zm 44 45] (.cond (.t 44) (.reg [zm 46 0,zm 47 2,zm 48 0,zm 49 1,zc 50 49,zf 51 2 50,zl 52 51,zx 53 165 [.t 48,.t 52],zx 54 129 [.t 46,zu 1,.t 47,.t 53,zi 0]]) (zq [zo 56 (.bin .eql (.t 43) (zu 2)),zm 55 56] (.cond (.t 55) (.reg [zm 57 0,zm 58 2,zm 59 0,zc 60 59,zf 61 5 60,zl 62 61,zm 63 1,zc 64 63,zf 65 1 64,zl 66 65,zx 67 130 [.t 62,.t 66],zx 68 129 [.t 57,zu 2,.t 58,.t 67,zi 0]]) (zq [zo 70 (.bin .eql (.t 43) (zu 3)),zm 69 70] (.cond (.t 69) (.reg [zm 71 0,zm 72 1,zm 73 2,zx 74 166 [.t 71,.t 72,.t 73]]) (zq [zo 76 (.bin .eql (.t 43) (zu 4)),zm 75 76] (.cond (.t 75) (.seq (.draw [zm 77 0,zc 78 77,zf 79 3 78,zl 80 79,zm 81 1,zc 82 81,zf 83 1 82,zl 84 83,zo 85 (.hf (.mLook .str false (.agg [zU 0,zI 0])) [.t 80,.t 84]),zo 7 (.new [zU 0,zI 0]),zp (.store 2 (.t 7) (.t 85))] [[],[],[],[],[],[],[],[],[],[8],[]]) (zq [zf 86 1 7,zl 87 86,zk 88 .eql 87 2] (.cond (.t 88) (.reg [zm 89 0,zf 90 0 7,zl 91 90,zm 92 2,zm 93 2,zm 94 2,zk 95 .add 94 1,zx 96 129 [.t 89,.t 91,.t 92,.t 93,.t 95]]) (.reg [zm 97 0,zf 98 0 7,zl 99 98,zm 100 2,zm 101 2,zx 102 129 [.t 97,.t 99,.t 100,.t 101,zi 0]])))) .skip))))))))))),[]⟩
theorem za127:cN Tryz.prog 127=some c127:=by kernel_rfl
def c165:AFn:=⟨43,zq [zo 4 (.mv (zi 0))] (zq [zm 8 0,zc 9 8,zf 10 4 9,zl 11 10,zm 12 1,zo 13 (.hf (.mLook .int true (zI 0)) [.t 11,.t 12]),zm 7 13,ze 14 0 7,ze 15 1 7,zm 5 14,zm 6 15] (zr [zm 16 6,zo 17 (.un .not (.t 16))] 17 (zq [zm 18 0,zc 19 18,zf 20 0 19,zf 21 0 20,zl 22 21,zh 23 22,zm 5 23] (zq [zm 24 0,zc 25 24,zf 26 4 25,zl 27 26,zm 28 1,zm 29 5,zp (.hf (.mf (.upd .int)) [.t 27,.t 28,.t 29])] (.reg [zm 30 0,zm 31 0,zc 32 31,zf 33 0 32,zf 34 0 33,zl 35 34,zm 36 1,zo 37 (.buildSl 1 [zI 0] [(0,1,.t 36)]),zo 38 (.append 1 8 (.t 35) (.t 37)),zc 39 30,zf 40 0 39,zf 41 0 40,zs 41 38]))) .skip (zq [zm 42 5,zm 4 42] .ret))),[.t 4]⟩
theorem za165:cN Tryz.prog 165=some c165:=by kernel_rfl
def c129:AFn:=⟨34,zq [zo 10 (.mv (zi 0))] (zq [zm 11 0,zm 12 0,zc 13 12,zf 14 0 13,zf 15 2 14,zl 16 15,zm 17 1,zm 18 2,zm 19 3,zm 20 4,zo 21 (.build [zU 0,zI 0,zI 0,zI 0] [(0,1,.t 17),(1,1,.t 18),(2,1,.t 19),(3,1,.t 20)]),zo 22 (.buildSl 1 [zU 0,zI 0,zI 0,zI 0] [(0,4,.t 21)]),zo 23 (.append 4 32 (.t 16) (.t 22)),zc 24 11,zf 25 0 24,zf 26 2 25,zs 26 23] (zq [zm 27 0,zc 28 27,zf 29 0 28,zf 30 2 29,zl 31 30,zh 32 31,zk 33 .sub 32 1,zm 10 33] .ret)),[.t 10]⟩
theorem za129:cN Tryz.prog 129=some c129:=by kernel_rfl
def c166:AFn:=⟨67,zr [zm 9 1,zc 10 9,zf 11 3 10,zl 12 11,zh 13 12,zk 14 .eql 13 1] 14 (zq [zo 6 (.mv (zu 7))] (zr [zm 15 1,zc 16 15,zf 17 1 16,zl 18 17,zo 19 (.bin .eql (.t 18) (.c (.str [33])))] 19 (.reg [zo 6 (.mv (zu 8))]) .skip (zq [zm 20 0,zm 21 6,zm 22 2,zm 23 2,zx 24 129 [.t 20,.t 21,.t 22,.t 23,zi 0]] .ret))) .skip (zr [zm 25 1,zc 26 25,zf 27 1 26,zl 28 27,zo 29 (.bin .eql (.t 28) (.c (.str [42])))] 29 (zq [zm 31 1,zc 32 31,zf 33 3 32,zl 34 33,zo 35 (.idxA 4 (.t 34) (zi 0)),zt 36 4 35,zm 37 0,zc 38 37,zf 39 5 38,zl 40 39,zm 41 0,zc 42 41,zf 43 6 42,zl 44 43,zx 45 128 [.t 36,.t 40,.t 44],zm 30 45,ze 46 0 30,ze 47 1 30,zm 7 46,zm 8 47] (zq [zm 48 7,zo 49 (.bin .eql (.t 48) (zu 2))] (.cond (.t 49) (zq [zm 50 0,zm 51 2,zm 52 2,zk 53 .add 52 1,zm 54 2,zx 55 129 [.t 50,zu 5,.t 51,.t 53,.t 54]] .ret) .skip))) .skip (.reg [zm 56 0,zm 57 1,zc 58 57,zf 59 1 58,zl 60 59,zx 61 187 [.t 60],zm 62 2,zm 63 2,zm 64 2,zk 65 .add 64 1,zx 66 129 [.t 56,.t 61,.t 62,.t 63,.t 65]])),[]⟩
theorem za166:cN Tryz.prog 166=some c166:=by kernel_rfl
def c187:AFn:=⟨26,zq [zo 2 (.mv (zu 0))] (.seq (zq [zm 3 0] (.block 0 (zq [zo 5 (.bin .eql (.t 3) (.c (.str [124,124]))),zm 4 5] (.cond (.t 4) (zq [zo 2 (.mv (zu 16))] .ret) (zq [zo 7 (.bin .eql (.t 3) (.c (.str [38,38]))),zm 6 7] (.cond (.t 6) (zq [zo 2 (.mv (zu 15))] .ret) (zq [zo 9 (.bin .eql (.t 3) (.c (.str [61,61]))),zm 8 9] (.cond (.t 8) (zq [zo 2 (.mv (zu 9))] .ret) (zq [zo 11 (.bin .eql (.t 3) (.c (.str [33,61]))),zm 10 11] (.cond (.t 10) (zq [zo 2 (.mv (zu 10))] .ret) (zq [zo 13 (.bin .eql (.t 3) (.c (.str [60,61]))),zm 12 13] (.cond (.t 12) (zq [zo 2 (.mv (zu 11))] .ret) (zq [zo 15 (.bin .eql (.t 3) (.c (.str [62,61]))),zm 14 15] (.cond (.t 14) (zq [zo 2 (.mv (zu 12))] .ret) (zq [zo 17 (.bin .eql (.t 3) (.c (.str [60]))),zm 16 17] (.cond (.t 16) (zq [zo 2 (.mv (zu 13))] .ret) (zq [zo 19 (.bin .eql (.t 3) (.c (.str [62]))),zm 18 19] (.cond (.t 18) (zq [zo 2 (.mv (zu 14))] .ret) (zq [zo 21 (.bin .eql (.t 3) (.c (.str [43]))),zm 20 21] (.cond (.t 20) (zq [zo 2 (.mv (zu 3))] .ret) (zq [zo 23 (.bin .eql (.t 3) (.c (.str [45]))),zm 22 23] (.cond (.t 22) (zq [zo 2 (.mv (zu 4))] .ret) (zq [zo 25 (.bin .eql (.t 3) (.c (.str [42]))),zm 24 25] (.cond (.t 24) (zq [zo 2 (.mv (zu 5))] .ret) .skip)))))))))))))))))))))))) (zq [zo 2 (.mv (zu 6))] .ret)),[.t 2]⟩
theorem za187:cN Tryz.prog 187=some c187:=by kernel_rfl
def c131:AFn:=⟨13,zq [zo 3 (.box (.t 0)),zo 6 (.mv (.c .nilFunc))] (zq [zl 8 3,zm 9 1,zm 10 2,zx 11 129 [.t 8,.t 9,.t 10,zi 0,zi 0],zo 7 (.new [zI 0]),zs 7 11] (zq [zo 12 (.mkFunc (.func 170) [] [.t 3,.t 7]),zm 6 12] .ret)),[.t 6]⟩
theorem za131:cN Tryz.prog 131=some c131:=by kernel_rfl
def c170:AFn:=⟨16,.reg [zl 2 0,zc 3 2,zf 4 0 3,zf 5 2 4,zl 6 5,zl 7 1,zl 8 0,zc 9 8,zf 10 0 9,zf 11 2 10,zl 12 11,zh 13 12,zo 14 (.idxA 4 (.t 6) (.t 7)),zf 15 3 14,zs 15 13],[]⟩
theorem za170:cN Tryz.prog 170=some c170:=by kernel_rfl
def c132:AFn:=⟨0,.skip,[]⟩
theorem za132:cN Tryz.prog 132=some c132:=by kernel_rfl
def c133:AFn:=⟨32,zq [zo 2 (.mv (.c (.bool false)))] (zr [zm 4 0,zh 5 4,zk 6 .eql 5 0] 6 (zq [zo 2 (.mv (.c (.bool false)))] .ret) .skip (zq [zm 7 0,zm 8 0,zh 9 8,zk 10 .sub 9 1,zo 11 (.idxA 9 (.t 7) (.t 10)),zm 3 11] (.seq (zq [zm 12 3,zc 13 12,zf 14 0 13,zl 15 14] (.block 0 (zq [zo 17 (.bin .eql (.t 15) (zu 5)),zm 16 17] (.cond (.t 16) (zq [zo 2 (.mv (.c (.bool true)))] .ret) (zq [zo 19 (.bin .eql (.t 15) (zu 3)),zm 18 19] (.cond (.t 18) (zq [zm 20 3,zc 21 20,zf 22 6 21,zl 23 22,zx 24 133 [.t 23],zm 25 24,zg 26 (.mv (.t 3)) 25 true,zg 27 (.nilChk (.t 26)) 25 true,zg 28 (.fieldA 7 (.t 27)) 25 true,zg 29 (.load false 1 (.t 28)) 25 true,zg 30 (.call 133 [.t 29]) 25 true,zo 31 (.pick (.t 25) (.t 30) (.c (.bool false))),zm 2 31] .ret) .skip)))))) (zq [zo 2 (.mv (.c (.bool false)))] .ret)))),[.t 2]⟩
theorem za133:cN Tryz.prog 133=some c133:=by kernel_rfl
def c25:AFn:=⟨29,zq [zo 1 (.box (.t 0)),zo 2 (.mv (.c (.str [])))] (zq [zf 6 0 1,zl 7 6,zx 8 51 [.t 7],zo 9 (.convSB (.t 8)),zm 3 9] (.seq (zq [zf 10 1 1,zl 11 10,zf 12 2 1,zl 13 12,zf 14 3 1,zl 15 14,zo 16 (.build [zI 0,zI 0,zI 0] [(0,1,.t 11),(1,1,.t 13),(2,1,.t 15)]),zo 17 (.mv (zi 0))] (.block 0 (.loop (zq [zk 18 .lss 17 3] (.seq (.cond (.t 18) .skip (.exit 0)) (.seq (.block 1 (zq [zo 19 (.idx 3 1 false (.t 16) (.t 17)),zm 5 19] (zq [zm 20 3,zo 21 (.buildSl 1 [zU 0] [(0,1,zu 32)]),zy 22 20 21,zm 3 22] (.reg [zm 23 3,zm 24 5,zx 25 52 [.t 23,.t 24,zi 10],zm 3 25])))) (.reg [zk 26 .add 17 1,zm 17 26]))))))) (zq [zm 27 3,zo 28 (.convBS (.t 27)),zm 2 28] .ret))),[.t 2]⟩
theorem za25:cN Tryz.prog 25=some c25:=by kernel_rfl
def c51:AFn:=⟨19,zq [zo 2 (.mv (.c (.str [])))] (zq [zo 4 (.build [.str [],.str [],.str [],.str [],.str [],.str [],.str [],.str [],.str [],.str [],.str [],.str [],.str [],.str [],.str [],.str [],.str [],.str [],.str [],.str [],.str [],.str [],.str [],.str [],.str [],.str [],.str [],.str [],.str [],.str [],.str [],.str [],.str [],.str []] [(0,1,.c (.str [99,111,110,115,116])),(1,1,.c (.str [109,111,118,101])),(2,1,.c (.str [97,100,100])),(3,1,.c (.str [115,117,98])),(4,1,.c (.str [116,105,109,101,115])),(5,1,.c (.str [111,118,101,114])),(6,1,.c (.str [110,101,103])),(7,1,.c (.str [110,111,116])),(8,1,.c (.str [101,113])),(9,1,.c (.str [110,101])),(10,1,.c (.str [108,101])),(11,1,.c (.str [103,101])),(12,1,.c (.str [108,116])),(13,1,.c (.str [103,116])),(14,1,.c (.str [97,110,100])),(15,1,.c (.str [111,114])),(16,1,.c (.str [118,101,99])),(17,1,.c (.str [120])),(18,1,.c (.str [121])),(19,1,.c (.str [122])),(20,1,.c (.str [100,111,116])),(21,1,.c (.str [99,114,111,115,115])),(22,1,.c (.str [117,110,105,116])),(23,1,.c (.str [115,113,114,116])),(24,1,.c (.str [115,105,110])),(25,1,.c (.str [99,111,115])),(26,1,.c (.str [97,98,115])),(27,1,.c (.str [102,108,111,111,114])),(28,1,.c (.str [109,105,110])),(29,1,.c (.str [109,97,120])),(30,1,.c (.str [115,97,109,112,108,101])),(31,1,.c (.str [106,117,109,112])),(32,1,.c (.str [117,110,108,101,115,115])),(33,1,.c (.str [114,101,116,117,114,110]))]),zo 3 (.new [.str [],.str [],.str [],.str [],.str [],.str [],.str [],.str [],.str [],.str [],.str [],.str [],.str [],.str [],.str [],.str [],.str [],.str [],.str [],.str [],.str [],.str [],.str [],.str [],.str [],.str [],.str [],.str [],.str [],.str [],.str [],.str [],.str [],.str []]),zp (.store 34 (.t 3) (.t 4))] (zr [zm 5 0,zo 6 (.bin .lss (.t 5) (zu 1)),zm 7 6,zg 8 (.mv (.t 0)) 7 false,zg 9 (.bin .gtr (.t 8) (zu 34)) 7 false,zo 10 (.pick (.t 7) (.c (.bool true)) (.t 9))] 10 (zq [zm 11 0,zv 12 .i64 11,zx 13 95 [.t 12],zo 14 (.bin .add (.c (.str [111,112])) (.t 13)),zm 2 14] .ret) .skip (zq [zm 15 0,zo 16 (.bin .sub (.t 15) (zu 1)),zo 17 (.idxArr 34 1 (.t 3) (.t 16)),zl 18 17,zm 2 18] .ret))),[.t 2]⟩
theorem za51:cN Tryz.prog 51=some c51:=by kernel_rfl
def c95:AFn:=⟨5,zq [zo 2 (.mv (.c (.str [])))] (zq [zm 3 0,zx 4 144 [.t 3],zm 2 4] .ret),[.t 2]⟩
theorem za95:cN Tryz.prog 95=some c95:=by kernel_rfl
def c144:AFn:=⟨5,zq [zo 2 (.mv (.c (.str [])))] (zq [zm 3 0,zx 4 176 [.t 3,zi 10],zm 2 4] .ret),[.t 2]⟩
theorem za144:cN Tryz.prog 144=some c144:=by kernel_rfl
def c176:AFn:=⟨54,zq [zo 4 (.mv (.c (.str [])))] (zr [zm 10 1,zk 11 .eql 10 10] 11 (zr [zm 12 0,zo 13 (.bin .leq (zi 0) (.t 12)),zm 14 13,zg 15 (.mv (.t 0)) 14 true,zg 16 (.bin .lss (.t 15) (zi 100)) 14 true,zo 17 (.pick (.t 14) (.t 16) (.c (.bool false)))] 17 (zq [zm 18 0,zx 19 177 [.t 18],zm 4 19] .ret) .skip (zq [zo 5 (.new [zU 0,zU 0,zU 0,zU 0,zU 0,zU 0,zU 0,zU 0,zU 0,zU 0,zU 0,zU 0,zU 0,zU 0,zU 0,zU 0,zU 0,zU 0,zU 0,zU 0,zU 0,zU 0,zU 0,zU 0])] (zq [zm 20 0,zv 21 .u64 20,zm 6 21] (zr [zm 22 0,zk 23 .lss 22 0] 23 (.reg [zm 24 6,zo 25 (.un .neg (.t 24)),zm 6 25]) .skip (zq [zm 26 6,zx 27 178 [.t 26],zm 7 27] (zq [zm 28 7,zo 29 (.bin .add (zi 1) (.t 28)),zo 30 (.slA 24 1 (.t 5) (some (zi 1)) (some (.t 29)) none),zm 31 6,zx 32 179 [.t 30,.t 31]] (zr [zm 33 0,zk 34 .lss 33 0] 34 (zq [zo 35 (.idxArr 24 1 (.t 5) (zi 0)),zp (.store 1 (.t 35) (zu 45))] (zq [zm 36 7,zo 37 (.bin .add (zi 1) (.t 36)),zo 38 (.slA 24 1 (.t 5) none (some (.t 37)) none),zo 39 (.convBS (.t 38)),zm 4 39] .ret)) .skip (zq [zm 40 7,zo 41 (.bin .add (zi 1) (.t 40)),zo 42 (.slA 24 1 (.t 5) (some (zi 1)) (some (.t 41)) none),zo 43 (.convBS (.t 42)),zm 4 43] .ret)))))))) .skip (zq [zm 45 0,zv 46 .u64 45,zm 47 1,zm 48 0,zk 49 .lss 48 0,zx 50 180 [zn,.t 46,.t 47,.t 49,.c (.bool false)],zm 44 50,ze 51 0 44,ze 52 1 44,zm 8 51,zm 9 52] (zq [zm 53 9,zm 4 53] .ret))),[.t 4]⟩
theorem za176:cN Tryz.prog 176=some c176:=by kernel_rfl
def c52:AFn:=⟨11,zq [zo 6 (.mv zn)] (zq [zm 7 0,zm 8 1,zm 9 2,zx 10 96 [.t 7,.t 8,.t 9],zm 6 10] .ret),[.t 6]⟩
theorem za52:cN Tryz.prog 52=some c52:=by kernel_rfl
def c96:AFn:=⟨21,zq [zo 6 (.mv zn)] (zq [zm 8 1,zv 9 .u64 8,zm 7 9] (zr [zm 10 1,zk 11 .lss 10 0] 11 (zq [zm 12 0,zo 13 (.buildSl 1 [zU 0] [(0,1,zu 45)]),zy 14 12 13,zm 0 14] (.reg [zm 15 7,zo 16 (.un .neg (.t 15)),zm 7 16])) .skip (zq [zm 17 0,zm 18 7,zm 19 2,zx 20 145 [.t 17,.t 18,.t 19],zm 6 20] .ret))),[.t 6]⟩
theorem za96:cN Tryz.prog 96=some c96:=by kernel_rfl
def c23:AFn:=⟨57,zq [zo 1 (.box (.t 0)),zo 2 (.mv (zi 0))] (zr [zf 6 1 1,zl 7 6,zk 8 .lss 7 4,zm 9 8,zg 10 (.fieldA 1 (.t 1)) 9 false,zg 11 (.load false 1 (.t 10)) 9 false,zg 12 (.bin .gtr (.t 11) (zi 250)) 9 false,zo 13 (.pick (.t 9) (.c (.bool true)) (.t 12))] 13 (zq [zo 2 (.mv (zi 120))] .ret) .skip (zr [zf 14 2 1,zl 15 14,zh 16 15,zk 17 .eql 16 0,zm 18 17,zg 19 (.fieldA 2 (.t 1)) 18 false,zg 20 (.load false 1 (.t 19)) 18 false,zg 21 (.len false (.t 20)) 18 false,zg 22 (.bin .gtr (.t 21) (zi 65536)) 18 false,zo 23 (.pick (.t 18) (.c (.bool true)) (.t 22)),zm 24 23,zg 25 (.fieldA 0 (.t 1)) 24 false,zg 26 (.load false 1 (.t 25)) 24 false,zg 27 (.len false (.t 26)) 24 false,zg 28 (.bin .gtr (.t 27) (zi 65536)) 24 false,zo 29 (.pick (.t 24) (.c (.bool true)) (.t 28))] 29 (zq [zo 2 (.mv (zi 120))] .ret) .skip (.seq (zq [zf 30 2 1,zl 31 30,zh 32 31,zo 33 (.mv (zi 0))] (.block 0 (.loop (zq [zb 34 .lss 33 32] (.seq (.cond (.t 34) .skip (.exit 0)) (.seq (.block 1 (zq [zo 35 (.idxA 4 (.t 31) (.t 33)),zt 36 4 35,zo 4 (.new [zU 0,zI 0,zI 0,zI 0]),zp (.store 4 (.t 4) (.t 36))] (zq [zt 37 4 4,zt 38 3 1,zx 39 49 [.t 37,.t 38],zo 40 (.un .not (.t 39))] (.cond (.t 40) (zq [zo 2 (.mv (zi 120))] .ret) .skip)))) (.reg [zk 41 .add 33 1,zm 33 41]))))))) (zq [zf 42 2 1,zl 43 42,zf 44 2 1,zl 45 44,zh 46 45,zk 47 .sub 46 1,zo 48 (.idxA 4 (.t 43) (.t 47)),zf 49 0 48,zl 50 49,zm 5 50] (zr [zm 51 5,zo 52 (.bin .neq (.t 51) (zu 32)),zm 53 52,zg 54 (.mv (.t 5)) 53 true,zg 55 (.bin .neq (.t 54) (zu 34)) 53 true,zo 56 (.pick (.t 53) (.t 55) (.c (.bool false)))] 56 (zq [zo 2 (.mv (zi 120))] .ret) .skip (zq [zo 2 (.mv (zi 0))] .ret)))))),[.t 2]⟩
theorem za23:cN Tryz.prog 23=some c23:=by kernel_rfl
def c49:AFn:=⟨162,zq [zo 2 (.box (.t 0)),zo 3 (.box (.t 1)),zo 4 (.mv (.c (.bool false)))] (zq [zo 7 (.mkFunc (.func 91) [] [.t 3]),zm 5 7] (zq [zo 6 (.mv (.f 92))] (.seq (zq [zf 8 0 2,zl 9 8] (.block 0 (zq [zo 11 (.bin .eql (.t 9) (zu 1)),zm 10 11] (.cond (.t 10) (zq [zm 12 5,zf 13 1 2,zl 14 13,zo 15 (.buildSl 1 [zI 0] [(0,1,.t 14)]),zo 16 (.callv (.t 12) [.t 15]),zm 17 16,zg 18 (.mv (.t 6)) 17 true,zg 19 (.fieldA 2 (.t 2)) 17 true,zg 20 (.load false 1 (.t 19)) 17 true,zg 21 (.fieldA 0 (.t 3)) 17 true,zg 22 (.load false 1 (.t 21)) 17 true,zg 23 (.len false (.t 22)) 17 true,zg 24 (.callv (.t 18) [.t 20,.t 23]) 17 true,zo 25 (.pick (.t 17) (.t 24) (.c (.bool false))),zm 26 25,zg 27 (.fieldA 3 (.t 2)) 26 true,zg 28 (.load false 1 (.t 27)) 26 true,zg 29 (.bin .eql (.t 28) (zi 0)) 26 true,zo 30 (.pick (.t 26) (.t 29) (.c (.bool false))),zm 4 30] .ret) (zr [zo 32 (.bin .eql (.t 9) (zu 2)),zm 31 32] 31 .skip (zq [zo 33 (.bin .eql (.t 9) (zu 7)),zm 31 33] (.cond (.t 31) .skip (zq [zo 34 (.bin .eql (.t 9) (zu 8)),zm 31 34] (.cond (.t 31) .skip (zq [zo 35 (.bin .eql (.t 9) (zu 18)),zm 31 35] (.cond (.t 31) .skip (zq [zo 36 (.bin .eql (.t 9) (zu 19)),zm 31 36] (.cond (.t 31) .skip (zq [zo 37 (.bin .eql (.t 9) (zu 20)),zm 31 37] (.cond (.t 31) .skip (zq [zo 38 (.bin .eql (.t 9) (zu 23)),zm 31 38] (.cond (.t 31) .skip (zq [zo 39 (.bin .eql (.t 9) (zu 24)),zm 31 39] (.cond (.t 31) .skip (zq [zo 40 (.bin .eql (.t 9) (zu 25)),zm 31 40] (.cond (.t 31) .skip (zq [zo 41 (.bin .eql (.t 9) (zu 26)),zm 31 41] (.cond (.t 31) .skip (zq [zo 42 (.bin .eql (.t 9) (zu 27)),zm 31 42] (.cond (.t 31) .skip (.reg [zo 43 (.bin .eql (.t 9) (zu 28)),zm 31 43]))))))))))))))))))))) (.cond (.t 31) (zq [zm 44 5,zf 45 1 2,zl 46 45,zf 47 2 2,zl 48 47,zo 49 (.buildSl 2 [zI 0] [(0,1,.t 46),(1,1,.t 48)]),zo 50 (.callv (.t 44) [.t 49]),zm 51 50,zg 52 (.fieldA 3 (.t 2)) 51 true,zg 53 (.load false 1 (.t 52)) 51 true,zg 54 (.bin .eql (.t 53) (zi 0)) 51 true,zo 55 (.pick (.t 51) (.t 54) (.c (.bool false))),zm 4 55] .ret) (zr [zo 57 (.bin .eql (.t 9) (zu 3)),zm 56 57] 56 .skip (zq [zo 58 (.bin .eql (.t 9) (zu 4)),zm 56 58] (.cond (.t 56) .skip (zq [zo 59 (.bin .eql (.t 9) (zu 5)),zm 56 59] (.cond (.t 56) .skip (zq [zo 60 (.bin .eql (.t 9) (zu 6)),zm 56 60] (.cond (.t 56) .skip (zq [zo 61 (.bin .eql (.t 9) (zu 9)),zm 56 61] (.cond (.t 56) .skip (zq [zo 62 (.bin .eql (.t 9) (zu 10)),zm 56 62] (.cond (.t 56) .skip (zq [zo 63 (.bin .eql (.t 9) (zu 11)),zm 56 63] (.cond (.t 56) .skip (zq [zo 64 (.bin .eql (.t 9) (zu 12)),zm 56 64] (.cond (.t 56) .skip (zq [zo 65 (.bin .eql (.t 9) (zu 13)),zm 56 65] (.cond (.t 56) .skip (zq [zo 66 (.bin .eql (.t 9) (zu 14)),zm 56 66] (.cond (.t 56) .skip (zq [zo 67 (.bin .eql (.t 9) (zu 15)),zm 56 67] (.cond (.t 56) .skip (zq [zo 68 (.bin .eql (.t 9) (zu 16)),zm 56 68] (.cond (.t 56) .skip (zq [zo 69 (.bin .eql (.t 9) (zu 21)),zm 56 69] (.cond (.t 56) .skip (zq [zo 70 (.bin .eql (.t 9) (zu 22)),zm 56 70] (.cond (.t 56) .skip (zq [zo 71 (.bin .eql (.t 9) (zu 29)),zm 56 71] (.cond (.t 56) .skip (zq [zo 72 (.bin .eql (.t 9) (zu 30)),zm 56 72] (.cond (.t 56) .skip (.reg [zo 73 (.bin .eql (.t 9) (zu 31)),zm 56 73]))))))))))))))))))))))))))))))) (.cond (.t 56) (zq [zm 74 5,zf 75 1 2,zl 76 75,zf 77 2 2,zl 78 77,zf 79 3 2,zl 80 79,zo 81 (.buildSl 3 [zI 0] [(0,1,.t 76),(1,1,.t 78),(2,1,.t 80)]),zo 82 (.callv (.t 74) [.t 81]),zm 4 82] .ret) (zq [zo 84 (.bin .eql (.t 9) (zu 17)),zm 83 84] (.cond (.t 83) (zq [zm 85 5,zf 86 1 2,zl 87 86,zf 88 2 2,zl 89 88,zo 90 (.buildSl 2 [zI 0] [(0,1,.t 87),(1,1,.t 89)]),zo 91 (.callv (.t 85) [.t 90]),zm 92 91,zg 93 (.fieldA 2 (.t 2)) 92 true,zg 94 (.load false 1 (.t 93)) 92 true,zg 95 (.bin .add (.t 94) (zi 2)) 92 true,zg 96 (.fieldA 1 (.t 3)) 92 true,zg 97 (.load false 1 (.t 96)) 92 true,zg 98 (.bin .lss (.t 95) (.t 97)) 92 true,zo 99 (.pick (.t 92) (.t 98) (.c (.bool false))),zm 100 99,zg 101 (.fieldA 3 (.t 2)) 100 true,zg 102 (.load false 1 (.t 101)) 100 true,zg 103 (.bin .eql (.t 102) (zi 0)) 100 true,zo 104 (.pick (.t 100) (.t 103) (.c (.bool false))),zm 4 104] .ret) (zq [zo 106 (.bin .eql (.t 9) (zu 32)),zm 105 106] (.cond (.t 105) (zq [zf 107 1 2,zl 108 107,zk 109 .eql 108 0,zm 110 109,zg 111 (.fieldA 2 (.t 2)) 110 true,zg 112 (.load false 1 (.t 111)) 110 true,zg 113 (.bin .eql (.t 112) (zi 0)) 110 true,zo 114 (.pick (.t 110) (.t 113) (.c (.bool false))),zm 115 114,zg 116 (.mv (.t 6)) 115 true,zg 117 (.fieldA 3 (.t 2)) 115 true,zg 118 (.load false 1 (.t 117)) 115 true,zg 119 (.fieldA 2 (.t 3)) 115 true,zg 120 (.load false 1 (.t 119)) 115 true,zg 121 (.len false (.t 120)) 115 true,zg 122 (.callv (.t 116) [.t 118,.t 121]) 115 true,zo 123 (.pick (.t 115) (.t 122) (.c (.bool false))),zm 4 123] .ret) (zq [zo 125 (.bin .eql (.t 9) (zu 33)),zm 124 125] (.cond (.t 124) (zq [zm 126 5,zf 127 1 2,zl 128 127,zo 129 (.buildSl 1 [zI 0] [(0,1,.t 128)]),zo 130 (.callv (.t 126) [.t 129]),zm 131 130,zg 132 (.fieldA 2 (.t 2)) 131 true,zg 133 (.load false 1 (.t 132)) 131 true,zg 134 (.bin .eql (.t 133) (zi 0)) 131 true,zo 135 (.pick (.t 131) (.t 134) (.c (.bool false))),zm 136 135,zg 137 (.mv (.t 6)) 136 true,zg 138 (.fieldA 3 (.t 2)) 136 true,zg 139 (.load false 1 (.t 138)) 136 true,zg 140 (.fieldA 2 (.t 3)) 136 true,zg 141 (.load false 1 (.t 140)) 136 true,zg 142 (.len false (.t 141)) 136 true,zg 143 (.callv (.t 137) [.t 139,.t 142]) 136 true,zo 144 (.pick (.t 136) (.t 143) (.c (.bool false))),zm 4 144] .ret) (zq [zo 146 (.bin .eql (.t 9) (zu 34)),zm 145 146] (.cond (.t 145) (zq [zm 147 5,zf 148 1 2,zl 149 148,zo 150 (.buildSl 1 [zI 0] [(0,1,.t 149)]),zo 151 (.callv (.t 147) [.t 150]),zm 152 151,zg 153 (.fieldA 2 (.t 2)) 152 true,zg 154 (.load false 1 (.t 153)) 152 true,zg 155 (.bin .eql (.t 154) (zi 0)) 152 true,zo 156 (.pick (.t 152) (.t 155) (.c (.bool false))),zm 157 156,zg 158 (.fieldA 3 (.t 2)) 157 true,zg 159 (.load false 1 (.t 158)) 157 true,zg 160 (.bin .eql (.t 159) (zi 0)) 157 true,zo 161 (.pick (.t 157) (.t 160) (.c (.bool false))),zm 4 161] .ret) .skip)))))))))))))))) (zq [zo 4 (.mv (.c (.bool false)))] .ret)))),[.t 4]⟩
theorem za49:cN Tryz.prog 49=some c49:=by kernel_rfl
def c91:AFn:=⟨21,zq [zo 3 (.mv (.c (.bool false)))] (.seq (zq [zm 6 0,zh 7 6,zo 8 (.mv (zi 0))] (.block 0 (.loop (zq [zb 9 .lss 8 7] (.seq (.cond (.t 9) .skip (.exit 0)) (.seq (.block 1 (zq [zd 10 6 8,zl 11 10,zm 5 11] (zq [zm 12 5,zk 13 .lss 12 0,zm 14 13,zg 15 (.mv (.t 5)) 14 false,zg 16 (.fieldA 1 (.t 1)) 14 false,zg 17 (.load false 1 (.t 16)) 14 false,zg 18 (.bin .geq (.t 15) (.t 17)) 14 false,zo 19 (.pick (.t 14) (.c (.bool true)) (.t 18))] (.cond (.t 19) (zq [zo 3 (.mv (.c (.bool false)))] .ret) .skip)))) (.reg [zk 20 .add 8 1,zm 8 20]))))))) (zq [zo 3 (.mv (.c (.bool true)))] .ret)),[.t 3]⟩
theorem za91:cN Tryz.prog 91=some c91:=by kernel_rfl
def c92:AFn:=⟨12,zq [zo 4 (.mv (.c (.bool false)))] (zq [zm 5 0,zo 6 (.bin .leq (zi 0) (.t 5)),zm 7 6,zg 8 (.mv (.t 0)) 7 true,zg 9 (.mv (.t 1)) 7 true,zg 10 (.bin .lss (.t 8) (.t 9)) 7 true,zo 11 (.pick (.t 7) (.t 10) (.c (.bool false))),zm 4 11] .ret),[.t 4]⟩
theorem za92:cN Tryz.prog 92=some c92:=by kernel_rfl
end
open Go.Abs Go.Abs.S
structure InZ where
 o:Nat
 a:Int
 b:Int
 c:Int
def rgF(R x:Int):Bool:=decide (0≤x)&&decide (x<R)
def twoO:List Nat:=[2,7,8,18,19,20,23,24,25,26,27,28]
def threeO:List Nat:=[3,4,5,6,9,10,11,12,13,14,15,16,21,22,29,30,31]
def okI(R:Int)(nk nc:Nat)(i:InZ):Bool:=
 if i.o=1 then rgF R i.a&&(rgF nk i.b&&decide (i.c=0))
 else if i.o∈twoO then rgF R i.a&&(rgF R i.b&&decide (i.c=0))
 else if i.o∈threeO then rgF R i.a&&(rgF R i.b&&rgF R i.c)
 else if i.o=17 then rgF R i.a&&(rgF R i.b&&(decide (i.b+2<R)&&decide (i.c=0)))
 else if i.o=32 then decide (i.a=0)&&(decide (i.b=0)&&rgF nc i.c)
 else if i.o=33 then rgF R i.a&&(decide (i.b=0)&&rgF nc i.c)
 else if i.o=34 then rgF R i.a&&(decide (i.b=0)&&decide (i.c=0))
 else false
def lastO(l:List InZ):Nat:=match l.getLast? with
 | some i=>i.o
 | none=>0
def okCode(R:Int)(nk:Nat)(l:List InZ):Nat:=
 if R<4∨250<R then 120
 else if l.length=0∨65536<l.length∨65536<nk then 120
 else if l.all (okI R nk l.length) then (if lastO l=32∨lastO l=34 then 0 else 120)
 else 120
def digsF(u:Nat):Bs:=if h:u<10 then [UInt8.ofNat (48+u)] else digsF (u / 10)++[UInt8.ofNat (48+u % 10)]
termination_by u
decreasing_by omega
def intF(z:Int):Bs:=if z<0 then 45::digsF z.natAbs else digsF z.natAbs
def opNames:List Bs:=
 [[99, 111, 110, 115, 116], [109, 111, 118, 101], [97, 100, 100], [115, 117, 98], [116, 105, 109, 101, 115], [111, 118, 101, 114], [110, 101, 103], [110, 111, 116], [101, 113], [110, 101], [108, 101], [103, 101], [108, 116], [103, 116],
  [97, 110, 100], [111, 114], [118, 101, 99], [120], [121], [122], [100, 111, 116], [99, 114, 111, 115, 115], [117, 110, 105, 116], [115, 113, 114, 116], [115, 105, 110], [99, 111, 115], [97, 98, 115], [102, 108, 111, 111, 114],
  [109, 105, 110], [109, 97, 120], [115, 97, 109, 112, 108, 101], [106, 117, 109, 112], [117, 110, 108, 101, 115, 115], [114, 101, 116, 117, 114, 110]]
def wordO(o:Nat):Bs:=if o=0 then [111,112]++intF 0 else match opNames[o-1]? with
 | some s=>s
 | none=>[111,112]++intF o
def showI(i:InZ):Bs:=wordO i.o++(32::intF i.a)++(32::intF i.b)++(32::intF i.c)
open Go.Abs Go.Abs.S
def inL(i:In4):List AVal:=[.int .u8 (i.o:Int),.int .i64 (i.a:Int),.int .i64 (i.b:Int),.int .i64 (i.c:Int)]
def codL:List In4→List AVal
 | []=>[]
 | i::l=>inL i++codL l
theorem codL_app(m:List In4):∀l:List In4,codL (l++m)=codL l++codL m
 | []=>rfl
 | i::l=>by simp only[List.cons_append,codL,codL_app m l,List.append_assoc]
def conL(l:List Int):List AVal:=l.map (.int .i64)
theorem conL_len(l:List Int):(conL l).length=l.length:=by simp[conL]
def conE:List Int→Nat→List Ent
 | [],_=>[]
 | n::l,i=>(.int .i64 n,.int .i64 (i:Int),i)::conE l (i+1)
theorem conE_app(m:List Int):∀(l:List Int) (i:Nat),conE (l++m) i=conE l i++conE m (i+l.length)
 | [],_=>rfl
 | n::l,i=>by
  simp only[List.cons_append,conE,conE_app m l,List.length_cons]
  rw[show i+1+l.length=i+(l.length+1) by omega]
theorem conE_find(n:Int):∀(l:List Int) (i j:Nat),mFind .int (.int .i64 n) (conE l i) j=match firstC n l with
  | none=>some none
  | some k=>some (some (j+k,(.int .i64 n,.int .i64 ((i+k:Nat):Int),i+k)))
 | [],_,_=>rfl
 | m::l,i,j=>by
  have ih:=conE_find n l (i+1) (j+1)
  have hk:kEq .int (.int .i64 n) (.int .i64 m)=some (decide (n=m)):=by
   simp only[kEq,if_true,eqF_eq]
   congr 1
  by_cases hm:m=n
  ·subst hm
   simp only[conE,mFind,hk,decide_true,firstC,if_true,Nat.add_zero]
  ·rw[decide_eq_false (fun e=>hm e.symm)]at hk
   simp only[conE,mFind,hk,firstC,if_neg hm]
   rw[ih]
   cases firstC n l with
   | none=>rfl
   | some k=>
    simp only[Option.map_some]
    rw[show j+1+k=j+(k+1) by omega,show i+1+k=i+(k+1) by omega]
def PlM(mp:Nat)(l:List Int)(H:AHeap):Prop:=H.get mp=some (.map (conE l 0) l.length)
theorem PlM.look{mp:Nat}{l:List Int}{H:AHeap}(h:PlM mp l H)(n:Int):aHf (.mLook .int true (.int .i64 0)) H [.map (some mp),.int .i64 n]=some (.tuple [.int .i64 ((firstC n l).getD 0:Nat),.bool (firstC n l).isSome],H):=by
 have hf:=conE_find n l 0 0
 unfold PlM at h
 cases hc:firstC n l with
 | none=>
  rw[hc]at hf
  simp only[aHf,aMLook,h,aLookE,isK,cond_true,hf,mRet,Option.isSome,Option.getD]
  rfl
 | some k=>
  rw[hc]at hf
  simp only[aHf,aMLook,h,aLookE,isK,cond_true,hf,mRet,Option.isSome,Option.getD,Nat.zero_add]
theorem PlM.upd{mp:Nat}{l:List Int}{H:AHeap}(h:PlM mp l H){n:Int}(hn:firstC n l=none):∃H',aHf (.mf (.upd .int)) H [.map (some mp),.int .i64 n,.int .i64 (l.length:Int)]=some (.tuple [],H')∧PlM mp (l++[n]) H'∧H'.next=H.next∧∀c,c≠mp→H'.get c=H.get c:=by
 have hf:=conE_find n l 0 0
 rw[hn]at hf
 unfold PlM at h ⊢
 refine⟨H.set mp (.map (conE l 0++[(.int .i64 n,.int .i64 (l.length:Int),l.length)]) (l.length+1)),by simp only[aHf,aMF,h,aMf,isK,cond_true,hf],?_,set_next ..,fun c hc=>by rw[AHeap.get_set,if_neg hc]⟩
 rw[AHeap.get_set,if_pos rfl,conE_app,lA]
 simp only[conE,Nat.zero_add,List.length_cons,List.length_nil]
def opTab : List (Bs × (Nat × Nat)) := [([118, 101, 99], (17, 3)), ([120], (18, 1)), ([121], (19, 1)), ([122], (20, 1)), ([100, 111, 116], (21, 2)), ([99, 114, 111, 115, 115], (22, 2)), ([117, 110, 105, 116], (23, 1)), ([115, 113, 114, 116], (24, 1)), ([115, 105, 110], (25, 1)),
   ([99, 111, 115], (26, 1)), ([97, 98, 115], (27, 1)), ([102, 108, 111, 111, 114], (28, 1)), ([109, 105, 110], (29, 2)), ([109, 97, 120], (30, 2)), ([115, 97, 109, 112, 108, 101], (31, 2))]
def gK(x:Nat×Nat):AVal:=.agg [.int .u8 (x.1:Int),.int .i64 (x.2:Int)]
def bltK(mb:Nat)(H:AHeap):Prop:=H.get mb=some (.map (strE gK opTab 0) 15)
def Dj(v w:AVal):Prop:=Blk v fun a=>Blk w (a≠·)
theorem Dj.symm{v w:AVal}(h:Dj v w):Dj w v:=fun a j r e=>fun b k s f=>(h b k s f a j r e).symm
theorem Dj.fresh{v v' w:AVal}{n:Nat}(h:Dj v w)(q:∀P:Nat→Prop,Blk v P→Blk v' fun b=>P b∨n≤b)(hw:Blk w (·<n)):Dj v' w:=(q _ h).mono fun x hx=>by
 rcases hx with hx | hx
 ·exact hx
 ·exact hw.mono fun y hy=>om
structure MkR(E:Env')(x:Cs)(cb n0:Nat)(O:Nat→Prop)(vc vd vn vk:AVal)(mb mp:Nat)(H:AHeap):Prop where
 row:Row H cb [vc,.int .i64 (x.regs:Int),vd,.map (some mb),.map (some mp),vn,vk]
 lc:LinM 1 H vc (conL x.cons) x.cons.length
 ld:LinM 4 H vd (codL x.code) x.code.length
 ln:LinM 1 H vn (nmL E) E.length
 lk:LinM 1 H vk (kdL E) E.length
 bl:bltK mb H
 pl:PlM mp x.cons H
 oc:O cb∧O mb∧O mp
 ne:cb≠mb∧cb≠mp∧mb≠mp
 oN:∀c,O c→n0≤c∧c<H.next
 bc:Blk vc fun b=>O b∧b≠cb∧b≠mb∧b≠mp
 bd:Blk vd fun b=>O b∧b≠cb∧b≠mb∧b≠mp
 bn:Blk vn fun b=>O b∧b≠cb∧b≠mb∧b≠mp
 bk:Blk vk fun b=>O b∧b≠cb∧b≠mb∧b≠mp
 cd:Dj vc vd
 cn:Dj vc vn
 ck:Dj vc vk
 dn:Dj vd vn
 dk:Dj vd vk
 nk:Dj vn vk
def MkS(E:Env')(x:Cs)(cb n0:Nat)(O:Nat→Prop)(H:AHeap):Prop:=∃vc vd vn vk mb mp,MkR E x cb n0 O vc vd vn vk mb mp H
structure FrO(O:Nat→Prop)(H:AHeap)(O':Nat→Prop)(H':AHeap):Prop where
 next:H.next≤H'.next
 old:∀c,c<H.next→¬O c→H'.get c=H.get c
 own:∀c,O' c→O c∨H.next≤c
theorem FrO.refl(O:Nat→Prop)(H:AHeap):FrO O H O H:=⟨Nat.le_refl _,fun _ _ _=>rfl,fun _ h=>.inl h⟩
theorem FrO.trans{O O1 O2:Nat→Prop}{H H1 H2:AHeap}(a:FrO O H O1 H1)(b:FrO O1 H1 O2 H2):FrO O H O2 H2:=by
 have n1:=a.next
 have n2:=b.next
 refine⟨om,fun c h1 h2=>?_,fun c h=>?_⟩
 ·rw[b.old c om (fun q=>by rcases a.own c q with q | q; exact h2 q; omega),a.old c h1 h2]
 ·rcases b.own c h with h | h
  ·exact a.own c h
  ·exact .inr om
theorem FrO.exts{O:Nat→Prop}{H H':AHeap}(e:Ext H.next H H'):FrO O H O H':=⟨e.next,fun c h _=>e.old c h,fun _ h=>.inl h⟩
theorem MkR.keep{E:Env'}{x:Cs}{cb n0:Nat}{O:Nat→Prop}{vc vd vn vk:AVal}{mb mp:Nat}{H H':AHeap}(A:MkR E x cb n0 O vc vd vn vk mb mp H)(hn:H.next≤H'.next)(h:∀c,O c→H'.get c=H.get c):MkR E x cb n0 O vc vd vn vk mb mp H':=
 ⟨A.row.same (h _ A.oc.1), A.lc.same hn (A.bc.mono fun c hc => h c hc.1), A.ld.same hn (A.bd.mono fun c hc => h c hc.1), A.ln.same hn (A.bn.mono fun c hc => h c hc.1), A.lk.same hn (A.bk.mono fun c hc => h c hc.1),
  (h _ A.oc.2.1).trans A.bl, (h _ A.oc.2.2).trans A.pl, A.oc, A.ne, fun c hc => ⟨(A.oN c hc).1, Nat.lt_of_lt_of_le (A.oN c hc).2 hn⟩, A.bc, A.bd, A.bn, A.bk, A.cd, A.cn, A.ck, A.dn, A.dk, A.nk⟩
theorem MkS.keep{E:Env'}{x:Cs}{cb n0:Nat}{O:Nat→Prop}{H H':AHeap}(A:MkS E x cb n0 O H)(hn:H.next≤H'.next)(h:∀c,O c→H'.get c=H.get c):MkS E x cb n0 O H':=by
 obtain⟨vc,vd,vn,vk,mb,mp,A⟩:=A
 exact⟨_,_,_,_,_,_,A.keep hn h⟩
theorem MkS.lt{E:Env'}{x:Cs}{cb n0:Nat}{O:Nat→Prop}{H:AHeap}(A:MkS E x cb n0 O H):n0≤cb∧cb<H.next:=by
 obtain⟨vc,vd,vn,vk,mb,mp,A⟩:=A
 exact A.oN _ A.oc.1
theorem MkS.oN{E:Env'}{x:Cs}{cb n0:Nat}{O:Nat→Prop}{H:AHeap}(A:MkS E x cb n0 O H):∀c,O c→n0≤c∧c<H.next:=by
 obtain⟨vc,vd,vn,vk,mb,mp,A⟩:=A
 exact A.oN
theorem MkS.exts{E:Env'}{x:Cs}{cb n0:Nat}{O:Nat→Prop}{H H':AHeap}(A:MkS E x cb n0 O H)(e:Ext H.next H H'):MkS E x cb n0 O H':=A.keep e.next fun c hc=>e.old c (A.oN c hc).2
def OX(O:Nat→Prop)(n m:Nat)(c:Nat):Prop:=O c∨n≤c∧c<m
theorem kput_spec{E:Env'}{x:Cs}{cb n0:Nat}{O:Nat→Prop}{H:AHeap}(A:MkS E x cb n0 O H)(o a b c:Nat)(hl:x.code.length≤100000) :
  ACalls Tryz.prog natT 129 [cellR cb 7 0,.int .u8 (o:Int),.int .i64 (a:Int),.int .i64 (b:Int),.int .i64 (c:Int)] H fun u H'=>u=.int .i64 (x.code.length:Int)∧∃O',MkS E (x.put o a b c) cb n0 O' H'∧FrO O H O' H':=by
 obtain⟨vc,vd,vn,vk,mb,mp,A⟩:=A
 have hcb:=A.oN _ A.oc.1
 refine acalls_ofN rfl za129 rfl ?_
 have l2:oLoad false 1 H (cellR cb 7 2)=some vd:=row_load A.row rfl rfl
 have bb:aBuild [.int .u8 0,.int .i64 0,.int .i64 0,.int .i64 0] [(0,1,.int .u8 (o:Int)),(1,1,.int .i64 (a:Int)),(2,1,.int .i64 (b:Int)),(3,1,.int .i64 (c:Int))]=some (.agg (inL ⟨o,a,b,c⟩)):=rfl
 have bm:=buildM (z:=[.int .u8 0,.int .i64 0,.int .i64 0,.int .i64 0]) (m:=4) (xs:=inL ⟨o,a,b,c⟩) H rfl rfl
 obtain⟨vd',H1,a1,L1,n1,b1,k1⟩:=A.ld.add (j:=1) (xs:=inL ⟨o,a,b,c⟩) rfl rfl om (bytes:=32) om om
 have a1':aAppend 4 32 (H.push (.cells (inL ⟨o,a,b,c⟩) 0 false)) vd (oneM H 4)=some (vd',H1):=a1
 have hbl:∀{w:AVal},Blk w (fun b=>O b∧b≠cb∧b≠mb∧b≠mp)→Blk w (·<H.next):=fun h=>h.mono fun c hc=>(A.oN c hc.1).2
 have dcb:Blk vd (cb≠·):=A.bd.mono fun c hc=>hc.2.1.symm
 obtain⟨H2,m2,r2,n2,k2⟩:=row_st (A.row.same (k1 cb hcb.2 dcb)) (n:=7) rfl (i:=2) om (x:=vd') L1.one (l':=[vc,.int .i64 (x.regs:Int),vd',.map (some mb),.map (some mp),vn,vk]) rfl
 have l2':oLoad false 1 H2 (cellR cb 7 2)=some vd':=row_load r2 rfl rfl
 have lv:=L1.len
 have wl:IntKind.i64.wrap (((x.code.length+1:Nat):Int)-1)=(x.code.length:Int):=w64
 simp only[c129,sA,sB,seval,nil_cell,fld0,fldA,l2,bb,bm,a1',m2,l2',lv,wl]
 have hc':codL x.code++inL ⟨o,a,b,c⟩=codL (x.put o a b c).code:=by simp only[Cs.put,codL_app,codL,List.append_nil]
 have hl':x.code.length+1=(x.put o a b c).code.length:=by simp[Cs.put]
 rw[hc',hl']at L1
 have bd':=b1 _ A.bd
 have hL:=L1.blk
 have kk:∀c,c<H.next→c≠cb→Blk vd (c≠·)→H2.get c=H.get c:=fun c h1 h2 h3=>by rw[k2 c h2,k1 c h1 h3]
 have same:∀{w:AVal},Blk w (fun b=>O b∧b≠cb∧b≠mb∧b≠mp)→Dj w vd→Blk w fun c=>H2.get c=H.get c:=fun h d a j r e=>kk _ (A.oN _ (h a j r e).1).2 (h a j r e).2.1 (d a j r e)
 have mono:∀{w:AVal},Blk w (fun b=>O b∧b≠cb∧b≠mb∧b≠mp)→Blk w (fun b=>OX O H.next H2.next b∧b≠cb∧b≠mb∧b≠mp):=fun h=>h.mono fun c hc=>⟨.inl hc.1,hc.2⟩
 have hmb:=A.oN _ A.oc.2.1
 have hmp:=A.oN _ A.oc.2.2
 have dmb:Blk vd (mb≠·):=A.bd.mono fun c hc=>hc.2.2.1.symm
 have dmp:Blk vd (mp≠·):=A.bd.mono fun c hc=>hc.2.2.2.symm
 have ld2:LinM 4 H2 vd' (codL (x.put o a b c).code) (x.put o a b c).code.length:=L1.same om fun a j r e=>k2 _ (by
  have q:(O a.b∧a.b≠cb∧a.b≠mb∧a.b≠mp)∨H.next≤a.b:=bd' a j r e
  rcases q with q | q
  ·exact q.2.1
  ·omega)
 refine⟨tt,OX O H.next H2.next,⟨vc,vd',vn,vk,mb,mp,r2,A.lc.same om (same A.bc A.cd),ld2,A.ln.same om (same A.bn A.dn.symm),A.lk.same om (same A.bk A.dk.symm),
  (kk _ hmb.2 A.ne.1.symm dmb).trans A.bl,(kk _ hmp.2 A.ne.2.1.symm dmp).trans A.pl,⟨.inl A.oc.1,.inl A.oc.2.1,.inl A.oc.2.2⟩,A.ne,fun c hc=>?_,mono A.bc,?_,mono A.bn,mono A.bk,(A.cd.symm.fresh b1 (hbl A.bc)).symm,A.cn,A.ck,A.dn.fresh b1 (hbl A.bn),A.dk.fresh b1 (hbl A.bk),A.nk⟩,⟨om,fun c h1 h2=>?_,fun c hc=>?_⟩⟩
 ·rcases hc with hc | hc
  ·have:=A.oN c hc; omega
  ·omega
 ·intro a j r e
  have q:(O a.b∧a.b≠cb∧a.b≠mb∧a.b≠mp)∨H.next≤a.b:=bd' a j r e
  have q2:=hL a j r e
  rcases q with q | q
  ·exact⟨.inl q.1,q.2⟩
  ·exact⟨.inr ⟨q,om⟩,om,om,om⟩
 ·exact kk c h1 (fun e=>h2 (e ▸ A.oc.1)) (A.bd.mono fun d hd e=>h2 (e ▸ hd.1))
 ·rcases hc with hc | hc
  ·exact .inl hc
  ·exact .inr hc.1
open Go.Abs Go.Abs.S
theorem conL_snoc(l:List Int)(n:Int):conL l++[.int .i64 n]=conL (l++[n]):=by simp[conL]
theorem kconst_spec{E:Env'}{x:Cs}{cb n0:Nat}{O:Nat→Prop}{H:AHeap}(A:MkS E x cb n0 O H)(n:Int)(hl:x.cons.length≤100000) :
  ACalls Tryz.prog natT 165 [cellR cb 7 0,.int .i64 n] H fun u H'=>u=.int .i64 (x.conI n:Int)∧∃O',MkS E (x.con n) cb n0 O' H'∧FrO O H O' H':=by
 have A0:=A
 obtain⟨vc,vd,vn,vk,mb,mp,A⟩:=A
 have hcb:=A.oN _ A.oc.1
 have hmb:=A.oN _ A.oc.2.1
 have hmp:=A.oN _ A.oc.2.2
 refine acalls_ofN rfl za165 rfl ?_
 have l4:oLoad false 1 H (cellR cb 7 4)=some (.map (some mp)):=row_load A.row rfl rfl
 have l0:oLoad false 1 H (cellR cb 7 0)=some vc:=row_load A.row rfl rfl
 have lk:=A.pl.look n
 have lv:=A.lc.len
 unfold Cs.conI Cs.con
 cases hf:firstC n x.cons with
 | some i=>
  rw[hf]at lk
  simp only[Option.isSome,Option.getD]at lk
  simp only[c165,sA,sB,seval,nil_cell,fld0,fldA,l4,lk,ext_0,ext_1]
  exact⟨tt,O,A0,FrO.refl _ _⟩
 | none=>
  rw[hf]at lk
  simp only[Option.isSome,Option.getD]at lk
  obtain⟨H1,m1,P1,n1,k1⟩:=A.pl.upd hf
  have lc1:LinM 1 H1 vc (conL x.cons) x.cons.length:=A.lc.same om (A.bc.mono fun c hc=>k1 c hc.2.2.2)
  have l01:oLoad false 1 H1 (cellR cb 7 0)=some vc:=row_load (A.row.same (k1 cb A.ne.2.1)) rfl rfl
  have bs:aBuildSl 1 [.int .i64 0] H1 [(0,1,.int .i64 n)]=some (.slice (some ⟨H1.next,1,0⟩) 1 (.known 1),H1.push (.cells [.int .i64 n] 0 false)):=rfl
  obtain⟨vc',H2,a2,L2,n2,b2,k2⟩:=lc1.add (j:=1) (xs:=[.int .i64 n]) rfl rfl om (bytes:=8) om om
  have a2':aAppend 1 8 (H1.push (.cells [.int .i64 n] 0 false)) vc (.slice (some ⟨H1.next,1,0⟩) 1 (.known 1))=some (vc',H2):=a2
  have hbl:∀{w:AVal},Blk w (fun b=>O b∧b≠cb∧b≠mb∧b≠mp)→Blk w (·<H1.next):=fun h=>h.mono fun c hc=>by have:=(A.oN c hc.1).2; omega
  have ccb:Blk vc (cb≠·):=A.bc.mono fun c hc=>hc.2.1.symm
  obtain⟨H3,m3,r3,n3,k3⟩:=row_st (A.row.same (by rw[k2 cb om ccb,k1 cb A.ne.2.1]:H2.get cb=H.get cb)) (n:=7) rfl (i:=0) om (x:=vc') L2.one (l':=[vc',.int .i64 (x.regs:Int),vd,.map (some mb),.map (some mp),vn,vk]) rfl
  simp only[c165,sA,sB,seval,nil_cell,fld0,fldA,l4,lk,ext_0,ext_1,l0,lv,m1,l01,bs,a2',m3]
  have hl':x.cons.length+1=(x.cons++[n]).length:=by simp
  rw[conL_snoc,hl']at L2
  have hL:=L2.blk
  have bc':=b2 _ A.bc
  have kk:∀c,c<H.next→c≠cb→c≠mp→Blk vc (c≠·)→H3.get c=H.get c:=fun c h1 h2 h3 h4=>by rw[k3 c h2,k2 c om h4,k1 c h3]
  have same:∀{w:AVal},Blk w (fun b=>O b∧b≠cb∧b≠mb∧b≠mp)→Dj w vc→Blk w fun c=>H3.get c=H.get c:=fun h d a j r e=>kk _ (A.oN _ (h a j r e).1).2 (h a j r e).2.1 (h a j r e).2.2.2 (d a j r e)
  have mono:∀{w:AVal},Blk w (fun b=>O b∧b≠cb∧b≠mb∧b≠mp)→Blk w (fun b=>OX O H.next H3.next b∧b≠cb∧b≠mb∧b≠mp):=fun h=>h.mono fun c hc=>⟨.inl hc.1,hc.2⟩
  have cmb:Blk vc (mb≠·):=A.bc.mono fun c hc=>hc.2.2.1.symm
  have cmp:Blk vc (mp≠·):=A.bc.mono fun c hc=>hc.2.2.2.symm
  have lc3:LinM 1 H3 vc' (conL (x.cons++[n])) (x.cons++[n]).length:=L2.same om fun a j r e=>k3 _ (by
   have q:(O a.b∧a.b≠cb∧a.b≠mb∧a.b≠mp)∨H1.next≤a.b:=bc' a j r e
   rcases q with q | q
   ·exact q.2.1
   ·omega)
  have pl3:PlM mp (x.cons++[n]) H3:=by
   unfold PlM
   rw[k3 mp A.ne.2.1.symm,k2 mp om cmp]
   exact P1
  refine⟨tt,OX O H.next H3.next,⟨vc',vd,vn,vk,mb,mp,r3,lc3,A.ld.same om (same A.bd A.cd.symm),A.ln.same om (same A.bn A.cn.symm),A.lk.same om (same A.bk A.ck.symm),
   (kk _ hmb.2 A.ne.1.symm A.ne.2.2 cmb).trans A.bl,pl3,⟨.inl A.oc.1,.inl A.oc.2.1,.inl A.oc.2.2⟩,A.ne,fun c hc=>?_,?_,mono A.bd,mono A.bn,mono A.bk,A.cd.fresh b2 (hbl A.bd),A.cn.fresh b2 (hbl A.bn),A.ck.fresh b2 (hbl A.bk),A.dn,A.dk,A.nk⟩,⟨om,fun c h1 h2=>?_,fun c hc=>?_⟩⟩
  ·rcases hc with hc | hc
   ·have:=A.oN c hc; omega
   ·omega
  ·intro a j r e
   have q:(O a.b∧a.b≠cb∧a.b≠mb∧a.b≠mp)∨H1.next≤a.b:=bc' a j r e
   have q2:=hL a j r e
   rcases q with q | q
   ·exact⟨.inl q.1,q.2⟩
   ·exact⟨.inr ⟨om,om⟩,om,om,om⟩
  ·exact kk c h1 (fun e=>h2 (e ▸ A.oc.1)) (fun e=>h2 (e ▸ A.oc.2.2)) (A.bc.mono fun d hd e=>h2 (e ▸ hd.1))
  ·rcases hc with hc | hc
   ·exact .inl hc
   ·exact .inr hc.1
theorem MkR.regs{E:Env'}{x:Cs}{cb n0:Nat}{O:Nat→Prop}{vc vd vn vk:AVal}{mb mp:Nat}{H H':AHeap}(A:MkR E x cb n0 O vc vd vn vk mb mp H){r:Nat}(hr:Row H' cb [vc,.int .i64 (r:Int),vd,.map (some mb),.map (some mp),vn,vk])(hn:H'.next=H.next)(k:∀c,c≠cb→H'.get c=H.get c):MkR E { x with regs:=r } cb n0 O vc vd vn vk mb mp H':=
 ⟨hr, A.lc.same (by omega) (A.bc.mono fun c hc => k c hc.2.1), A.ld.same (by omega) (A.bd.mono fun c hc => k c hc.2.1), A.ln.same (by omega) (A.bn.mono fun c hc => k c hc.2.1), A.lk.same (by omega) (A.bk.mono fun c hc => k c hc.2.1),
  (k _ A.ne.1.symm).trans A.bl, (k _ A.ne.2.1.symm).trans A.pl, A.oc, A.ne, fun c hc => by have := A.oN c hc; omega, A.bc, A.bd, A.bn, A.bk, A.cd, A.cn, A.ck, A.dn, A.dk, A.nk⟩
theorem kjump_spec{E:Env'}{x:Cs}{cb n0:Nat}{O:Nat→Prop}{H:AHeap}(A:MkS E x cb n0 O H)(o a:Nat)(hl:x.code.length≤100000) :
  ACalls Tryz.prog natT 131 [cellR cb 7 0,.int .u8 (o:Int),.int .i64 (a:Int)] H fun u H'=>∃O' jb sb,u=.func (.func 170) [] [cellR jb 1 0,cellR sb 1 0]∧H.next≤jb∧jb<H'.next∧H.next≤sb∧sb<H'.next∧¬O' jb∧¬O' sb∧Row H' jb [cellR cb 7 0]∧Row H' sb [.int .i64 (x.code.length:Int)]∧MkS E (x.put o a 0 0) cb n0 O' H'∧FrO O H O' H':=by
 refine acalls_ofN rfl za131 rfl ?_
 obtain⟨H1,m1,r1,n1,k1⟩:=row_newL H [cellR cb 7 0] (n:=1) rfl
 have E1:Ext H.next H H1:=⟨om,fun c hc=>k1 c om⟩
 have A1:=A.exts E1
 have lb:oLoad false 1 H1 (cellR H.next 1 0)=some (cellR cb 7 0):=row_load r1 rfl rfl
 have hN:=A.oN
 simp only[c131,sA,sB,seval,cellR_cells,m1,lb]
 refine (kput_spec A1 o a 0 0 hl).mono ?_
 rintro _ H2 ⟨rfl,O2,A2,F2⟩
 have e2:=F2.next
 have hN2:=A2.oN
 obtain⟨H3,m3,r3,n3,k3⟩:=row_newL H2 [.int .i64 0] (n:=1) rfl
 obtain⟨H4,m4,r4,n4,k4⟩:=row_st r3 (n:=1) rfl (i:=0) om (x:=.int .i64 (x.code.length:Int)) rfl (l':=[.int .i64 (x.code.length:Int)]) rfl
 have k24:∀c,c<H2.next→H4.get c=H2.get c:=fun c hc=>by rw[k4 c om,k3 c om]
 have oj:¬O H.next:=fun h=>by have:=hN _ h; omega
 have r24:Row H4 H.next [cellR cb 7 0]:=r1.same (by rw[k24 _ om,F2.old _ om oj])
 simp only[sA,sB,seval,m3,m4]
 refine⟨O2,H.next,H2.next,tt,Nat.le_refl _,om,om,om,fun h=>?_,fun h=>?_,r24,r4,A2.keep om fun c hc=>k24 c (hN2 c hc).2,(FrO.exts E1).trans (F2.trans ⟨om,fun c h _=>k24 c h,fun c h=>.inl h⟩)⟩
 ·rcases F2.own _ h with h | h
  ·exact oj h
  ·omega
 ·have:=hN2 _ h; omega
open Go.Abs Go.Abs.S
theorem LinM.write{m k:Nat}{H:AHeap}{s:AVal}{L:List AVal}(h:LinM m H s L k){i j:Nat}(hi:i<k)(hj:j<m){x:AVal}(hx:x.one=true) :
  ∃b n H',aIdxA m s (.int .i64 (i:Int))=some (cellR b n (i*m))∧Blk s (b=·)∧oStore 1 H (cellR b n (i*m+j)) x=some H'∧LinM m H' s (L.set (i*m+j) x) k∧H'.next=H.next∧∀c,c≠b→H'.get c=H.get c:=by
 have him:i*m+m≤k*m:=by
  have:(i+1)*m≤k*m:=Nat.mul_le_mul_right _ hi
  rwa [Nat.add_mul,Nat.one_mul]at this
 have hb:Nat.blt i k=true:=by simpa[Nat.blt_eq] using hi
 rcases h with⟨_,_,h⟩ | ⟨b,C,low,r,rfl,h2,h3,h4,h5,h6,h7,h8⟩
 ·omega
 ·obtain⟨H',m1,r1,n1,k1⟩:=row_store (H:=H) (b:=b) (n:=C.length) ⟨low,h3,h4⟩ rfl (i:=i*m+j) om hx
  obtain⟨low',g1,g2⟩:=r1
  have hl:(C.set (i*m+j) x).length=C.length:=by simp
  refine⟨b,C.length,H',?_,blk_some rfl,m1,.inr ⟨b,C.set (i*m+j) x,low',r,by rw[hl],?_,g1,g2,?_,by simp[h6],by rw[hl]; exact h7,om⟩,n1,k1⟩
  ·rcases h2 with rfl | ⟨cap,rfl,_⟩
   ·exact idxM .i64 hi
   ·show (bif Nat.blt i k then some (AVal.ptr (some ⟨b,C.length,0+i*m⟩)) else none)=_
    rw[hb,Nat.zero_add]; rfl
  ·rcases h2 with rfl | ⟨cap,rfl,q1,q2⟩
   ·exact .inl rfl
   ·exact .inr ⟨cap,rfl,q1,by rw[hl]; exact q2⟩
  ·rw[List.take_set,h5]
theorem codL_land:∀(l:List In4) (i n:Nat),i<l.length→(codL l).set (i*4+3) (.int .i64 (n:Int))=codL (landL i n l)
 | [],i,n,h=>by simp at h
 | x::l,0,n,_=>rfl
 | x::l,i+1,n,h=>by
  have ih:=codL_land l i n (by simpa using h)
  simp only[codL,landL,← ih]
  rw[List.set_append_right _ _ (by simp[inL]; omega)]
  congr 2
  simp[inL]; omega
theorem kjump1_spec{E:Env'}{x:Cs}{cb n0 jb sb i:Nat}{O:Nat→Prop}{H:AHeap}(A:MkS E x cb n0 O H)(rj:Row H jb [cellR cb 7 0])(rs:Row H sb [.int .i64 (i:Int)])(hi:i<x.code.length) :
  ACalls Tryz.prog natT 170 [cellR jb 1 0,cellR sb 1 0] H fun _ H'=>MkS E (x.land i) cb n0 O H'∧H'.next=H.next∧∀c,¬O c→H'.get c=H.get c:=by
 obtain⟨vc,vd,vn,vk,mb,mp,A⟩:=A
 refine acalls_ofN rfl za170 rfl ?_
 have lj:oLoad false 1 H (cellR jb 1 0)=some (cellR cb 7 0):=row_load rj rfl rfl
 have ls:oLoad false 1 H (cellR sb 1 0)=some (.int .i64 (i:Int)):=row_load rs rfl rfl
 have l2:oLoad false 1 H (cellR cb 7 2)=some vd:=row_load A.row rfl rfl
 have lv:=A.ld.len
 obtain⟨b,n,H1,ix,hb,m1,L1,n1,k1⟩:=LinM.write A.ld hi (j:=3) om (x:=.int .i64 (x.code.length:Int)) rfl
 simp only[c170,sA,sB,seval,nil_cell,fld0,fldA,lj,ls,l2,lv,ix,m1]
 have hbd:∃a j r,vd=.slice (some a) j r∧a.b=b:=by
  rcases A.ld with⟨_,_,h0⟩ | ⟨b',C,low,r,rfl,_⟩
  ·omega
  ·exact⟨_,_,_,rfl,(hb _ _ _ rfl).symm⟩
 obtain⟨a,j,r,ev,ea⟩:=hbd
 have ob:=A.bd a j r ev
 rw[ea]at ob
 have kO:∀c,¬O c→H1.get c=H.get c:=fun c hc=>k1 c fun e=>hc (e ▸ ob.1)
 have same:∀{w:AVal},Dj w vd→Blk w fun c=>H1.get c=H.get c:=fun d a' j' r' e=>k1 _ (by have:=d a' j' r' e a j r ev; rw[ea]at this; exact this)
 rw[codL_land _ _ _ hi]at L1
 have hl:x.code.length=(x.land i).code.length:=by simp[Cs.land,landL_len]
 refine⟨_,rfl,⟨vc,vd,vn,vk,mb,mp,A.row.same (k1 cb ob.2.1.symm),A.lc.same om (same A.cd),by rw[← hl]; exact L1,A.ln.same om (same A.dn.symm),A.lk.same om (same A.dk.symm),
  (k1 mb ob.2.2.1.symm).trans A.bl,(k1 mp ob.2.2.2.symm).trans A.pl,A.oc,A.ne,fun c hc=>by have:=A.oN c hc; omega,A.bc,A.bd,A.bn,A.bk,A.cd,A.cn,A.ck,A.dn,A.dk,A.nk⟩,n1,kO⟩
theorem ksign_0{H:AHeap}:ACalls Tryz.prog natT 187 [.str [124,124]] H fun v H'=>v=.int .u8 (sgnOp [124,124]:Int)∧H=H':=by
 refine acalls_ofN rfl za187 rfl ?_
 simp only[c187,sA,sB,seval]
 exact⟨by rfl,tt⟩
theorem ksign_1{H:AHeap}:ACalls Tryz.prog natT 187 [.str [38,38]] H fun v H'=>v=.int .u8 (sgnOp [38,38]:Int)∧H=H':=by
 refine acalls_ofN rfl za187 rfl ?_
 simp only[c187,sA,sB,seval]
 exact⟨by rfl,tt⟩
theorem ksign_2{H:AHeap}:ACalls Tryz.prog natT 187 [.str [61,61]] H fun v H'=>v=.int .u8 (sgnOp [61,61]:Int)∧H=H':=by
 refine acalls_ofN rfl za187 rfl ?_
 simp only[c187,sA,sB,seval]
 exact⟨by rfl,tt⟩
theorem ksign_3{H:AHeap}:ACalls Tryz.prog natT 187 [.str [33,61]] H fun v H'=>v=.int .u8 (sgnOp [33,61]:Int)∧H=H':=by
 refine acalls_ofN rfl za187 rfl ?_
 simp only[c187,sA,sB,seval]
 exact⟨by rfl,tt⟩
theorem ksign_4{H:AHeap}:ACalls Tryz.prog natT 187 [.str [60,61]] H fun v H'=>v=.int .u8 (sgnOp [60,61]:Int)∧H=H':=by
 refine acalls_ofN rfl za187 rfl ?_
 simp only[c187,sA,sB,seval]
 exact⟨by rfl,tt⟩
theorem ksign_5{H:AHeap}:ACalls Tryz.prog natT 187 [.str [62,61]] H fun v H'=>v=.int .u8 (sgnOp [62,61]:Int)∧H=H':=by
 refine acalls_ofN rfl za187 rfl ?_
 simp only[c187,sA,sB,seval]
 exact⟨by rfl,tt⟩
theorem ksign_6{H:AHeap}:ACalls Tryz.prog natT 187 [.str [60]] H fun v H'=>v=.int .u8 (sgnOp [60]:Int)∧H=H':=by
 refine acalls_ofN rfl za187 rfl ?_
 simp only[c187,sA,sB,seval]
 exact⟨by rfl,tt⟩
theorem ksign_7{H:AHeap}:ACalls Tryz.prog natT 187 [.str [62]] H fun v H'=>v=.int .u8 (sgnOp [62]:Int)∧H=H':=by
 refine acalls_ofN rfl za187 rfl ?_
 simp only[c187,sA,sB,seval]
 exact⟨by rfl,tt⟩
theorem ksign_8{H:AHeap}:ACalls Tryz.prog natT 187 [.str [43]] H fun v H'=>v=.int .u8 (sgnOp [43]:Int)∧H=H':=by
 refine acalls_ofN rfl za187 rfl ?_
 simp only[c187,sA,sB,seval]
 exact⟨by rfl,tt⟩
theorem ksign_9{H:AHeap}:ACalls Tryz.prog natT 187 [.str [45]] H fun v H'=>v=.int .u8 (sgnOp [45]:Int)∧H=H':=by
 refine acalls_ofN rfl za187 rfl ?_
 simp only[c187,sA,sB,seval]
 exact⟨by rfl,tt⟩
theorem ksign_10{H:AHeap}:ACalls Tryz.prog natT 187 [.str [42]] H fun v H'=>v=.int .u8 (sgnOp [42]:Int)∧H=H':=by
 refine acalls_ofN rfl za187 rfl ?_
 simp only[c187,sA,sB,seval]
 exact⟨by rfl,tt⟩
theorem ksign_11{H:AHeap}:ACalls Tryz.prog natT 187 [.str [47]] H fun v H'=>v=.int .u8 (sgnOp [47]:Int)∧H=H':=by
 refine acalls_ofN rfl za187 rfl ?_
 simp only[c187,sA,sB,seval]
 exact⟨by rfl,tt⟩
theorem ksign_spec{s:Bs}(hs:opF s 2=true){H:AHeap}:ACalls Tryz.prog natT 187 [.str s] H fun v H'=>v=.int .u8 (sgnOp s:Int)∧H=H':=by
 have hm:s∈([[124,124],[38,38],[61,61],[33,61],[60,61],[62,61],[60],[62],[43],[45],[42],[47]]:List Bs):=by simpa[opF] using hs
 simp only[List.mem_cons,List.not_mem_nil,or_false]at hm
 rcases hm with rfl | rfl | rfl | rfl | rfl | rfl | rfl | rfl | rfl | rfl | rfl | rfl
 ·exact ksign_0
 ·exact ksign_1
 ·exact ksign_2
 ·exact ksign_3
 ·exact ksign_4
 ·exact ksign_5
 ·exact ksign_6
 ·exact ksign_7
 ·exact ksign_8
 ·exact ksign_9
 ·exact ksign_10
 ·exact ksign_11
theorem mk_regs{E:Env'}{x:Cs}{cb n0:Nat}{O:Nat→Prop}{H:AHeap}(A:MkS E x cb n0 O H):∃vn vk,oLoad false 1 H (cellR cb 7 5)=some vn∧oLoad false 1 H (cellR cb 7 6)=some vk∧LinM 1 H vn (nmL E) E.length∧LinM 1 H vk (kdL E) E.length∧Blk vn (·<H.next)∧Blk vk (·<H.next):=by
 obtain⟨vc,vd,vn,vk,mb,mp,A⟩:=A
 exact⟨vn,vk,row_load A.row rfl rfl,row_load A.row rfl rfl,A.ln,A.lk,A.ln.blk,A.lk.blk⟩
theorem koper_spec{E:Env'}(hE:Scp E)(hEl:E.length≤100000){x:Cs}{cb n0:Nat}{O:Nat→Prop}{H:AHeap}(A:MkS E x cb n0 O H){s:Bs}{n:Int}{kids:List Ex}{v p:AVal}{C:List AVal}{r:Nat}
  (pt:PtC H p [.int .u8 3,.str s,.int .i64 n,v]) (hp:∀a,p=.ptr (some a)→a.b<n0) (z1:WhK (·<n0) H 4 v kids.length C) (z2:XEws (·<n0) H kids C) (hok:okE (.mk 3 s n kids)=true) (hs:sizesE kids≤1000) (hd:deepsE kids≤40) (hl:x.code.length≤100000) (hr:r≤100000) :
  ACalls Tryz.prog natT 166 [cellR cb 7 0,p,.int .i64 (r:Int)] H fun _ H'=>∃O',MkS E (lastE E 3 s n kids r x) cb n0 O' H'∧FrO O H O' H':=by
 obtain⟨hpf,hks⟩:=okE_kids hok
 obtain⟨_,hop,_⟩:=partF_k hpf
 have hop:=hop rfl
 have nc:=pt.chk
 have f1:=pt.fld 1
 have f3:=pt.fld 3
 have l1:oLoad false 1 H (fp p 1)=some (.str s):=pt.load (o:=1) rfl
 have l3:oLoad false 1 H (fp p 3)=some v:=pt.load (o:=3) rfl
 have ln:=z1.sl.len
 have hlast:lastE E 3 s n kids r x=(if kids.length=1 then x.put (if s=[33] then 8 else 7) r r 0 else if s=[42]∧headT E kids=2 then x.put 5 r (r+1) r else x.put (sgnOp s) r r (r+1)):=rfl
 have wr:IntKind.i64.wrap ((r:Int)+1)=((r+1:Nat):Int):=w64
 rw[hlast]
 refine acalls_ofN rfl za166 rfl ?_
 by_cases h1:kids.length=1
 ·have h1':(kids.length:Int)=1:=om
  rw[if_pos h1]
  by_cases hb:s=[33]
  ·subst hb
   simp only[c166,sA,sB,seval,nc,f3,l3,ln,h1',f1,l1]
   refine (kput_spec A 8 r r 0 hl).mono ?_
   rintro _ H2 ⟨rfl,O2,A2,F2⟩
   simp only[sA,sB,seval]
   exact⟨_,rfl,O2,A2,F2⟩
  ·simp only[c166,sA,sB,seval,nc,f3,l3,ln,h1',f1,l1,hb,if_false]
   refine (kput_spec A 7 r r 0 hl).mono ?_
   rintro _ H2 ⟨rfl,O2,A2,F2⟩
   simp only[sA,sB,seval]
   exact⟨_,rfl,O2,A2,F2⟩
 have h1':¬(kids.length:Int)=1:=om
 have h2:kids.length=2:=by
  rcases hk:kids.length with _ | _ | _ | m
  ·rw[hk]at hop; simp[opF]at hop
  ·omega
  ·rfl
  ·rw[hk]at hop; simp[opF]at hop
 rw[h2]at hop
 rw[if_neg h1]
 by_cases hb:s=[42]
 ·subst hb
  obtain⟨e0,e1,rfl⟩:∃a b,kids=[a,b]:=by
   match kids,h2 with
   | [a,b],_=>exact⟨a,b,rfl⟩
  have ix:=z1.sl.idx (i:=0) (by simp)
  have ld:=z1.sl.load (i:=0) (by simp)
  have hx:=z2.at (i:=0) (e:=e0) rfl
  simp only[Int.cast_ofNat_Int]at ix
  obtain⟨vn,vk,ln5,ln6,Ln,Lk,bn,bk⟩:=mk_regs A
  have hsz:e0.size≤1000:=by simp only[sizesE]at hs; omega
  have hdp:e0.deep≤40:=by simp only[deepsE]at hd; omega
  have hok0:okE e0=true:=by simp only[oksE,Bool.and_eq_true]at hks; exact hks.1
  have hn0:=A.lt
  have hT:headT E [e0,e1]=tyOf E e0:=rfl
  simp only[c166,sA,sB,seval,nc,f3,l3,ln,h1',f1,l1,ix,ld,nil_cell,fldA,ln5,ln6]
  refine (tof_spec hE om Ln Lk bn bk rL om hx hok0 hsz hdp).mono ?_
  rintro _ H1 ⟨rfl,E1⟩
  have A1:=A.exts E1
  have F1:FrO O H O H1:=FrO.exts E1
  have l1':oLoad false 1 H1 (fp p 1)=some (.str [42]):=(pt.same (by intro a e; exact E1.old _ (by have:=hp a e; omega))).load (o:=1) rfl
  cases hty:tyE E e0 with
  | error f=>
   have hq:headT E [e0,e1]=0:=by rw[hT]; unfold tyOf; rw[hty]
   rw[if_neg (fun h=>by rw[hq]at h; exact absurd h.2 dD)]
   simp only[sA,sB,seval,tyO,kdA,ext_0,ext_1,Int.cast_ofNat_Int,nc,f1,l1']
   refine (ksign_spec (s:=[42]) (by rfl)).mono ?_
   rintro _ _ ⟨rfl,rfl⟩
   simp only[sA,sB,seval,wr]
   refine (kput_spec A1 (sgnOp [42]) r r (r+1) hl).mono ?_
   rintro _ H2 ⟨rfl,O2,A2,F2⟩
   simp only[sA,sB,seval]
   exact⟨_,rfl,O2,A2,F1.trans F2⟩
  | ok t=>
   have hq:headT E [e0,e1]=t:=by rw[hT]; unfold tyOf; rw[hty]
   by_cases h2t:t=2
   ·subst h2t
    rw[if_pos ⟨by trivial,hq⟩]
    simp only[sA,sB,seval,tyO,kdA,ext_0,ext_1,Int.cast_ofNat_Int,nc,f1,l1',wr]
    refine (kput_spec A1 5 r (r+1) r hl).mono ?_
    rintro _ H2 ⟨rfl,O2,A2,F2⟩
    simp only[sA,sB,seval]
    exact⟨_,rfl,O2,A2,F1.trans F2⟩
   ·have h2z:¬(t:Int)=2:=om
    rw[if_neg (fun h=>h2t (hq ▸ h.2))]
    simp only[sA,sB,seval,tyO,kdA,ext_0,ext_1,h2z,nc,f1,l1']
    refine (ksign_spec (s:=[42]) (by rfl)).mono ?_
    rintro _ _ ⟨rfl,rfl⟩
    simp only[sA,sB,seval,wr]
    refine (kput_spec A1 (sgnOp [42]) r r (r+1) hl).mono ?_
    rintro _ H2 ⟨rfl,O2,A2,F2⟩
    simp only[sA,sB,seval]
    exact⟨_,rfl,O2,A2,F1.trans F2⟩
 ·simp only[c166,sA,sB,seval,nc,f3,l3,ln,h1',f1,l1,hb]
  refine (ksign_spec hop).mono ?_
  rintro _ _ ⟨rfl,rfl⟩
  simp only[sA,sB,seval,wr]
  refine (kput_spec A (sgnOp s) r r (r+1) hl).mono ?_
  rintro _ H2 ⟨rfl,O2,A2,F2⟩
  simp only[sA,sB,seval,hb,false_and,if_false]
  exact⟨_,rfl,O2,A2,F2⟩
open Go.Abs Go.Abs.S
theorem slk_pb{P:Nat→Prop}{H:AHeap}{m k:Nat}{v:AVal}{C:List AVal}(h:SlK P H m v k C){i:Nat}(hi:i<k):∀a,placeK m v i=.ptr (some a)→P a.b:=by
 rcases h with⟨_,h,_⟩ | ⟨b,r,rfl,hb,_⟩
 ·omega
 ·intro a e
  simp only[placeK,AVal.ptr.injEq,sJ]at e
  rw[← e]; exact hb
theorem strE_look0{α:Type}(g:α→AVal){H:AHeap}{mb c:Nat}{L:List (Bs×α)}(h:H.get mb=some (.map (strE g L 0) c)){s:Bs}{x:α}(ha:atKey L s=some x)(z:AVal) :
  aHf (.mLook .str false z) H [.map (some mb),.str s]=some (g x,H):=by
 obtain⟨_,h2⟩:=strE_find g s L 0 0
 obtain⟨k,b,q⟩:=h2 x ha
 simp only[aHf,aMLook,h,aLookE,isK,cond_true,q,mRet]
 rfl
theorem opTab_arg:∀y∈argTab,atKey opTab y.1=some (bltOp y.1,y.2.1.length):=by decide
theorem callT_op{s:Bs}{ts:List Nat}{t:Nat}(h:callT s ts=.ok t):atKey opTab s=some (bltOp s,ts.length):=by
 unfold callT at h
 cases ha:atKey argTab s with
 | none=>rw[ha]at h; simp at h
 | some x=>
  obtain⟨args,own⟩:=x
  rw[ha]at h
  simp only at h
  by_cases h1:ts.length≠args.length
  ·rw[if_pos h1]at h; simp at h
  ·have:=opTab_arg _ (atKey_mem ha)
   rw[this]
   simp only[ne_eq,Decidable.not_not]at h1
   rw[h1]
theorem tyE_kids{E:Env'}{k:Nat}{s:Bs}{n:Int}{kids:List Ex}{t:Nat}(h:tyE E (.mk k s n kids)=.ok t):∃ts,tyEs E kids=.ok ts∧kindT E k s ts=.ok t:=by
 simp only[tyE]at h
 cases hk:tyEs E kids with
 | error f=>rw[hk]at h; simp at h
 | ok ts=>rw[hk]at h; exact⟨ts,rfl,h⟩
theorem tyEs_mem{E:Env'}:∀{l:List Ex} {ts:List Nat},tyEs E l=.ok ts→∀e∈l,∃t,tyE E e=.ok t
 | [],_,_,e,h=>by simp at h
 | x::l,ts,h,e,he=>by
  simp only[tyEs]at h
  cases hx:tyE E x with
  | error f=>rw[hx]at h; simp at h
  | ok t=>
   rw[hx]at h
   cases hl:tyEs E l with
   | error f=>rw[hl]at h; simp at h
   | ok us=>
    rcases List.mem_cons.1 he with rfl | he
    ·exact⟨t,hx⟩
    ·exact tyEs_mem hl e he
theorem lastT_first{s:Bs}{t:Nat}:∀{E:Env'},lastT E s=some t→∃i,firstI s E=some i∧i<E.length:=by
 intro E h
 cases hf:firstI s E with
 | some i=>exact⟨i,rfl,by obtain⟨t,ht⟩:=firstI_lt hf; exact (List.getElem?_eq_some_iff.1 ht).1⟩
 | none=>exact absurd (List.mem_map_of_mem (f:=(·.1)) (lastT_mem h)) (firstI_none.1 hf)
theorem oksE_mem{l:List Ex}(h:oksE l=true){e:Ex}(he:e∈l):okE e=true:=by
 induction l with
 | nil=>simp at he
 | cons x l ih=>
  simp only[oksE,Bool.and_eq_true]at h
  rcases List.mem_cons.1 he with rfl | he
  ·exact h.1
  ·exact ih h.2 he
theorem cEs_take{E:Env'}{kids:List Ex}{i:Nat}{e:Ex}(he:kids[i]?=some e)(r:Nat)(x:Cs):cEs E (kids.take (i+1)) r x=cE E e (r+i) (cEs E (kids.take i) r x):=by
 have hlt:i<kids.length:=(List.getElem?_eq_some_iff.1 he).1
 rw[List.take_add_one,he,Option.toList_some,cEs_app,List.length_take,Nat.min_eq_left om]
 simp only[cEs]
theorem sizes_take(l:List Ex)(i:Nat):sizesE (l.take i)≤sizesE l:=by
 induction l generalizing i with
 | nil=>simp
 | cons x l ih=>
  cases i with
  | zero=>simp[sizesE]
  | succ i=>simp only[List.take_succ_cons,sizesE]; have:=ih i; omega
theorem sizes_at{l:List Ex}{i:Nat}{e:Ex}(he:l[i]?=some e):sizesE (l.take i)+e.size≤sizesE l:=by
 induction l generalizing i with
 | nil=>simp at he
 | cons x l ih=>
  cases i with
  | zero=>simp only[List.getElem?_cons_zero,sJ]at he; subst he; simp[sizesE]
  | succ i=>simp only[List.getElem?_cons_succ]at he; simp only[List.take_succ_cons,sizesE]; have:=ih he; omega
structure Rm(x:Cs)(n:Nat):Prop where
 code:x.code.length+n≤50000
 cons:x.cons.length+n≤50000
theorem kexpr_spec{E:Env'}(hE:Scp E)(hEl:E.length≤100000){cb n0:Nat}:∀(N:Nat) {e:Ex} {x:Cs} {O:Nat→Prop} {H:AHeap} {p:AVal} {c:List AVal} {r t:Nat},e.size≤N→MkS E x cb n0 O H→PtC H p c→(∀a,p=.ptr (some a)→a.b<n0)→XEw (·<n0) H e c→okE e=true→tyE E e=.ok t→e.size≤1000→e.deep≤40→Rm x e.size→r+e.size≤50000 →
  ACalls Tryz.prog natT 127 [cellR cb 7 0,p,.int .i64 (r:Int)] H fun _ H'=>∃O',MkS E (cE E e r x) cb n0 O' H'∧FrO O H O' H'
 | 0,e,_,_,_,_,_,_,_,h,_,_,_,_,_,_,_,_,_,_=>absurd (sizeE_pos e) om
 | N+1,.mk k s n kids,x,O,H,p,c,r,t,h,A,pt,hp,hx,hok,hty,hs,hd,hr,hrr=>by
  obtain⟨v,C,rfl,z1,z2⟩:=hx
  have hsz:(Ex.mk k s n kids).size=sizesE kids+1:=rfl
  have hdp:(Ex.mk k s n kids).deep=deepsE kids+1:=rfl
  have hr1:=hr.code
  have hr2:=hr.cons
  obtain⟨ts,hts,hkt⟩:=tyE_kids hty
  obtain⟨hpf,hks⟩:=okE_kids hok
  have hlen:=len_sizesE kids
  have nc:=pt.chk
  have f0:=pt.fld0
  have f1:=pt.fld 1
  have f2:=pt.fld 2
  have f3:=pt.fld 3
  obtain⟨vc,vd,vn,vk,mb,mp,A⟩:=A
  have hcb:=A.oN _ A.oc.1
  have lr:oLoad false 1 H (cellR cb 7 1)=some (.int .i64 (x.regs:Int)):=row_load A.row rfl rfl
  have wr:IntKind.i64.wrap ((r:Int)+1)=((r+1:Nat):Int):=w64
  obtain⟨H1,m1,q1,n1,k1⟩:=row_st A.row (n:=7) rfl (i:=1) om (x:=.int .i64 ((max x.regs (r+1):Nat):Int)) rfl (l':=[vc,.int .i64 ((max x.regs (r+1):Nat):Int),vd,.map (some mb),.map (some mp),vn,vk]) rfl
  have A1:MkS E (x.use r) cb n0 O H1:=⟨_,_,_,_,_,_,A.regs q1 n1 k1⟩
  have F1:FrO O H O H1:=⟨om,fun c _ h2=>k1 c (fun e=>h2 (e ▸ A.oc.1)),fun _ h=>.inl h⟩
  have pt1:PtC H1 p [.int .u8 (k:Int),.str s,.int .i64 n,v]:=pt.same fun a e=>k1 _ (by have:=hp a e; omega)
  have l3:oLoad false 1 H1 (fp p 3)=some v:=pt1.load (o:=3) rfl
  have ln:=z1.sl.len
  refine acalls_ofN rfl za127 rfl ?_
  simp only[c127,sA,sB,seval,nil_cell,fld0,fldA,lr,wr,pf_maxN,m1,nc,f3,l3,ln]
  refine aw_loop (fun m (T:Env) K=>∃(i:Nat) (O1:Nat→Prop),m=kids.length-i∧i≤kids.length∧T 0=cellR cb 7 0∧T 1=p∧T 2=.int .i64 (r:Int)∧T 24=.int .i64 (kids.length:Int)∧T 25=.int .i64 (i:Int)∧MkS E (cEs E (kids.take i) r (x.use r)) cb n0 O1 K∧FrO O H O1 K) kids.length
   ⟨0,O,rfl,Nat.zero_le _,by simp only[sA,sB,seval]; try rfl,by simp only[sA,sB,seval]; try rfl,by simp only[sA,sB,seval]; try rfl,by simp only[sA,sB,seval]; try rfl,by simp only[sA,sB,seval]; try rfl,A1,F1⟩ ?_
  rintro m T K ⟨i,O1,rfl,hi,t0,t1,t2,t24,t25,AK,FK⟩
  have nK:=FK.next
  have kmK:∀c,c<n0→c<n0∧K.get c=H.get c:=fun c hc=>⟨hc,FK.old c om (fun q=>by have:=A.oN c q; omega)⟩
  have ptK:PtC K p [.int .u8 (k:Int),.str s,.int .i64 n,v]:=pt.same fun a e=>(kmK _ (hp a e)).2
  have z1K:=z1.mono kmK
  have z2K:=z2.mono kmK
  obtain⟨q1,q2,q3⟩:=cEs_lim E (kids.take i) r (x.use r)
  have hst:=sizes_take kids i
  have u1:(x.use r).code=x.code:=rfl
  have u2:(x.use r).cons=x.cons:=rfl
  rw[u1]at q1
  rw[u2]at q2
  by_cases hlt:i<kids.length
  ·have hlt':(i:Int)<(kids.length:Int):=om
   obtain⟨e,he⟩:∃e,kids[i]?=some e:=⟨_,List.getElem?_eq_getElem hlt⟩
   have hmem:=List.mem_of_getElem? he
   have hsm:=sizes_at he
   have hdm:=deepsE_memT hmem
   obtain⟨te,hte⟩:=tyEs_mem hts e hmem
   have ix:=z1K.sl.idx hlt
   have l3K:oLoad false 1 K (fp p 3)=some v:=ptK.load (o:=3) rfl
   have wi:IntKind.i64.wrap ((i:Int)+1)=((i+1:Nat):Int):=addN i 1 om
   have wri:IntKind.i64.wrap ((r:Int)+(i:Int))=((r+i:Nat):Int):=addN r i om
   have hil:i+e.size≤sizesE kids:=by
    have:i=(kids.take i).length:=by rw[List.length_take]; omega
    have:=len_sizesE (kids.take i)
    omega
   simp only[sA,sB,seval,t0,t1,t2,t24,t25,hlt',nc,f3,l3K,ix,wri]
   refine (kexpr_spec hE hEl N om AK (z1K.sl.pt hlt) (slk_pb z1K.sl hlt) (z2K.at he) (oksE_mem hks hmem) hte om om ⟨om,om⟩ om).mono ?_
   rintro _ K2 ⟨O2,A2,F2⟩
   simp only[sA,sB,seval,t0,t1,t2,t24,t25,wi]
   refine⟨kids.length-(i+1),om,i+1,O2,rfl,om,tt,tt,tt,tt,tt,?_,FK.trans F2⟩
   rw[cEs_take he]; exact A2
  obtain rfl:i=kids.length:=om
  have hlt':¬(kids.length:Int)<(kids.length:Int):=om
  rw[List.take_length]at AK q1 q2 q3
  have l0:oLoad false 1 K p=some (.int .u8 (k:Int)):=ptK.load0 rfl
  have l1:oLoad false 1 K (fp p 1)=some (.str s):=ptK.load (o:=1) rfl
  have l2:oLoad false 1 K (fp p 2)=some (.int .i64 n):=ptK.load (o:=2) rfl
  have hc:cE E (.mk k s n kids) r x=lastE E k s n kids r (cEs E kids r (x.use r)):=rfl
  rw[hc]
  by_cases h1:k=1
  ·subst h1
   simp only[Int.cast_ofNat_Int]at l0
   simp only[sA,sB,seval,t0,t1,t2,t24,t25,hlt',nc,f0,f2,l0,l2]
   refine (kconst_spec AK n om).mono ?_
   rintro _ H2 ⟨rfl,O2,A2,F2⟩
   obtain⟨g1,g2,g3⟩:=con_code n (cEs E kids r (x.use r))
   simp only[sA,sB,seval,t0,t1,t2]
   refine (kput_spec A2 1 r _ 0 (by rw[g1]; omega)).mono ?_
   rintro _ H3 ⟨rfl,O3,A3,F3⟩
   simp only[sA,sB,seval]
   exact⟨_,rfl,O3,A3,FK.trans (F2.trans F3)⟩
  have h1':¬(k:Int)=1:=om
  by_cases h2:k=2
  ·subst h2
   obtain⟨t',ht'⟩:∃t',lastT E s=some t':=by
    unfold kindT at hkt
    cases hl:lastT E s with
    | none=>rw[hl]at hkt; simp at hkt
    | some u=>exact⟨u,rfl⟩
   obtain⟨i,hi1,hi2⟩:=lastT_first ht'
   have hreg:regOf s E=i:=by unfold regOf; rw[hi1]; rfl
   have hix:idxZ s E=(i:Int):=by unfold idxZ; rw[hi1]
   obtain⟨vn',vk',ln5,ln6,Ln,Lk,bn,bk⟩:=mk_regs AK
   have hcel:=(LinM.cel1 Ln bn).1
   simp only[Int.cast_ofNat_Int]at l0
   simp only[sA,sB,seval,t0,t1,t2,t24,t25,hlt',nc,f0,f1,l0,l1,nil_cell,fldA,ln5]
   refine (sidx_at hcel s om).mono ?_
   rintro _ _ ⟨rfl,rfl⟩
   rw[hix]
   simp only[sA,sB,seval,t0,t1,t2]
   refine (kput_spec AK 2 r i 0 om).mono ?_
   rintro _ H3 ⟨rfl,O3,A3,F3⟩
   simp only[sA,sB,seval]
   refine⟨_,rfl,O3,?_,FK.trans F3⟩
   have:lastE E 2 s n kids r (cEs E kids r (x.use r))=Cs.put 2 r i 0 (cEs E kids r (x.use r)):=by
    rw[← hreg]; rfl
   rw[this]; exact A3
  have h2':¬(k:Int)=2:=om
  by_cases h3:k=3
  ·subst h3
   simp only[Int.cast_ofNat_Int]at l0
   simp only[sA,sB,seval,t0,t1,t2,t24,t25,hlt',nc,f0,l0]
   refine (koper_spec hE hEl AK (by simpa using ptK) hp z1K z2K hok om om om om).mono ?_
   rintro _ H3 ⟨O3,A3,F3⟩
   simp only[sA,sB,seval]
   exact⟨_,rfl,O3,A3,FK.trans F3⟩
  have h3':¬(k:Int)=3:=om
  have h4:k=4:=by
   unfold kindT at hkt
   rw[if_neg h1,if_neg h2,if_neg h3]at hkt
   by_cases h4:k=4
   ·exact h4
   ·rw[if_neg h4]at hkt; simp at hkt
  subst h4
  have hct:callT s ts=.ok t:=hkt
  have hop:=callT_op hct
  have htl:=tyEs_len hts
  rw[htl]at hop
  obtain⟨wc,wd,wn,wk,mb2,mp2,AK⟩:=AK
  have hcbK:=AK.oN _ AK.oc.1
  obtain⟨H4,hH4⟩:∃J,J=K.push (.cells [.int .u8 0,.int .i64 0] 0 false):=⟨_,rfl⟩
  have n4:H4.next=K.next+1:=by rw[hH4]; rfl
  have g4:H4.get K.next=some (.cells [.int .u8 0,.int .i64 0] 0 false):=by rw[hH4,AHeap.get_push,if_pos rfl]
  have k4:∀c,c<K.next→H4.get c=K.get c:=fun c hc=>by rw[hH4,get_push_lt hc]
  have A4:=AK.keep (H':=H4) om fun c hc=>k4 c (AK.oN c hc).2
  have lm:oLoad false 1 H4 (cellR cb 7 3)=some (.map (some mb2)):=row_load A4.row rfl rfl
  have l14:oLoad false 1 H4 (fp p 1)=some (.str s):=(ptK.same (H':=H4) fun a e=>k4 _ (by have:=hp a e; omega)).load (o:=1) rfl
  have lk:=strE_look0 gK A4.bl hop (.agg [.int .u8 0,.int .i64 0])
  have cl4:aClaim H4 K.next _ none=some (cellR K.next 2 0):=claim_ok g4 rfl
  obtain⟨H5,m5,r5,n5,k5⟩:=row_storeN (H:=H4) (b:=K.next) ⟨0,g4,Nat.zero_le _⟩ (n:=2) rfl (xs:=[.int .u8 (bltOp s:Int),.int .i64 (kids.length:Int)]) rfl rfl
  have l50:oLoad false 1 H5 (cellR K.next 2 0)=some (.int .u8 (bltOp s:Int)):=row_load r5 rfl rfl
  have l51:oLoad false 1 H5 (cellR K.next 2 1)=some (.int .i64 (kids.length:Int)):=row_load r5 rfl rfl
  have A5:MkS E (cEs E kids r (x.use r)) cb n0 O1 H5:=⟨_,_,_,_,_,_,A4.keep om fun c hc=>k5 c (by have:=AK.oN c hc; omega)⟩
  have E5:Ext K.next K H5:=⟨om,fun c hc=>by rw[k5 c om,k4 c hc]⟩
  have F5:FrO O1 K O1 H5:=FrO.exts E5
  simp only[gK]at lk
  simp only[Int.cast_ofNat_Int]at l0
  simp only[sA,sB,seval,t0,t1,t2,t24,t25,hlt',nc,f0,l0]
  refine aw_drawN ?_
  simp only[claims,newOf,reserves,resO_0,clOp_new,← hH4]
  simp only[sR,sA,sB,seval,t0,t1,t2,nc,nil_cell,fldA,lm,f1,l14,lk,tr_claim,cl4,m5]
  simp only[ck_nil',ck_cons,ckP_load,ckP_claim,ckP_nil,ck_end,and_true,true_and,List.map_cons,List.map_nil,sA,sB,seval]
  refine⟨⟨_,rfl,fun _=>⟨_,cl4,aeq_cellR _ _ _⟩⟩,?_⟩
  have hl4:lastE E 4 s n kids r (cEs E kids r (x.use r))=Cs.put (bltOp s) r r (if kids.length=2 then r+1 else 0) (cEs E kids r (x.use r)):=rfl
  rw[hl4]
  by_cases hk2:kids.length=2
  ·have hk2':(kids.length:Int)=2:=om
   simp only[sA,sB,seval,fld0,fldA,l50,l51,hk2',t0,t1,t2,wr]
   rw[if_pos hk2]
   refine (kput_spec A5 (bltOp s) r r (r+1) om).mono ?_
   rintro _ H6 ⟨rfl,O6,A6,F6⟩
   simp only[sA,sB,seval]
   exact⟨_,rfl,O6,A6,FK.trans (F5.trans F6)⟩
  ·have hk2':¬(kids.length:Int)=2:=om
   simp only[sA,sB,seval,fld0,fldA,l50,l51,hk2',t0,t1,t2]
   rw[if_neg hk2]
   refine (kput_spec A5 (bltOp s) r r 0 om).mono ?_
   rintro _ H6 ⟨rfl,O6,A6,F6⟩
   simp only[sA,sB,seval]
   exact⟨_,rfl,O6,A6,FK.trans (F5.trans F6)⟩
open Go.Abs Go.Abs.S
theorem kreturns_spec:∀(N:Nat) {l:List St} {C:List AVal} {v:AVal} {P:Nat→Prop} {H:AHeap},sizesS l≤N→N≤1000000→SlK P H 9 v l.length C→XSs P H l C→ACalls Tryz.prog natT 133 [v] H fun u H'=>u=.bool (retL l)∧H=H':=by
 intro N
 induction N with
 | zero=>
  intro l C v P H hsz hN z1 z2
  have hl0:l=[]:=by
   cases l with
   | nil=>rfl
   | cons x l=>have:=sizeS_pos x; simp only[sizesS]at hsz; omega
  subst hl0
  have ln:=z1.len
  have h0:(([]:List St).length:Int)=0:=rfl
  refine acalls_ofN rfl za133 rfl ?_
  simp only[c133,sA,sB,seval,ln,h0]
  exact⟨tt,tt⟩
 | succ N ih=>
  intro l C v P H hsz hN z1 z2
  have ln:=z1.len
  by_cases hl0:l=[]
  ·subst hl0
   have h0:(([]:List St).length:Int)=0:=rfl
   refine acalls_ofN rfl za133 rfl ?_
   simp only[c133,sA,sB,seval,ln,h0]
   exact⟨tt,tt⟩
  obtain⟨x,j,hj,he,hr⟩:=last_of hl0
  have hjl:j<l.length:=om
  have hlen:=len_sizesS l
  have hn0:¬(l.length:Int)=0:=om
  have wj:IntKind.i64.wrap ((l.length:Int)-1)=(j:Int):=w64
  have ix:=z1.idx hjl
  have pt:=z1.pt hjl
  have hsm:=size_memS (List.mem_of_getElem? he)
  have hx:=z2.at he
  obtain⟨k,s,e,body,els,line⟩:=x
  obtain⟨ce,vb,Cb,ve,Ce,hcell,x1,y1,y2,y3,y4⟩:=hx
  obtain⟨c0,c1,c2,c3,rfl⟩:∃a b c d,ce=[a,b,c,d]:=by
   have:=x1.len
   match ce,this with
   | [a,b,c,d],_=>exact⟨a,b,c,d,rfl⟩
  rw[hcell]at pt
  have hsz2:(St.mk k s e body els line).size=e.size+sizesS body+sizesS els+1:=rfl
  have hrs:retS (.mk k s e body els line)=(decide (k=5)||(decide (k=3)&&(retL body&&retL els))):=rfl
  have nc:=pt.chk
  have f0:=pt.fld0
  have f6:=pt.fld 6
  have f7:=pt.fld 7
  have l0:oLoad false 1 H (placeK 9 v j)=some (.int .u8 (k:Int)):=pt.load0 rfl
  have l6:oLoad false 1 H (fp (placeK 9 v j) 6)=some vb:=pt.load (o:=6) rfl
  have l7:oLoad false 1 H (fp (placeK 9 v j) 7)=some ve:=pt.load (o:=7) rfl
  rw[hr,hrs]
  refine acalls_ofN rfl za133 rfl ?_
  by_cases h5:k=5
  ·subst h5
   simp only[c133,sA,sB,seval,ln,hn0,wj,ix,nc,f0,l0,Int.cast_ofNat_Int]
   exact⟨tt,tt⟩
  have h5':¬(k:Int)=5:=om
  by_cases h3:k=3
  ·subst h3
   simp only[c133,sA,sB,seval,ln,hn0,wj,ix,nc,f0,l0,Int.cast_ofNat_Int,f6,l6]
   refine (ih om om y1 y2).mono ?_
   rintro _ _ ⟨rfl,rfl⟩
   cases hb:retL body with
   | false=>
    simp only[sA,sB,seval]
    exact⟨tt,tt⟩
   | true=>
    simp only[sA,sB,seval,nc,f7,l7]
    refine (ih om om y3 y4).mono ?_
    rintro _ _ ⟨rfl,rfl⟩
    simp only[sA,sB,seval]
    exact⟨by simp,tt⟩
  ·have h3':¬(k:Int)=3:=om
   simp only[c133,sA,sB,seval,ln,hn0,wj,ix,nc,f0,l0,h5',h3',h5,h3]
   exact⟨tt,tt⟩
set_option maxRecDepth 100000 in
theorem kblt_spec{H:AHeap}:ACalls Tryz.prog natT 44 [] H fun u H'=>u=.map (some H.next)∧bltK H.next H'∧H'.next=H.next+1∧∀c,c≠H.next→H'.get c=H.get c:=by
 refine acalls_ofN rfl za44 rfl ?_
 have mm:aHf .mkMap H []=some (.map (some H.next),H.push (.map [] 0)):=rfl
 have q0:(H.push (.map [] 0)).get H.next=some (.map [] 0):=by rw[AHeap.get_push,if_pos rfl]
 have o0:∀b,b≠H.next→(H.push (.map [] 0)).get b=H.get b:=fun b hb=>by rw[AHeap.get_push,if_neg hb]
 obtain⟨K1,m1,n1,q1,o1⟩:=upd_newS (H:=H.push (.map [] 0)) (v:=.agg [.int .u8 17,.int .i64 3]) q0 (k:=[118,101,99]) rfl
 have b0:aBuild [.int .u8 0,.int .i64 0] [(0,1,.int .u8 17),(1,1,.int .i64 3)]=some (.agg [.int .u8 17,.int .i64 3]):=rfl
 obtain⟨K2,m2,n2,q2,o2⟩:=upd_newS (H:=K1) (v:=.agg [.int .u8 18,.int .i64 1]) q1 (k:=[120]) rfl
 have b1:aBuild [.int .u8 0,.int .i64 0] [(0,1,.int .u8 18),(1,1,.int .i64 1)]=some (.agg [.int .u8 18,.int .i64 1]):=rfl
 obtain⟨K3,m3,n3,q3,o3⟩:=upd_newS (H:=K2) (v:=.agg [.int .u8 19,.int .i64 1]) q2 (k:=[121]) rfl
 have b2:aBuild [.int .u8 0,.int .i64 0] [(0,1,.int .u8 19),(1,1,.int .i64 1)]=some (.agg [.int .u8 19,.int .i64 1]):=rfl
 obtain⟨K4,m4,n4,q4,o4⟩:=upd_newS (H:=K3) (v:=.agg [.int .u8 20,.int .i64 1]) q3 (k:=[122]) rfl
 have b3:aBuild [.int .u8 0,.int .i64 0] [(0,1,.int .u8 20),(1,1,.int .i64 1)]=some (.agg [.int .u8 20,.int .i64 1]):=rfl
 obtain⟨K5,m5,n5,q5,o5⟩:=upd_newS (H:=K4) (v:=.agg [.int .u8 21,.int .i64 2]) q4 (k:=[100,111,116]) rfl
 have b4:aBuild [.int .u8 0,.int .i64 0] [(0,1,.int .u8 21),(1,1,.int .i64 2)]=some (.agg [.int .u8 21,.int .i64 2]):=rfl
 obtain⟨K6,m6,n6,q6,o6⟩:=upd_newS (H:=K5) (v:=.agg [.int .u8 22,.int .i64 2]) q5 (k:=[99,114,111,115,115]) rfl
 have b5:aBuild [.int .u8 0,.int .i64 0] [(0,1,.int .u8 22),(1,1,.int .i64 2)]=some (.agg [.int .u8 22,.int .i64 2]):=rfl
 obtain⟨K7,m7,n7,q7,o7⟩:=upd_newS (H:=K6) (v:=.agg [.int .u8 23,.int .i64 1]) q6 (k:=[117,110,105,116]) rfl
 have b6:aBuild [.int .u8 0,.int .i64 0] [(0,1,.int .u8 23),(1,1,.int .i64 1)]=some (.agg [.int .u8 23,.int .i64 1]):=rfl
 obtain⟨K8,m8,n8,q8,o8⟩:=upd_newS (H:=K7) (v:=.agg [.int .u8 24,.int .i64 1]) q7 (k:=[115,113,114,116]) rfl
 have b7:aBuild [.int .u8 0,.int .i64 0] [(0,1,.int .u8 24),(1,1,.int .i64 1)]=some (.agg [.int .u8 24,.int .i64 1]):=rfl
 obtain⟨K9,m9,n9,q9,o9⟩:=upd_newS (H:=K8) (v:=.agg [.int .u8 25,.int .i64 1]) q8 (k:=[115,105,110]) rfl
 have b8:aBuild [.int .u8 0,.int .i64 0] [(0,1,.int .u8 25),(1,1,.int .i64 1)]=some (.agg [.int .u8 25,.int .i64 1]):=rfl
 obtain⟨K10,m10,n10,q10,o10⟩:=upd_newS (H:=K9) (v:=.agg [.int .u8 26,.int .i64 1]) q9 (k:=[99,111,115]) rfl
 have b9:aBuild [.int .u8 0,.int .i64 0] [(0,1,.int .u8 26),(1,1,.int .i64 1)]=some (.agg [.int .u8 26,.int .i64 1]):=rfl
 obtain⟨K11,m11,n11,q11,o11⟩:=upd_newS (H:=K10) (v:=.agg [.int .u8 27,.int .i64 1]) q10 (k:=[97,98,115]) rfl
 have b10:aBuild [.int .u8 0,.int .i64 0] [(0,1,.int .u8 27),(1,1,.int .i64 1)]=some (.agg [.int .u8 27,.int .i64 1]):=rfl
 obtain⟨K12,m12,n12,q12,o12⟩:=upd_newS (H:=K11) (v:=.agg [.int .u8 28,.int .i64 1]) q11 (k:=[102,108,111,111,114]) rfl
 have b11:aBuild [.int .u8 0,.int .i64 0] [(0,1,.int .u8 28),(1,1,.int .i64 1)]=some (.agg [.int .u8 28,.int .i64 1]):=rfl
 obtain⟨K13,m13,n13,q13,o13⟩:=upd_newS (H:=K12) (v:=.agg [.int .u8 29,.int .i64 2]) q12 (k:=[109,105,110]) rfl
 have b12:aBuild [.int .u8 0,.int .i64 0] [(0,1,.int .u8 29),(1,1,.int .i64 2)]=some (.agg [.int .u8 29,.int .i64 2]):=rfl
 obtain⟨K14,m14,n14,q14,o14⟩:=upd_newS (H:=K13) (v:=.agg [.int .u8 30,.int .i64 2]) q13 (k:=[109,97,120]) rfl
 have b13:aBuild [.int .u8 0,.int .i64 0] [(0,1,.int .u8 30),(1,1,.int .i64 2)]=some (.agg [.int .u8 30,.int .i64 2]):=rfl
 obtain⟨K15,m15,n15,q15,o15⟩:=upd_newS (H:=K14) (v:=.agg [.int .u8 31,.int .i64 2]) q14 (k:=[115,97,109,112,108,101]) rfl
 have b14:aBuild [.int .u8 0,.int .i64 0] [(0,1,.int .u8 31),(1,1,.int .i64 2)]=some (.agg [.int .u8 31,.int .i64 2]):=rfl
 simp only[c44,sA,sB,seval,mm,b0,b1,b2,b3,b4,b5,b6,b7,b8,b9,b10,b11,b12,b13,b14,m1,m2,m3,m4,m5,m6,m7,m8,m9,m10,m11,m12,m13,m14,m15]
 refine⟨tt,q15,?_,fun b hb=>?_⟩
 ·rw[n15,n14,n13,n12,n11,n10,n9,n8,n7,n6,n5,n4,n3,n2,n1]; rfl
 ·rw[o15 b hb,o14 b hb,o13 b hb,o12 b hb,o11 b hb,o10 b hb,o9 b hb,o8 b hb,o7 b hb,o6 b hb,o5 b hb,o4 b hb,o3 b hb,o2 b hb,o1 b hb,o0 b hb]
open Go.Abs Go.Abs.S
mutual
theorem cE_grow(E:Env'):∀(e:Ex) (r:Nat) (x:Cs),x.code.length≤(cE E e r x).code.length
 | .mk k s n kids,r,x=>by
  have g:=cEs_grow E kids r (x.use r)
  have u1:(x.use r).code=x.code:=rfl
  rw[u1]at g
  have h:∀y:Cs,y.code.length≤(lastE E k s n kids r y).code.length:=by
   intro y
   obtain⟨h1,_,_⟩:=con_code n y
   unfold lastE
   repeat' split
   all_goals first | (simp only[Cs.put,lA,h1]; omega) | exact Nat.le_refl _
  exact Nat.le_trans g (h _)
theorem cEs_grow(E:Env'):∀(l:List Ex) (r:Nat) (x:Cs),x.code.length≤(cEs E l r x).code.length
 | [],_,x=>Nat.le_refl _
 | e::l,r,x=>Nat.le_trans (cE_grow E e r x) (cEs_grow E l (r+1) _)
end
theorem put_ln(o a b c:Nat)(x:Cs):(x.put o a b c).code.length=x.code.length+1∧(x.put o a b c).cons=x.cons:=by simp[Cs.put]
theorem land_len(i:Nat)(x:Cs):(x.land i).code.length=x.code.length∧(x.land i).cons=x.cons:=by simp[Cs.land,landL_len]
mutual
theorem cS_grow(E:Env'):∀(s:St) (x:Cs),x.code.length≤(cS E s x).code.length
 | .mk k s e body els line,x=>by
  have h:=cE_grow E e E.length x
  have b:=cL_grow E body ((cE E e E.length x).put 33 E.length 0 0)
  rw[(put_ln _ _ _ _ _).1]at b
  simp only[cS]
  split
  ·exact h
  split
  ·rw[(put_ln _ _ _ _ _).1]; omega
  split
  ·split
   ·rw[(land_len _ _).1]; omega
   split
   ·have c:=cL_grow E els ((cL E body ((cE E e E.length x).put 33 E.length 0 0)).land (cE E e E.length x).code.length)
    rw[(land_len _ _).1]at c
    omega
   ·have c:=cL_grow E els (((cL E body ((cE E e E.length x).put 33 E.length 0 0)).put 32 0 0 0).land (cE E e E.length x).code.length)
    rw[(land_len _ _).1,(put_ln _ _ _ _ _).1]at c
    rw[(land_len _ _).1]
    omega
  split
  ·rw[(land_len _ _).1,(put_ln _ _ _ _ _).1]; omega
  ·rw[(put_ln _ _ _ _ _).1]; omega
theorem cL_grow(E:Env'):∀(l:List St) (x:Cs),x.code.length≤(cL E l x).code.length
 | [],x=>Nat.le_refl _
 | s::l,x=>Nat.le_trans (cS_grow E s x) (cL_grow (nextE E s) l _)
end
theorem ckS_parts{E E':Env'}{k:Nat}{s:Bs}{e:Ex}{body els:List St}{line:Int}(h:ckS E (.mk k s e body els line)=.ok E'):∃t,tyE E e=.ok t∧headS E k s t=.ok E'∧(∃F,ckL E' false body=.ok F)∧∃F,ckL E' false els=.ok F:=by
 simp only[ckS,stT]at h
 cases ht:tyE E e with
 | error f=>rw[ht]at h; simp at h
 | ok t=>
  rw[ht]at h
  simp only at h
  cases hh:headS E k s t with
  | error f=>rw[hh]at h; simp at h
  | ok E2=>
   rw[hh]at h
   simp only at h
   cases hb:ckL E2 false body with
   | error f=>rw[hb]at h; simp at h
   | ok F=>
    rw[hb]at h
    simp only at h
    cases hl:ckL E2 false els with
    | error f=>rw[hl]at h; simp at h
    | ok F2=>
     rw[hl]at h
     simp only[Except.ok.injEq]at h
     subst h
     exact⟨t,rfl,hh,⟨F,hb⟩,F2,hl⟩
theorem headS_next{E E':Env'}{k:Nat}{s:Bs}{t:Nat}(h:headS E k s t=.ok E'):E'=if k=1 then E++[(s,t)] else E:=by
 unfold headS at h
 repeat' split at h
 all_goals first
  | (simp at h; done)
  | (simp only[Except.ok.injEq]at h; subst h; simp_all)
theorem ckS_next{E E':Env'}{x:St}(h:ckS E x=.ok E'):E'=nextE E x:=by
 obtain⟨k,s,e,body,els,line⟩:=x
 obtain⟨t,h1,h2,_,_⟩:=ckS_parts h
 rw[headS_next h2]
 simp only[nextE]
 by_cases hk:k=1
 ·rw[if_pos hk,if_pos hk]; unfold tyOf; rw[h1]
 ·rw[if_neg hk,if_neg hk]
theorem ckS_scp{E E':Env'}(hE:Scp E){x:St}(h:ckS E x=.ok E'):Scp E':=by
 obtain⟨k,s,e,body,els,line⟩:=x
 obtain⟨t,h1,h2,_,_⟩:=ckS_parts h
 exact headS_scp hE (tyE_two hE h1) h2
theorem ckL_cons{E:Env'}{b:Bool}{x:St}{l:List St}{F:Env'}(h:ckL E b (x::l)=.ok F):ckS E x=.ok (nextE E x)∧∃b',ckL (nextE E x) b' l=.ok F:=by
 simp only[ckL]at h
 cases b with
 | true=>simp at h
 | false=>
  simp only[Bool.false_eq_true,if_false]at h
  cases hx:ckS E x with
  | error f=>rw[hx]at h; simp at h
  | ok E'=>
   rw[hx]at h
   rw[ckS_next hx]at h ⊢
   exact⟨rfl,_,h⟩
theorem mk_let{E:Env'}{x:Cs}{cb n0:Nat}{O:Nat→Prop}{vc vd vn vk:AVal}{mb mp:Nat}{H1 Hr:AHeap}(A:MkR E x cb n0 O vc vd vn vk mb mp H1)(hHr:Hr=(H1.push (.cells [] 0 false)).push (.cells [] 0 false))(s:Bs)(t:Nat)(hEl:E.length≤100000) :
  ∃H2 vn' H3 H4 vk' H5 H6 H7,aHf (.fill H1.next (.lit 1 [.str []] [(0,1)])) Hr [.str s]=some (.slice (some ⟨H1.next,1,0⟩) 1 (.known 1),H2)∧aAppend 1 16 H2 vn (.slice (some ⟨H1.next,1,0⟩) 1 (.known 1))=some (vn',H3) ∧
   aHf (.fill (H1.next+1) (.lit 1 [.int .u8 0] [(0,1)])) H3 [kdA t]=some (.slice (some ⟨H1.next+1,1,0⟩) 1 (.known 1),H4)∧aAppend 1 1 H4 vk (.slice (some ⟨H1.next+1,1,0⟩) 1 (.known 1))=some (vk',H5) ∧
   oStore 1 H5 (cellR cb 7 5) vn'=some H6∧oStore 1 H6 (cellR cb 7 6) vk'=some H7 ∧
   (oLoad false 1 Hr (cellR cb 7 5)=some vn∧oLoad false 1 Hr (cellR cb 7 6)=some vk∧oLoad false 1 H2 (cellR cb 7 5)=some vn∧oLoad false 1 H2 (cellR cb 7 6)=some vk∧oLoad false 1 H3 (cellR cb 7 6)=some vk∧oLoad false 1 H4 (cellR cb 7 6)=some vk) ∧
   (∀c,blkOf vn=some c→H1.next+1≠c)∧(∀c,blkOf vn'=some c→H1.next+1≠c)∧(∀c,c<H1.next→Hr.get c=H1.get c) ∧
   ∃O',MkS (E++[(s,t)]) x cb n0 O' H7∧FrO O H1 O' H7:=by
 have hcb:=A.oN _ A.oc.1
 have hmb:=A.oN _ A.oc.2.1
 have hmp:=A.oN _ A.oc.2.2
 have nr:Hr.next=H1.next+2:=by rw[hHr]; rfl
 have kr:∀c,c<H1.next→Hr.get c=H1.get c:=fun c hc=>by rw[hHr,AHeap.get_push,if_neg (by rw[push_next]; omega),get_push_lt hc]
 have gr0:Hr.get H1.next=some (.cells [] 0 false):=by rw[hHr,AHeap.get_push,if_neg (by rw[push_next]; omega),AHeap.get_push,if_pos rfl]
 have gr1:Hr.get (H1.next+1)=some (.cells [] 0 false):=by rw[hHr,AHeap.get_push,if_pos (by rw[push_next])]
 have bN:=A.ln.blk
 have bK:=A.lk.blk
 have bC:=A.lc.blk
 have bD:=A.ld.blk
 obtain⟨H2,fl1,n2,g2,k2⟩:=fill_at gr0 (len:=1) (z:=[.str []]) (ofs:=[(0,1)]) (l:=[.str s]) (xs:=[.str s]) rfl
 have k02:∀c,c<H1.next→H2.get c=H1.get c:=fun c hc=>by rw[k2 c om,kr c hc]
 have s2:aSrc 1 H2 (.slice (some ⟨H1.next,1,0⟩) 1 (.known 1))=some (1,[.str s]):=src_one g2
 have ln2:LinM 1 H2 vn (nmL E) E.length:=A.ln.same om (bN.mono fun b hb=>k02 b hb)
 obtain⟨vn',H3,a3,L3,n3,b3,k3⟩:=ln2.many s2 rfl rfl om (bytes:=16) om om
 have bcb:Blk vn (cb≠·):=A.bn.mono fun b hb=>hb.2.1.symm
 have r2:Row H2 cb [vc,.int .i64 (x.regs:Int),vd,.map (some mb),.map (some mp),vn,vk]:=A.row.same (k02 cb hcb.2)
 have rr:Row Hr cb [vc,.int .i64 (x.regs:Int),vd,.map (some mb),.map (some mp),vn,vk]:=A.row.same (kr cb hcb.2)
 have r3:Row H3 cb [vc,.int .i64 (x.regs:Int),vd,.map (some mb),.map (some mp),vn,vk]:=r2.same (k3 cb om bcb)
 have gr13:H3.get (H1.next+1)=some (.cells [] 0 false):=by rw[k3 _ om (bN.mono fun b hb=>om),k2 _ om]; exact gr1
 obtain⟨H4,fl2,n4,g4,k4⟩:=fill_at gr13 (len:=1) (z:=[.int .u8 0]) (ofs:=[(0,1)]) (l:=[kdA t]) (xs:=[kdA t]) rfl
 have s4:aSrc 1 H4 (.slice (some ⟨H1.next+1,1,0⟩) 1 (.known 1))=some (1,[kdA t]):=src_one g4
 have lk4:LinM 1 H4 vk (kdL E) E.length:=A.lk.same om fun a j r e=>by
  have h1:=bK a j r e
  show H4.get a.b=H1.get a.b
  rw[k4 _ om,k3 _ om (A.nk.symm a j r e),k02 _ h1]
 obtain⟨vk',H5,a5,L5,n5,b5,k5⟩:=lk4.many s4 rfl rfl om (bytes:=1) om om
 have ckb:Blk vk (cb≠·):=A.bk.mono fun b hb=>hb.2.1.symm
 have r4:=r3.same (H':=H4) (k4 cb om)
 have r5:=r4.same (H':=H5) (k5 cb om ckb)
 obtain⟨H6,m6,r6,n6,k6⟩:=row_st r5 (n:=7) rfl (i:=5) om (x:=vn') L3.one (l':=[vc,.int .i64 (x.regs:Int),vd,.map (some mb),.map (some mp),vn',vk]) rfl
 obtain⟨H7,m7,r7,n7,k7⟩:=row_st r6 (n:=7) rfl (i:=6) om (x:=vk') L5.one (l':=[vc,.int .i64 (x.regs:Int),vd,.map (some mb),.map (some mp),vn',vk']) rfl
 have bv3:=b3 (fun x=>x<H1.next∧(O x∧x≠cb∧x≠mb∧x≠mp)∧Blk vk (x≠·)) (fun a j r e=>⟨bN a j r e,A.bn a j r e,A.nk a j r e⟩)
 have bv5:=b5 (fun x=>x<H1.next∧(O x∧x≠cb∧x≠mb∧x≠mp)) (fun a j r e=>⟨bK a j r e,A.bk a j r e⟩)
 have hL3:=L3.blk
 have hL5:=L5.blk
 rw[snoc_nm E s t]at L3
 rw[snoc_kd]at L5
 have hEl2:(E++[(s,t)]).length=E.length+1:=by simp
 have kn:Blk vn' fun c=>H7.get c=H3.get c:=fun a j r e=>by
  have h3:=hL3 a j r e
  have hc:=bv3 a j r e
  have hb:a.b≠cb:=by
   rcases hc with⟨_,⟨_,hc,_⟩,_⟩ | hc
   ·exact hc
   ·omega
  have hv:Blk vk (a.b≠·):=by
   rcases hc with⟨_,_,hc⟩ | hc
   ·exact hc
   ·exact bK.mono fun b hb=>om
  have h1:a.b≠H1.next+1:=by
   rcases hc with⟨hc,_⟩ | hc <;> omega
  show H7.get a.b=H3.get a.b
  rw[k7 _ hb,k6 _ hb,k5 _ om hv,k4 _ h1]
 have kk:Blk vk' fun c=>H7.get c=H5.get c:=fun a j r e=>by
  have hc:=bv5 a j r e
  have hb:a.b≠cb:=by
   rcases hc with⟨_,_,hc,_⟩ | hc
   ·exact hc
   ·omega
  show H7.get a.b=H5.get a.b
  rw[k7 _ hb,k6 _ hb]
 have old:∀c,c<H1.next→c≠cb→Blk vn (c≠·)→Blk vk (c≠·)→H7.get c=H1.get c:=fun c h1 h2 h3 h4=>by
  rw[k7 c h2,k6 c h2,k5 c om h4,k4 c om,k3 c om h3,k02 c h1]
 have same:∀{w:AVal},Blk w (fun b=>O b∧b≠cb∧b≠mb∧b≠mp)→Dj w vn→Dj w vk→Blk w fun c=>H7.get c=H1.get c:=fun h d d2 a j r e=>old _ (A.oN _ (h a j r e).1).2 (h a j r e).2.1 (d a j r e) (d2 a j r e)
 have mono:∀{w:AVal},Blk w (fun b=>O b∧b≠cb∧b≠mb∧b≠mp)→Blk w (fun b=>OX O H1.next H7.next b∧b≠cb∧b≠mb∧b≠mp):=fun h=>h.mono fun c hc=>⟨.inl hc.1,hc.2⟩
 have hbl:∀{w:AVal},Blk w (fun b=>O b∧b≠cb∧b≠mb∧b≠mp)→Blk w (·<H2.next):=fun h=>h.mono fun c hc=>by have:=(A.oN c hc.1).2; omega
 have hbl4:∀{w:AVal},Blk w (fun b=>O b∧b≠cb∧b≠mb∧b≠mp)→Blk w (·<H4.next):=fun h=>h.mono fun c hc=>by have:=(A.oN c hc.1).2; omega
 have bmb:Blk vn (mb≠·):=A.bn.mono fun b hb=>hb.2.2.1.symm
 have bmp:Blk vn (mp≠·):=A.bn.mono fun b hb=>hb.2.2.2.symm
 have kmb:Blk vk (mb≠·):=A.bk.mono fun b hb=>hb.2.2.1.symm
 have kmp:Blk vk (mp≠·):=A.bk.mono fun b hb=>hb.2.2.2.symm
 refine⟨H2,vn',H3,H4,vk',H5,H6,H7,fl1,a3,fl2,a5,m6,m7,⟨row_load rr rfl rfl,row_load rr rfl rfl,row_load r2 rfl rfl,row_load r2 rfl rfl,row_load r3 rfl rfl,row_load r4 rfl rfl⟩,?_,?_,kr,OX O H1.next H7.next,⟨vc,vd,vn',vk',mb,mp,
  r7,A.lc.same om (same A.bc A.cn A.ck),A.ld.same om (same A.bd A.dn A.dk),by rw[hEl2]; exact L3.same om kn,by rw[hEl2]; exact L5.same om kk,(old _ hmb.2 A.ne.1.symm bmb kmb).trans A.bl,(old _ hmp.2 A.ne.2.1.symm bmp kmp).trans A.pl,
  ⟨.inl A.oc.1,.inl A.oc.2.1,.inl A.oc.2.2⟩,A.ne,?_,mono A.bc,mono A.bd,?_,?_,A.cd,(A.cn.symm.fresh b3 (hbl A.bc)).symm,(A.ck.symm.fresh b5 (hbl4 A.bc)).symm,(A.dn.symm.fresh b3 (hbl A.bd)).symm,(A.dk.symm.fresh b5 (hbl4 A.bd)).symm,?_⟩,om,?_,?_⟩
 ·intro c hc
  have:=blkOf_blk bN A.ln c hc
  omega
 ·intro c hc
  have:=blkOf_blk bv3 L3 c hc
  rcases this with⟨this,_⟩ | this <;> omega
 ·intro c hc
  rcases hc with hc | hc
  ·have:=A.oN c hc; omega
  ·omega
 ·intro a j r e
  have h3:=hL3 a j r e
  have hc:=bv3 a j r e
  rcases hc with⟨_,hc,_⟩ | hc
  ·exact⟨.inl hc.1,hc.2⟩
  ·exact⟨.inr ⟨om,om⟩,om,om,om⟩
 ·intro a j r e
  have h5:=hL5 a j r e
  have hc:=bv5 a j r e
  rcases hc with⟨_,hc⟩ | hc
  ·exact⟨.inl hc.1,hc.2⟩
  ·exact⟨.inr ⟨om,om⟩,om,om,om⟩
 ·intro a j r e
  have h3:=hL3 a j r e
  have hc:=bv3 a j r e
  refine (b5 (a.b≠·) ?_).mono fun x hx=>?_
  ·rcases hc with⟨_,_,hc⟩ | hc
   ·exact hc
   ·exact bK.mono fun b hb=>om
  ·rcases hx with hx | hx
   ·exact hx
   ·omega
 ·intro c h1 h2
  exact old c h1 (fun e=>h2 (e ▸ A.oc.1)) (A.bn.mono fun d hd e=>h2 (e ▸ hd.1)) (A.bk.mono fun d hd e=>h2 (e ▸ hd.1))
 ·intro c hc
  rcases hc with hc | hc
  ·exact .inl hc
  ·exact .inr hc.1
end Go.Proofs.Wo
