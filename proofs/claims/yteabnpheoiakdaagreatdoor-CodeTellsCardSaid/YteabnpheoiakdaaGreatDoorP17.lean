/- Part of a proof (YH7 YJ1 YJ2 YJ3 YJ4 YJ5 YD4 YK1 YK2); no condition. -/
import Derived.Test.YteabnpheoiakdaaGreatDoorProg
import Derived.KernelRfl
import Derived.Test.YteabnpheoiakdaaGreatDoorP8
import Derived.Test.YteabnpheoiakdaaGreatDoorP9
import Derived.Test.YteabnpheoiakdaaGreatDoorP16
set_option linter.unusedSimpArgs false
set_option linter.unusedVariables false
set_option linter.unnecessarySimpa false
namespace Go.Proofs.Wo
open Go.Abs Go.Abs.S
theorem dcheck_spec{l:List St}{C:List AVal}{v:AVal}{H:AHeap}(z1:SlK (·<H.next) H 9 v l.length C)(z2:XSs (·<H.next) H l C)(hsz:sizesS l≤1000000) :
  ACalls Tryz.prog natT 46 [v] H fun u H'=>u=.agg (flI (checkF l))∧Ext H.next H H':=by
 refine acalls_ofN rfl za46 rfl ?_
 obtain⟨H1,m1,r1,n1,k1⟩:=row_newL H [.int .i64 0,.int .i64 0] (n:=2) rfl
 have k1':∀c,c<H.next→H1.get c=H.get c:=fun c hc=>k1 c om
 have km1:∀b,b<H.next→b<H1.next∧H1.get b=H.get b:=fun b hb=>⟨om,k1' b hb⟩
 obtain⟨rb,hrb⟩:∃b,b=H.next:=⟨_,rfl⟩
 rw[← hrb]at m1 r1 k1
 simp only[c46,sA,sB,seval,m1]
 refine (fright_spec (z1.mono km1) (z2.mono km1) hsz).mono ?_
 rintro _ H2 ⟨rfl,E2⟩
 have e2:=E2.next
 have r2:=r1.same (E2.old rb om)
 unfold checkF
 cases hr:rightF l with
 | false=>
  have bb:aBuild [.int .i64 0,.int .i64 0] [(0,1,.int .i64 103)]=some (.agg [.int .i64 103,.int .i64 0]):=rfl
  obtain⟨H3,m3,r3,n3,k3⟩:=row_storeN r2 (n:=2) rfl (xs:=[.int .i64 103,.int .i64 0]) rfl rfl
  simp only[sA,sB,seval,bb,m3]
  refine fin_c1 _ _ _ _ (v:=.agg [.int .i64 103,.int .i64 0]) (by simp only[sA,sB,seval]; exact row_loadN r3 rfl) ?_
  exact⟨rfl,om,fun c hc=>by rw[k3 c om,E2.old c om,k1' c hc]⟩
 | true=>
 have hok:oksS l=true:=by simp only[rightF,Bool.and_eq_true]at hr; exact hr.1
 have hfit:sizesS l≤1000∧deepsS l≤40:=by simp only[rightF,fitsF,Bool.and_eq_true,decide_eq_true_eq]at hr; exact hr.2
 have b0:aBuild [.int .i64 0,.int .i64 0] []=some (.agg [.int .i64 0,.int .i64 0]):=rfl
 obtain⟨Hc,mc,rc,nc,kc⟩:=row_newL H2 [.int .i64 0,.int .i64 0] (n:=2) rfl
 obtain⟨H3,hH3⟩:∃J,J=Hc.push (.cells (nmL given4) 0 false):=⟨_,rfl⟩
 have n3:H3.next=Hc.next+1:=by rw[hH3]; rfl
 obtain⟨H4,hH4⟩:∃J,J=H3.push (.cells (kdL given4) 0 false):=⟨_,rfl⟩
 have n4:H4.next=H3.next+1:=by rw[hH4]; rfl
 have b3:aBuildSl 4 [.str []] Hc [(0,1,.str [117]),(1,1,.str [118]),(2,1,.str [112]),(3,1,.str [110])]=some (.slice (some ⟨Hc.next,4,0⟩) 4 (.known 4),H3):=by rw[hH3]; rfl
 have b4:aBuildSl 4 [.int .u8 0] H3 [(0,1,.int .u8 1),(1,1,.int .u8 1),(2,1,.int .u8 2),(3,1,.int .u8 2)]=some (.slice (some ⟨H3.next,4,0⟩) 4 (.known 4),H4):=by rw[hH4]; rfl
 have L3:LinM 1 H3 (.slice (some ⟨Hc.next,4,0⟩) 4 (.known 4)) (nmL given4) 4:=by rw[hH3]; exact LinM.built (m:=1) (k:=4) Hc (xs:=nmL given4) rfl
 have L4:LinM 1 H4 (.slice (some ⟨H3.next,4,0⟩) 4 (.known 4)) (kdL given4) 4:=by rw[hH4]; exact LinM.built (m:=1) (k:=4) H3 (xs:=kdL given4) rfl
 have k34:∀c,c<Hc.next→H4.get c=Hc.get c:=fun c hc=>by rw[hH4,get_push_lt om,hH3,get_push_lt hc]
 have bN:Blk (.slice (some ⟨Hc.next,4,0⟩) 4 (.known 4)) (·=Hc.next):=blk_some rfl
 have bK:Blk (.slice (some ⟨H3.next,4,0⟩) 4 (.known 4)) (·=H3.next):=blk_some rfl
 have k04:∀c,c<H2.next→H4.get c=H2.get c:=fun c hc=>by rw[k34 c om,kc c om]
 have k04':∀c,c<H.next→H4.get c=H.get c:=fun c hc=>by rw[k04 c om,E2.old c om,k1' c hc]
 have rc4:Row H4 H2.next (flI (0,0)):=rc.same (k34 _ om)
 have km4:∀b,b<H.next→(b<H4.next∧b≠H2.next)∧H4.get b=H.get b:=fun b hb=>⟨⟨om,om⟩,k04' b hb⟩
 simp only[sA,sB,seval,b0,cells_agg,mc,b3,b4]
 refine (dli_all (sizesS l) (E:=given4) rL rc4 om (z1.mono km4) (z2.mono km4) (L3.same om (bN.mono fun c hc=>by show H4.get c=H3.get c; rw[hH4,get_push_lt om])) L4 (bN.mono fun c hc=>om) (bK.mono fun c hc=>om) hok hfit.1 hfit.2 Scp.given (by show 4+_≤_; omega)).mono ?_
 rintro _ H5 ⟨r5,F5⟩
 have e5:=F5.next
 have old5:∀c,c<H.next→H5.get c=H.get c:=fun c hc=>by rw[F5.old c om om,k04' c hc]
 have ra5:Row H5 rb [.int .i64 0,.int .i64 0]:=r2.same (by rw[F5.old rb om om,k04 rb om])
 have l5:oLoad false 1 H5 (cellR H2.next 2 0)=some (.int .i64 ((fltL (ckL given4 false l)).1:Int)):=row_load r5 rfl rfl
 have l5a:oLoad true 2 H5 (cellR H2.next 2 0)=some (.agg (flI (fltL (ckL given4 false l)))):=row_loadN r5 rfl
 simp only[sA,sB,seval,nil_cell,fld0,l5]
 cases hck:ckL given4 false l with
 | error f=>
  have hf0:=ckL_err hck
  have hf':¬(f.1:Int)=0:=om
  rw[hck]at l5a
  obtain⟨H9,m9,r9,n9,k9⟩:=row_storeN ra5 (n:=2) rfl (xs:=flI f) rfl rfl
  simp only[sA,sB,seval,fltL,hf',nil_cell,fld0,l5a,m9]
  refine fin_c1 _ _ _ _ (v:=.agg (flI f)) (by simp only[sA,sB,seval]; exact row_loadN r9 rfl) ?_
  exact⟨rfl,om,fun c hc=>by rw[k9 c om,old5 c hc]⟩
 | ok Ef=>
  have km5:∀b,b<H.next→b<H5.next∧H5.get b=H.get b:=fun b hb=>⟨om,old5 b hb⟩
  rw[hck]at l5a
  simp only[sA,sB,seval,fltL,Int.cast_ofNat_Int]
  refine (dreturns_spec (sizesS l) rL om (z1.mono km5) (z2.mono km5)).mono ?_
  rintro _ H6 ⟨rfl,E6⟩
  have e6:=E6.next
  have ra6:=ra5.same (E6.old rb om)
  have old6:∀c,c<H.next→H6.get c=H.get c:=fun c hc=>by rw[E6.old c om,old5 c hc]
  cases hret:retL l with
  | false=>
   have bb2:aBuild [.int .i64 0,.int .i64 0] [(0,1,.int .i64 113)]=some (.agg [.int .i64 113,.int .i64 0]):=rfl
   obtain⟨H9,m9,r9,n9,k9⟩:=row_storeN ra6 (n:=2) rfl (xs:=[.int .i64 113,.int .i64 0]) rfl rfl
   simp only[sA,sB,seval,bb2,m9]
   refine fin_c1 _ _ _ _ (v:=.agg [.int .i64 113,.int .i64 0]) (by simp only[sA,sB,seval]; exact row_loadN r9 rfl) ?_
   exact⟨rfl,om,fun c hc=>by rw[k9 c om,old6 c hc]⟩
  | true=>
   have l6a:oLoad true 2 H6 (cellR H2.next 2 0)=some (.agg [.int .i64 0,.int .i64 0]):=row_loadN (r5.same (E6.old _ om)) (by rfl) |>.trans (by rw[hck]; rfl)
   obtain⟨H9,m9,r9,n9,k9⟩:=row_storeN ra6 (n:=2) rfl (xs:=[.int .i64 0,.int .i64 0]) rfl rfl
   simp only[sA,sB,seval,nil_cell,fld0,l6a,m9]
   refine fin_c1 _ _ _ _ (v:=.agg [.int .i64 0,.int .i64 0]) (by simp only[sA,sB,seval]; exact row_loadN r9 rfl) ?_
   exact⟨rfl,om,fun c hc=>by rw[k9 c om,old6 c hc]⟩
open Go.Abs Go.Abs.S
def rgL(n:Nat):List AVal:=(List.range n).map fun (i:Nat)=>AVal.int .i64 (i:Int)
theorem rgL_len(n:Nat):(rgL n).length=n:=by simp[rgL]
theorem rgL_at{n i:Nat}(h:i<n):(rgL n)[i]?=some (.int .i64 (i:Int)):=by simp[rgL,h]
theorem rgL_snoc(n:Nat):rgL n++[.int .i64 (n:Int)]=rgL (n+1):=by simp[rgL,List.range_succ]
theorem rgL_take{n k:Nat}(h:k≤n):(rgL n).take k=rgL k:=by simp[rgL,← List.map_take,List.take_range,Nat.min_eq_left h]
structure ZkR(E:Env')(x:Cs)(cb n0:Nat)(O:Nat→Prop)(vc vd vn vk vr:AVal)(H:AHeap):Prop where
 row:Row H cb [vc,.int .i64 (x.regs:Int),vd,vn,vk,vr,.int .i64 (E.length:Int)]
 lc:LinM 1 H vc (conL x.cons) x.cons.length
 ld:LinM 4 H vd (codL x.code) x.code.length
 ln:LinM 1 H vn (nmL E) E.length
 lk:LinM 1 H vk (kdL E) E.length
 lr:LinM 1 H vr (rgL E.length) E.length
 oc:O cb
 oN:∀c,O c→n0≤c∧c<H.next
 bc:Blk vc fun b=>O b∧b≠cb
 bd:Blk vd fun b=>O b∧b≠cb
 bn:Blk vn fun b=>O b∧b≠cb
 bk:Blk vk fun b=>O b∧b≠cb
 br:Blk vr fun b=>O b∧b≠cb
 cd:Dj vc vd
 cn:Dj vc vn
 ck:Dj vc vk
 cr:Dj vc vr
 dn:Dj vd vn
 dk:Dj vd vk
 dr:Dj vd vr
 nk:Dj vn vk
 nr:Dj vn vr
 kr:Dj vk vr
def ZkS(E:Env')(x:Cs)(cb n0:Nat)(O:Nat→Prop)(H:AHeap):Prop:=∃vc vd vn vk vr,ZkR E x cb n0 O vc vd vn vk vr H
theorem ZkR.keep{E:Env'}{x:Cs}{cb n0:Nat}{O:Nat→Prop}{vc vd vn vk vr:AVal}{H H':AHeap}(A:ZkR E x cb n0 O vc vd vn vk vr H)(hn:H.next≤H'.next)(h:∀c,O c→H'.get c=H.get c):ZkR E x cb n0 O vc vd vn vk vr H':=
 { A with row:=A.row.same (h _ A.oc),lc:=A.lc.same hn (A.bc.mono fun c hc=>h c hc.1),ld:=A.ld.same hn (A.bd.mono fun c hc=>h c hc.1),ln:=A.ln.same hn (A.bn.mono fun c hc=>h c hc.1),lk:=A.lk.same hn (A.bk.mono fun c hc=>h c hc.1),lr:=A.lr.same hn (A.br.mono fun c hc=>h c hc.1),oN:=fun c hc=>⟨(A.oN c hc).1,Nat.lt_of_lt_of_le (A.oN c hc).2 hn⟩ }
theorem ZkS.keep{E:Env'}{x:Cs}{cb n0:Nat}{O:Nat→Prop}{H H':AHeap}(A:ZkS E x cb n0 O H)(hn:H.next≤H'.next)(h:∀c,O c→H'.get c=H.get c):ZkS E x cb n0 O H':=by
 obtain⟨vc,vd,vn,vk,vr,A⟩:=A
 exact⟨_,_,_,_,_,A.keep hn h⟩
theorem ZkS.oN{E:Env'}{x:Cs}{cb n0:Nat}{O:Nat→Prop}{H:AHeap}(A:ZkS E x cb n0 O H):∀c,O c→n0≤c∧c<H.next:=by
 obtain⟨vc,vd,vn,vk,vr,A⟩:=A
 exact A.oN
theorem ZkS.lt{E:Env'}{x:Cs}{cb n0:Nat}{O:Nat→Prop}{H:AHeap}(A:ZkS E x cb n0 O H):n0≤cb∧cb<H.next:=by
 obtain⟨vc,vd,vn,vk,vr,A⟩:=A
 exact A.oN _ A.oc
theorem ZkS.exts{E:Env'}{x:Cs}{cb n0:Nat}{O:Nat→Prop}{H H':AHeap}(A:ZkS E x cb n0 O H)(e:Ext H.next H H'):ZkS E x cb n0 O H':=A.keep e.next fun c hc=>e.old c (A.oN c hc).2
theorem ZkR.cell{E:Env'}{x x':Cs}{cb n0:Nat}{O:Nat→Prop}{vc vd vn vk vr:AVal}{H H':AHeap}(A:ZkR E x cb n0 O vc vd vn vk vr H)(hc:x'.cons=x.cons)(hd:x'.code=x.code)(r:Row H' cb [vc,.int .i64 (x'.regs:Int),vd,vn,vk,vr,.int .i64 (E.length:Int)])(hn:H'.next=H.next)(k:∀c,c≠cb→H'.get c=H.get c):ZkR E x' cb n0 O vc vd vn vk vr H':=
 { A with row:=r,lc:=by rw[hc]; exact A.lc.same om (A.bc.mono fun c hc=>k c hc.2),ld:=by rw[hd]; exact A.ld.same om (A.bd.mono fun c hc=>k c hc.2),ln:=A.ln.same om (A.bn.mono fun c hc=>k c hc.2),lk:=A.lk.same om (A.bk.mono fun c hc=>k c hc.2),lr:=A.lr.same om (A.br.mono fun c hc=>k c hc.2),oN:=fun c hc=>by have:=A.oN c hc; omega }
theorem zuse_spec{E:Env'}{x:Cs}{cb n0:Nat}{O:Nat→Prop}{H:AHeap}(A:ZkS E x cb n0 O H)(r:Nat)(hr:r≤100000):ACalls Tryz.prog natT 173 [cellR cb 7 0,.int .i64 (r:Int)] H fun _ H'=>ZkS E (x.use r) cb n0 O H'∧H'.next=H.next∧∀c,¬O c→H'.get c=H.get c:=by
 obtain⟨vc,vd,vn,vk,vr,A⟩:=A
 have lr:oLoad false 1 H (cellR cb 7 1)=some (.int .i64 (x.regs:Int)):=row_load A.row rfl rfl
 have wr:IntKind.i64.wrap ((r:Int)+1)=((r+1:Nat):Int):=w64
 refine acalls_ofN rfl za173 rfl ?_
 by_cases h:x.regs≤r
 ·have h':(x.regs:Int)≤(r:Int):=om
  have hm:max x.regs (r+1)=r+1:=om
  obtain⟨H1,m1,q1,n1,k1⟩:=row_st A.row (n:=7) rfl (i:=1) om (x:=.int .i64 ((r+1:Nat):Int)) rfl (l':=[vc,.int .i64 ((r+1:Nat):Int),vd,vn,vk,vr,.int .i64 (E.length:Int)]) rfl
  simp only[c173,sA,sB,seval,nil_cell,fld0,fldA,lr,h',wr,m1]
  exact⟨_,rfl,⟨_,_,_,_,_,A.cell (x':=x.use r) rfl rfl (by show Row _ _ [_,.int .i64 ((max x.regs (r+1):Nat):Int),_,_,_,_,_]; rw[hm]; exact q1) n1 k1⟩,n1,fun c hc=>k1 c fun e=>hc (e ▸ A.oc)⟩
 ·have h':¬(x.regs:Int)≤(r:Int):=om
  have hm:max x.regs (r+1)=x.regs:=om
  simp only[c173,sA,sB,seval,nil_cell,fld0,fldA,lr,h']
  exact⟨_,rfl,⟨_,_,_,_,_,A.cell (x':=x.use r) rfl rfl (by show Row _ _ [_,.int .i64 ((max x.regs (r+1):Nat):Int),_,_,_,_,_]; rw[hm]; exact A.row) rfl fun _ _=>rfl⟩,rfl,fun _ _=>rfl⟩
theorem zput_spec{E:Env'}{x:Cs}{cb n0:Nat}{O:Nat→Prop}{H:AHeap}(A:ZkS E x cb n0 O H)(o a b c:Nat)(hl:x.code.length≤100000) :
  ACalls Tryz.prog natT 139 [cellR cb 7 0,.int .u8 (o:Int),.int .i64 (a:Int),.int .i64 (b:Int),.int .i64 (c:Int)] H fun u H'=>u=.int .i64 (x.code.length:Int)∧∃O',ZkS E (x.put o a b c) cb n0 O' H'∧FrO O H O' H':=by
 obtain⟨vc,vd,vn,vk,vr,A⟩:=A
 have hcb:=A.oN _ A.oc
 refine acalls_ofN rfl za139 rfl ?_
 have l2:oLoad false 1 H (cellR cb 7 2)=some vd:=row_load A.row rfl rfl
 have bb:aBuild [.int .u8 0,.int .i64 0,.int .i64 0,.int .i64 0] [(0,1,.int .u8 (o:Int)),(1,1,.int .i64 (a:Int)),(2,1,.int .i64 (b:Int)),(3,1,.int .i64 (c:Int))]=some (.agg (inL ⟨o,a,b,c⟩)):=rfl
 have bm:=buildM (z:=[.int .u8 0,.int .i64 0,.int .i64 0,.int .i64 0]) (m:=4) (xs:=inL ⟨o,a,b,c⟩) H rfl rfl
 obtain⟨vd',H1,a1,L1,n1,b1,k1⟩:=A.ld.add (j:=1) (xs:=inL ⟨o,a,b,c⟩) rfl rfl om (bytes:=32) om om
 have a1':aAppend 4 32 (H.push (.cells (inL ⟨o,a,b,c⟩) 0 false)) vd (oneM H 4)=some (vd',H1):=a1
 have hbl:∀{w:AVal},Blk w (fun b=>O b∧b≠cb)→Blk w (·<H.next):=fun h=>h.mono fun c hc=>(A.oN c hc.1).2
 have dcb:Blk vd (cb≠·):=A.bd.mono fun c hc=>hc.2.symm
 obtain⟨H2,m2,r2,n2,k2⟩:=row_st (A.row.same (k1 cb hcb.2 dcb)) (n:=7) rfl (i:=2) om (x:=vd') L1.one (l':=[vc,.int .i64 (x.regs:Int),vd',vn,vk,vr,.int .i64 (E.length:Int)]) rfl
 have l2':oLoad false 1 H2 (cellR cb 7 2)=some vd':=row_load r2 rfl rfl
 have lv:=L1.len
 have wl:IntKind.i64.wrap (((x.code.length+1:Nat):Int)-1)=(x.code.length:Int):=w64
 simp only[c139,sA,sB,seval,nil_cell,fld0,fldA,l2,bb,bm,a1',m2,l2',lv,wl]
 have hc':codL x.code++inL ⟨o,a,b,c⟩=codL (x.put o a b c).code:=by simp only[Cs.put,codL_app,codL,List.append_nil]
 have hl':x.code.length+1=(x.put o a b c).code.length:=by simp[Cs.put]
 rw[hc',hl']at L1
 have bd':=b1 _ A.bd
 have hL:=L1.blk
 have kk:∀c,c<H.next→c≠cb→Blk vd (c≠·)→H2.get c=H.get c:=fun c h1 h2 h3=>by rw[k2 c h2,k1 c h1 h3]
 have same:∀{w:AVal},Blk w (fun b=>O b∧b≠cb)→Dj w vd→Blk w fun c=>H2.get c=H.get c:=fun h d a j r e=>kk _ (A.oN _ (h a j r e).1).2 (h a j r e).2 (d a j r e)
 have mono:∀{w:AVal},Blk w (fun b=>O b∧b≠cb)→Blk w (fun b=>OX O H.next H2.next b∧b≠cb):=fun h=>h.mono fun c hc=>⟨.inl hc.1,hc.2⟩
 have ld2:LinM 4 H2 vd' (codL (x.put o a b c).code) (x.put o a b c).code.length:=L1.same om fun a j r e=>k2 _ (by
  have q:(O a.b∧a.b≠cb)∨H.next≤a.b:=bd' a j r e
  rcases q with q | q
  ·exact q.2
  ·omega)
 refine⟨tt,OX O H.next H2.next,⟨vc,vd',vn,vk,vr,r2,A.lc.same om (same A.bc A.cd),ld2,A.ln.same om (same A.bn A.dn.symm),A.lk.same om (same A.bk A.dk.symm),A.lr.same om (same A.br A.dr.symm),
  .inl A.oc,fun c hc=>?_,mono A.bc,?_,mono A.bn,mono A.bk,mono A.br,(A.cd.symm.fresh b1 (hbl A.bc)).symm,A.cn,A.ck,A.cr,A.dn.fresh b1 (hbl A.bn),A.dk.fresh b1 (hbl A.bk),A.dr.fresh b1 (hbl A.br),A.nk,A.nr,A.kr⟩,⟨om,fun c h1 h2=>?_,fun c hc=>?_⟩⟩
 ·rcases hc with hc | hc
  ·have:=A.oN c hc; omega
  ·omega
 ·intro a j r e
  have q:(O a.b∧a.b≠cb)∨H.next≤a.b:=bd' a j r e
  have q2:=hL a j r e
  rcases q with q | q
  ·exact⟨.inl q.1,q.2⟩
  ·exact⟨.inr ⟨q,om⟩,om⟩
 ·exact kk c h1 (fun e=>h2 (e ▸ A.oc)) (A.bd.mono fun d hd e=>h2 (e ▸ hd.1))
 ·rcases hc with hc | hc
  ·exact .inl hc
  ·exact .inr hc.1
theorem zland_spec{E:Env'}{x:Cs}{cb n0 i:Nat}{O:Nat→Prop}{H:AHeap}(A:ZkS E x cb n0 O H)(hi:i<x.code.length) :
  ACalls Tryz.prog natT 143 [cellR cb 7 0,.int .i64 (i:Int)] H fun _ H'=>ZkS E (x.land i) cb n0 O H'∧H'.next=H.next∧∀c,¬O c→H'.get c=H.get c:=by
 obtain⟨vc,vd,vn,vk,vr,A⟩:=A
 refine acalls_ofN rfl za143 rfl ?_
 have l2:oLoad false 1 H (cellR cb 7 2)=some vd:=row_load A.row rfl rfl
 have lv:=A.ld.len
 obtain⟨b,n,H1,ix,hb,m1,L1,n1,k1⟩:=LinM.write A.ld hi (j:=3) om (x:=.int .i64 (x.code.length:Int)) rfl
 simp only[c143,sA,sB,seval,nil_cell,fld0,fldA,l2,lv,ix,m1]
 have hbd:∃a j r,vd=.slice (some a) j r∧a.b=b:=by
  rcases A.ld with⟨_,_,h0⟩ | ⟨b',C,low,r,rfl,_⟩
  ·omega
  ·exact⟨_,_,_,rfl,(hb _ _ _ rfl).symm⟩
 obtain⟨a,j,r,ev,ea⟩:=hbd
 have ob:=A.bd a j r ev
 rw[ea]at ob
 have kO:∀c,¬O c→H1.get c=H.get c:=fun c hc=>k1 c fun e=>hc (e ▸ ob.1)
 have same:∀{w:AVal},Dj w vd→Blk w fun c=>H1.get c=H.get c:=fun d a' j' r' e=>k1 _ (by have:=d a' j' r' e a j r ev; rw[ea]at this; exact this)
 rw[codL_land _ _ _ hi]at L1
 have hl:x.code.length=(x.land i).code.length:=by simp[Cs.land,landL_len]
 refine⟨_,rfl,⟨vc,vd,vn,vk,vr,{ A with row:=A.row.same (k1 cb ob.2.symm),lc:=A.lc.same om (same A.cd),ld:=by rw[← hl]; exact L1,ln:=A.ln.same om (same A.dn.symm),lk:=A.lk.same om (same A.dk.symm),lr:=A.lr.same om (same A.dr.symm),oN:=fun c hc=>by have:=A.oN c hc; omega }⟩,n1,kO⟩
theorem firstI_last{s:Bs}:∀{E:Env'} {j:Nat} {t:Nat},(E.map (·.1)).Nodup→E[j]?=some (s,t)→firstI s E=some j
 | [],_,_,_,h=>by simp at h
 | x::E,0,t,_,h=>by
  simp only[List.getElem?_cons_zero,sJ]at h
  subst h
  simp[firstI]
 | x::E,j+1,t,hn,h=>by
  simp only[List.getElem?_cons_succ]at h
  simp only[List.map_cons,List.nodup_cons]at hn
  have hx:x.1≠s:=fun e=>hn.1 (by rw[e]; exact List.mem_map_of_mem (f:=(·.1)) (List.mem_of_getElem? h))
  simp only[firstI,if_neg hx,firstI_last hn.2 h,Option.map_some]
theorem zreg_spec{E:Env'}(hE:Scp E){x:Cs}{cb n0:Nat}{O:Nat→Prop}{H:AHeap}(A:ZkS E x cb n0 O H){s:Bs}{i:Nat}(hi:firstI s E=some i)(hEl:E.length≤1000000):ACalls Tryz.prog natT 140 [cellR cb 7 0,.str s] H fun u H'=>u=.int .i64 (i:Int)∧H=H':=by
 obtain⟨vc,vd,vn,vk,vr,A⟩:=A
 have l3:oLoad false 1 H (cellR cb 7 3)=some vn:=row_load A.row rfl rfl
 have l5:oLoad false 1 H (cellR cb 7 5)=some vr:=row_load A.row rfl rfl
 have ln:=A.ln.len
 have cn:=(LinM.cel1 A.ln A.ln.blk).1
 have cr:=(LinM.cel1 A.lr A.lr.blk).1
 have wl:IntKind.i64.wrap ((E.length:Int)-1)=(E.length:Int)-1:=w64
 obtain⟨ti,hti⟩:=firstI_lt hi
 have hil:=(List.getElem?_eq_some_iff.1 hti).1
 refine acalls_ofN rfl za140 rfl ?_
 simp only[c140,sA,sB,seval,nil_cell,fldA,l3,ln,wl]
 refine aw_loop (fun m (T:Env) L=>L=H∧∃j:Nat,m=j∧j≤E.length∧i<j∧T 0=cellR cb 7 0∧T 1=.str s∧T 5=.int .i64 ((j:Int)-1)) E.length
  ⟨rfl,E.length,rfl,Nat.le_refl _,hil,by simp only[sA,sB,seval]; try rfl,by simp only[sA,sB,seval]; try rfl,by simp only[sA,sB,seval]; try rfl⟩ ?_
 rintro j U L ⟨rfl,j',hm,hj,hij,u0,u1,u5⟩
 subst hm
 obtain⟨j,rfl⟩:∃j',j=j'+1:=⟨j-1,om⟩
 have hcast:((j+1:Nat):Int)-1=(j:Int):=om
 rw[hcast]at u5
 have hz:(0:Int)≤(j:Int):=om
 obtain⟨y,hy⟩:∃y,E[j]?=some y:=⟨_,List.getElem?_eq_getElem om⟩
 have i1:=cn.idx .i64 (i:=j) (by rw[nmL_len]; omega)
 have q1:=cn.load (i:=j) (x:=.str y.1) (by simp[nmL,hy])
 have i2:=cr.idx .i64 (i:=j) (by rw[rgL_len]; omega)
 have q2:=cr.load (i:=j) (x:=.int .i64 (j:Int)) (rgL_at om)
 have wj:IntKind.i64.wrap ((j:Int)-1)=(j:Int)-1:=w64
 by_cases he:y.1=s
 ·have:=firstI_last (s:=s) (t:=y.2) hE.once (by rw[hy,← he])
  rw[this]at hi
  simp only[sJ]at hi
  subst hi
  simp only[sA,sB,seval,u0,u1,u5,hz,nil_cell,fldA,l3,i1,q1,he,l5,i2,q2]
  exact⟨tt,tt⟩
 ·have hne:i≠j:=fun e=>by
   subst e
   rw[hti]at hy
   simp only[sJ]at hy
   exact he (by rw[← hy])
  simp only[sA,sB,seval,u0,u1,u5,hz,nil_cell,fldA,l3,i1,q1,he,wj]
  exact⟨j,om,tt,j,rfl,om,om,tt,tt,tt⟩
def sgTab:Env':=[([43],3),([45],4),([42],5),([47],6),([61,61],9),([33,61],10),([60,61],11),([62,61],12),([60],13),([62],14),([38,38],15),([124,124],16)]
def bTab:Env':=[([118,101,99],17),([120],18),([121],19),([122],20),([100,111,116],21),([99,114,111,115,115],22),([117,110,105,116],23),([115,113,114,116],24),([115,105,110],25),([99,111,115],26),([97,98,115],27),([102,108,111,111,114],28),([109,105,110],29),([109,97,120],30),([115,97,109,112,108,101],31)]
theorem sgTab_op:∀y∈sgTab,sgnOp y.1=y.2:=by decide
theorem bTab_op:∀y∈bTab,bltOp y.1=y.2:=by decide
theorem bTab_at:∀i,i<15→bTab[i]?.map (·.2)=some (17+i):=by decide
theorem zsign_spec{s:Bs}(hs:opF s 2=true){H:AHeap}:ACalls Tryz.prog natT 174 [.str s] H fun u H'=>u=.int .u8 (sgnOp s:Int)∧Ext H.next H H':=by
 have hm:s∈sgTab.map (·.1):=by
  have:s∈([[124,124],[38,38],[61,61],[33,61],[60,61],[62,61],[60],[62],[43],[45],[42],[47]]:List Bs):=by simpa[opF] using hs
  simp only[List.mem_cons,List.not_mem_nil,or_false]at this
  simp only[sgTab,List.map_cons,List.map_nil,List.mem_cons,List.not_mem_nil,or_false]
  rcases this with rfl | rfl | rfl | rfl | rfl | rfl | rfl | rfl | rfl | rfl | rfl | rfl <;> simp
 obtain⟨H1,hH1⟩:∃J,J=H.push (.cells (nmL sgTab) 0 false):=⟨_,rfl⟩
 obtain⟨H2,hH2⟩:∃J,J=H1.push (.cells (kdL sgTab) 0 false):=⟨_,rfl⟩
 have n1:H1.next=H.next+1:=by rw[hH1]; rfl
 have E2:Ext H.next H H2:=by rw[hH2]; exact⟨by show _≤H1.next+1; omega,fun c hc=>by rw[get_push_lt om,hH1,get_push_lt hc]⟩
 have b1:aBuildSl 12 [.str []] H [(0,1,.str [43]),(1,1,.str [45]),(2,1,.str [42]),(3,1,.str [47]),(4,1,.str [61,61]),(5,1,.str [33,61]),(6,1,.str [60,61]),(7,1,.str [62,61]),(8,1,.str [60]),(9,1,.str [62]),(10,1,.str [38,38]),(11,1,.str [124,124])]=some (.slice (some ⟨H.next,12,0⟩) 12 (.known 12),H1):=by rw[hH1]; rfl
 have b2:aBuildSl 12 [.int .u8 0] H1 [(0,1,.int .u8 3),(1,1,.int .u8 4),(2,1,.int .u8 5),(3,1,.int .u8 6),(4,1,.int .u8 9),(5,1,.int .u8 10),(6,1,.int .u8 11),(7,1,.int .u8 12),(8,1,.int .u8 13),(9,1,.int .u8 14),(10,1,.int .u8 15),(11,1,.int .u8 16)]=some (.slice (some ⟨H1.next,12,0⟩) 12 (.known 12),H2):=by rw[hH2]; rfl
 have c1:Cel (H.next+1) H2 (.slice (some ⟨H.next,12,0⟩) 12 (.known 12)) (nmL sgTab):=by
  have:Cel (H.next+1) H1 (.slice (some ⟨H.next,12,0⟩) 12 (.known 12)) (nmL sgTab):=by rw[hH1]; exact bs_celA (xs:=nmL sgTab)
  exact this.ext (by rw[hH2]; exact⟨by show _≤H1.next+1; omega,fun c hc=>get_push_lt om⟩)
 have c2:Cel (H1.next+1) H2 (.slice (some ⟨H1.next,12,0⟩) 12 (.known 12)) (kdL sgTab):=by rw[hH2]; exact bs_celA (xs:=kdL sgTab)
 refine acalls_ofN rfl za174 rfl ?_
 have ln:=c1.len
 simp only[nmL_len]at ln
 simp only[c174,sA,sB,seval,b1,b2]
 refine aw_loop (fun m (T:Env) L=>L=H2∧∃i:Nat,m=sgTab.length-i∧i≤sgTab.length∧T 0=.str s∧T 3=.slice (some ⟨H.next,12,0⟩) 12 (.known 12)∧T 4=.slice (some ⟨H1.next,12,0⟩) 12 (.known 12)∧T 5=.int .i64 (i:Int)∧s∉(sgTab.take i).map (·.1)) sgTab.length
  ⟨rfl,0,rfl,Nat.zero_le _,by simp only[sA,sB,seval]; try rfl,by simp only[sA,sB,seval]; try rfl,by simp only[sA,sB,seval]; try rfl,by simp only[sA,sB,seval]; try rfl,by simp⟩ ?_
 rintro m U L ⟨rfl,i,rfl,hi,u0,u3,u4,u5,hx⟩
 by_cases hlt:i<sgTab.length
 case neg=>
  obtain rfl:i=sgTab.length:=om
  rw[List.take_length]at hx
  exact absurd hm hx
 have hlt':(i:Int)<(sgTab.length:Int):=om
 obtain⟨y,hy⟩:∃y,sgTab[i]?=some y:=⟨_,List.getElem?_eq_getElem hlt⟩
 have i1:=c1.idx .i64 (i:=i) (by rw[nmL_len]; exact hlt)
 have q1:=c1.load (i:=i) (x:=.str y.1) (by simp[nmL,hy])
 have i2:=c2.idx .i64 (i:=i) (by rw[kdL_len]; exact hlt)
 have q2:=c2.load (i:=i) (x:=kdA y.2) (by simp[kdL,hy])
 have wk:IntKind.i64.wrap ((i:Int)+1)=((i+1:Nat):Int):=by have:sgTab.length=12:=rfl; rw[IntKind.wrap_i64]; omega
 by_cases he:y.1=s
 ·have:=sgTab_op y (List.mem_of_getElem? hy)
  rw[he]at this
  rw[this]
  simp only[sA,sB,seval,u0,u3,u4,u5,ln,hlt',i1,q1,he,i2,q2]
  exact⟨tt,E2⟩
 ·simp only[sA,sB,seval,u0,u3,u4,u5,ln,hlt',i1,q1,he,wk]
  refine⟨sgTab.length-(i+1),om,tt,i+1,rfl,om,tt,tt,tt,tt,?_⟩
  rw[List.take_add_one,hy]
  simp only[Option.toList_some,List.map_append,List.map_cons,List.map_nil,List.mem_append,List.mem_singleton,not_or]
  exact⟨hx,fun e=>he e.symm⟩
theorem zblt_spec{s:Bs}(hm:s∈bTab.map (·.1)){H:AHeap}:ACalls Tryz.prog natT 175 [.str s] H fun u H'=>u=.int .u8 (bltOp s:Int)∧Ext H.next H H':=by
 obtain⟨H1,hH1⟩:∃J,J=H.push (.cells (nmL bTab) 0 false):=⟨_,rfl⟩
 have E1:Ext H.next H H1:=by rw[hH1]; exact⟨by show _≤H.next+1; omega,fun c hc=>get_push_lt hc⟩
 have b1:aBuildSl 15 [.str []] H [(0,1,.str [118,101,99]),(1,1,.str [120]),(2,1,.str [121]),(3,1,.str [122]),(4,1,.str [100,111,116]),(5,1,.str [99,114,111,115,115]),(6,1,.str [117,110,105,116]),(7,1,.str [115,113,114,116]),(8,1,.str [115,105,110]),(9,1,.str [99,111,115]),(10,1,.str [97,98,115]),(11,1,.str [102,108,111,111,114]),(12,1,.str [109,105,110]),(13,1,.str [109,97,120]),(14,1,.str [115,97,109,112,108,101])]=some (.slice (some ⟨H.next,15,0⟩) 15 (.known 15),H1):=by rw[hH1]; rfl
 have c1:Cel (H.next+1) H1 (.slice (some ⟨H.next,15,0⟩) 15 (.known 15)) (nmL bTab):=by rw[hH1]; exact bs_celA (xs:=nmL bTab)
 refine acalls_ofN rfl za175 rfl ?_
 have ln:=c1.len
 simp only[nmL_len]at ln
 simp only[c175,sA,sB,seval,b1]
 refine aw_loop (fun m (T:Env) L=>L=H1∧∃i:Nat,m=bTab.length-i∧i≤bTab.length∧T 0=.str s∧T 3=.slice (some ⟨H.next,15,0⟩) 15 (.known 15)∧T 4=.int .i64 (i:Int)∧s∉(bTab.take i).map (·.1)) bTab.length
  ⟨rfl,0,rfl,Nat.zero_le _,by simp only[sA,sB,seval]; try rfl,by simp only[sA,sB,seval]; try rfl,by simp only[sA,sB,seval]; try rfl,by simp⟩ ?_
 rintro m U L ⟨rfl,i,rfl,hi,u0,u3,u4,hx⟩
 by_cases hlt:i<bTab.length
 case neg=>
  obtain rfl:i=bTab.length:=om
  rw[List.take_length]at hx
  exact absurd hm hx
 have h15:bTab.length=15:=rfl
 have hlt':(i:Int)<(bTab.length:Int):=om
 obtain⟨y,hy⟩:∃y,bTab[i]?=some y:=⟨_,List.getElem?_eq_getElem hlt⟩
 have i1:=c1.idx .i64 (i:=i) (by rw[nmL_len]; exact hlt)
 have q1:=c1.load (i:=i) (x:=.str y.1) (by simp[nmL,hy])
 have wk:IntKind.i64.wrap ((i:Int)+1)=((i+1:Nat):Int):=w64
 by_cases he:y.1=s
 ·have ho:=bTab_op y (List.mem_of_getElem? hy)
  have ha:=bTab_at i om
  rw[hy]at ha
  simp only[Option.map_some,sJ]at ha
  rw[he]at ho
  have w1:IntKind.u8.wrap (i:Int)=(i:Int):=by rw[IntKind.wrap_u8]; omega
  have w2:IntKind.u8.wrap (17+(i:Int))=((17+i:Nat):Int):=by rw[IntKind.wrap_u8]; omega
  rw[ho,ha]
  simp only[sA,sB,seval,u0,u3,u4,ln,hlt',i1,q1,he,w1,w2]
  exact⟨tt,E1⟩
 ·simp only[sA,sB,seval,u0,u3,u4,ln,hlt',i1,q1,he,wk]
  refine⟨bTab.length-(i+1),om,tt,i+1,rfl,om,tt,tt,tt,?_⟩
  rw[List.take_add_one,hy]
  simp only[Option.toList_some,List.map_append,List.map_cons,List.map_nil,List.mem_append,List.mem_singleton,not_or]
  exact⟨hx,fun e=>he e.symm⟩
open Go.Abs Go.Abs.S
theorem zk_con{E:Env'}{x:Cs}{cb n0:Nat}{O:Nat→Prop}{vc vd vn vk vr:AVal}{H:AHeap}(A:ZkR E x cb n0 O vc vd vn vk vr H){n:Int}(hf:firstC n x.cons=none)(hl:x.cons.length≤100000) :
  ∃vc' H2 H3,aAppend 1 8 (H.push (.cells [.int .i64 n] 0 false)) vc (.slice (some ⟨H.next,1,0⟩) 1 (.known 1))=some (vc',H2)∧oStore 1 H2 (cellR cb 7 0) vc'=some H3∧∃O',ZkS E (x.con n) cb n0 O' H3∧FrO O H O' H3:=by
 have hcb:=A.oN _ A.oc
 have hxc:x.con n={ x with cons:=x.cons++[n] }:=by unfold Cs.con; rw[hf]
 rw[hxc]
 obtain⟨vc',H2,a2,L2,n2,b2,k2⟩:=A.lc.add (j:=1) (xs:=[.int .i64 n]) rfl rfl om (bytes:=8) om om
 have hbl:∀{w:AVal},Blk w (fun b=>O b∧b≠cb)→Blk w (·<H.next):=fun h=>h.mono fun c hc=>(A.oN c hc.1).2
 have ccb:Blk vc (cb≠·):=A.bc.mono fun c hc=>hc.2.symm
 obtain⟨H3,m3,r3,n3,k3⟩:=row_st (A.row.same (k2 cb hcb.2 ccb)) (n:=7) rfl (i:=0) om (x:=vc') L2.one (l':=[vc',.int .i64 (x.regs:Int),vd,vn,vk,vr,.int .i64 (E.length:Int)]) rfl
 have hl':x.cons.length+1=(x.cons++[n]).length:=by simp
 rw[conL_snoc,hl']at L2
 have hL:=L2.blk
 have bc':=b2 _ A.bc
 have kk:∀c,c<H.next→c≠cb→Blk vc (c≠·)→H3.get c=H.get c:=fun c h1 h2 h3=>by rw[k3 c h2,k2 c h1 h3]
 have same:∀{w:AVal},Blk w (fun b=>O b∧b≠cb)→Dj w vc→Blk w fun c=>H3.get c=H.get c:=fun h d a j r e=>kk _ (A.oN _ (h a j r e).1).2 (h a j r e).2 (d a j r e)
 have mono:∀{w:AVal},Blk w (fun b=>O b∧b≠cb)→Blk w (fun b=>OX O H.next H3.next b∧b≠cb):=fun h=>h.mono fun c hc=>⟨.inl hc.1,hc.2⟩
 have lc3:LinM 1 H3 vc' (conL (x.cons++[n])) (x.cons++[n]).length:=L2.same om fun a j r e=>k3 _ (by
  have q:(O a.b∧a.b≠cb)∨H.next≤a.b:=bc' a j r e
  rcases q with q | q
  ·exact q.2
  ·omega)
 refine⟨vc',H2,H3,a2,m3,OX O H.next H3.next,⟨vc',vd,vn,vk,vr,r3,lc3,A.ld.same om (same A.bd A.cd.symm),A.ln.same om (same A.bn A.cn.symm),A.lk.same om (same A.bk A.ck.symm),A.lr.same om (same A.br A.cr.symm),
  .inl A.oc,fun c hc=>?_,?_,mono A.bd,mono A.bn,mono A.bk,mono A.br,A.cd.fresh b2 (hbl A.bd),A.cn.fresh b2 (hbl A.bn),A.ck.fresh b2 (hbl A.bk),A.cr.fresh b2 (hbl A.br),A.dn,A.dk,A.dr,A.nk,A.nr,A.kr⟩,⟨om,fun c h1 h2=>?_,fun c hc=>?_⟩⟩
 ·rcases hc with hc | hc
  ·have:=A.oN c hc; omega
  ·omega
 ·intro a j r e
  have q:(O a.b∧a.b≠cb)∨H.next≤a.b:=bc' a j r e
  have q2:=hL a j r e
  rcases q with q | q
  ·exact⟨.inl q.1,q.2⟩
  ·exact⟨.inr ⟨om,om⟩,om⟩
 ·exact kk c h1 (fun e=>h2 (e ▸ A.oc)) (A.bc.mono fun d hd e=>h2 (e ▸ hd.1))
 ·rcases hc with hc | hc
  ·exact .inl hc
  ·exact .inr hc.1
theorem firstC_step{n:Int}:∀{l:List Int} {i:Nat} {y:Int},l[i]?=some y→firstC n (l.take i)=none→(y=n→firstC n l=some i)∧(y≠n→firstC n (l.take (i+1))=none)
 | [],_,_,h,_=>by simp at h
 | x::l,0,y,h,_=>by
  simp only[List.getElem?_cons_zero,sJ]at h
  subst h
  exact⟨fun e=>by simp[firstC,e],fun e=>by simp[firstC,e]⟩
 | x::l,i+1,y,h,h0=>by
  simp only[List.getElem?_cons_succ]at h
  simp only[List.take_succ_cons,firstC]at h0 ⊢
  by_cases hx:x=n
  ·rw[if_pos hx]at h0; simp at h0
  ·rw[if_neg hx]at h0
   simp only[Option.map_eq_none_iff]at h0
   obtain⟨q1,q2⟩:=firstC_step h h0
   exact⟨fun e=>by rw[if_neg hx,q1 e]; rfl,fun e=>by rw[if_neg hx,q2 e]; rfl⟩
theorem bTab_arg:∀y∈argTab,y.1∈bTab.map (·.1):=by decide
theorem callT_bt{s:Bs}{ts:List Nat}{t:Nat}(h:callT s ts=.ok t):s∈bTab.map (·.1):=by
 unfold callT at h
 cases ha:atKey argTab s with
 | none=>rw[ha]at h; simp at h
 | some x=>exact bTab_arg _ (atKey_mem ha)
set_option maxHeartbeats 1000000 in
theorem zexpr_spec{E:Env'}(hE:Scp E)(hEl:E.length≤100000){cb n0:Nat}:∀(N:Nat) {e:Ex} {x:Cs} {O:Nat→Prop} {H:AHeap} {c:List AVal} {r t:Nat},e.size≤N→ZkS E x cb n0 O H→XE (·<n0) H e c→okE e=true→tyE E e=.ok t→e.size≤1000→e.deep≤40→Rm x e.size→r+e.size≤50000 →
  ACalls Tryz.prog natT 138 [cellR cb 7 0,.int .i64 (r:Int),.agg c] H fun _ H'=>∃O',ZkS E (cE E e r x) cb n0 O' H'∧FrO O H O' H'
 | 0,e,_,_,_,_,_,_,h,_,_,_,_,_,_,_,_=>absurd (sizeE_pos e) om
 | N+1,.mk k s n kids,x,O,H,c,r,t,h,A,hx,hok,hty,hs,hd,hr,hrr=>by
  obtain⟨v,C,rfl,z1,z2⟩:=hx
  have hsz:(Ex.mk k s n kids).size=sizesE kids+1:=rfl
  have hdp:(Ex.mk k s n kids).deep=deepsE kids+1:=rfl
  have hr1:=hr.code
  have hr2:=hr.cons
  obtain⟨ts,hts,hkt⟩:=tyE_kids hty
  obtain⟨hpf,hks⟩:=okE_kids hok
  obtain⟨hk4,hop,hk0⟩:=partF_k hpf
  have hlen:=len_sizesE kids
  have hcb:=A.lt
  have hON:=A.oN
  have wr:IntKind.i64.wrap ((r:Int)+1)=((r+1:Nat):Int):=w64
  obtain⟨H1,m1,r1,n1,k1⟩:=row_newL H [.int .u8 (k:Int),.str s,.int .i64 n,v] (n:=4) rfl
  have E1:Ext H.next H H1:=⟨om,fun c hc=>k1 c om⟩
  have A1:=A.exts E1
  have F01:FrO O H O H1:=FrO.exts E1
  obtain⟨eb,heb⟩:∃b,b=H.next:=⟨_,rfl⟩
  rw[← heb]at m1 r1 k1
  have ebO:∀{O2:Nat→Prop} {K:AHeap},FrO O H1 O2 K→Row K eb [.int .u8 (k:Int),.str s,.int .i64 n,v]:=fun F=>r1.same (F.old eb om fun q=>by have:=hON _ q; omega)
  have ln:=z1.len
  refine acalls_ofN rfl za138 rfl ?_
  simp only[c138,sA,sB,seval,cells_agg,m1]
  refine (zuse_spec A1 r om).mono ?_
  rintro _ H2 ⟨A2,n2,k2⟩
  have F12:FrO O H1 O H2:=⟨om,fun c _ h2=>k2 c h2,fun _ h=>.inl h⟩
  have r2:=ebO F12
  have f0:oLoad false 1 H2 (cellR eb 4 0)=some (.int .u8 (k:Int)):=row_load r2 rfl rfl
  have f1:oLoad false 1 H2 (cellR eb 4 1)=some (.str s):=row_load r2 rfl rfl
  have f2:oLoad false 1 H2 (cellR eb 4 2)=some (.int .i64 n):=row_load r2 rfl rfl
  have hc:cE E (.mk k s n kids) r x=lastE E k s n kids r (cEs E kids r (x.use r)):=rfl
  rw[hc]
  have u1:(x.use r).code=x.code:=rfl
  have u2:(x.use r).cons=x.cons:=rfl
  by_cases h1:k=1
  ·subst h1
   have hkn:kids=[]:=List.length_eq_zero_iff.1 (hk0 (.inl rfl))
   subst hkn
   have hce:lastE E 1 s n [] r (cEs E [] r (x.use r))=((x.use r).con n).put 1 r ((x.use r).conI n) 0:=rfl
   rw[hce]
   obtain⟨vc,vd,vn,vk,vr,A2⟩:=A2
   have lc:=A2.lc.len
   have cc:=(LinM.cel1 A2.lc A2.lc.blk).1
   have g0:oLoad false 1 H2 (cellR cb 7 0)=some vc:=row_load A2.row rfl rfl
   rw[u2]at lc cc
   simp only[Int.cast_ofNat_Int]at f0
   simp only[sA,sB,seval,fld0,f0]
   refine aw_loop (fun m (T:Env) L=>L=H2∧∃i:Nat,m=x.cons.length-i∧i≤x.cons.length∧T 0=cellR cb 7 0∧T 1=.int .i64 (r:Int)∧T 5=cellR eb 4 0∧T 6=.int .i64 (i:Int)∧firstC n (x.cons.take i)=none) x.cons.length
    ⟨rfl,0,rfl,Nat.zero_le _,by simp only[sA,sB,seval]; try rfl,by simp only[sA,sB,seval]; try rfl,by simp only[sA,sB,seval]; try rfl,by simp only[sA,sB,seval]; try rfl,rfl⟩ ?_
   rintro m U L ⟨rfl,i,rfl,hi,t0,t1,t5,t6,hfi⟩
   have hxc:(x.use r).cons=x.cons:=rfl
   by_cases hlt:i<x.cons.length
   ·have hlt':(i:Int)<(x.cons.length:Int):=om
    obtain⟨y,hy⟩:∃y,x.cons[i]?=some y:=⟨_,List.getElem?_eq_getElem hlt⟩
    have io:=cc.idx .i64 (i:=i) (by rw[conL_len]; exact hlt)
    have lo:=cc.load (i:=i) (x:=.int .i64 y) (by simp[conL,hy])
    have wk:IntKind.i64.wrap ((i:Int)+1)=((i+1:Nat):Int):=addN i 1 om
    obtain⟨q1,q2⟩:=firstC_step hy hfi
    by_cases he:y=n
    ·have hf:=q1 he
     have hne:¬(i:Int)=(x.cons.length:Int):=om
     have hci:(x.use r).conI n=i:=by unfold Cs.conI; rw[hxc,hf]; rfl
     have hcx:(x.use r).con n=x.use r:=by unfold Cs.con; rw[hxc,hf]
     rw[hci,hcx]
     simp only[sA,sB,seval,t0,t1,t5,t6,nil_cell,fld0,fldA,g0,lc,hlt',io,lo,f2,he,hne]
     refine (zput_spec ⟨_,_,_,_,_,A2⟩ 1 r i 0 (by show x.code.length≤_; omega)).mono ?_
     rintro _ H3 ⟨rfl,O3,A3,F3⟩
     simp only[sA,sB,seval]
     exact⟨_,rfl,O3,A3,F01.trans (F12.trans F3)⟩
    ·simp only[sA,sB,seval,t0,t1,t5,t6,nil_cell,fld0,fldA,g0,lc,hlt',io,lo,f2,he,wk]
     exact⟨x.cons.length-(i+1),om,tt,i+1,rfl,om,tt,tt,tt,tt,q2 he⟩
   ·obtain rfl:i=x.cons.length:=om
    have hlt':¬(x.cons.length:Int)<(x.cons.length:Int):=om
    rw[List.take_length]at hfi
    have hci:(x.use r).conI n=x.cons.length:=by unfold Cs.conI; rw[hxc,hfi]; rfl
    obtain⟨vc',H3,H4,a3,m4,O4,A4,F4⟩:=zk_con A2 (n:=n) (by rw[hxc]; exact hfi) (by rw[hxc]; omega)
    have bs:aBuildSl 1 [.int .i64 0] L [(0,1,.int .i64 n)]=some (.slice (some ⟨L.next,1,0⟩) 1 (.known 1),L.push (.cells [.int .i64 n] 0 false)):=rfl
    have g0':oLoad false 1 (L.push (.cells [.int .i64 n] 0 false)) (cellR cb 7 0)=some vc:=row_load (A2.row.same (get_push_lt (A2.oN _ A2.oc).2)) rfl rfl
    rw[hci]
    simp only[sA,sB,seval,t0,t1,t5,t6,nil_cell,fld0,fldA,g0,lc,hlt']
    refine aw_drawC rfl ?_
    simp only[sR,sA,sB,seval,t0,t1,t5,t6,nil_cell,fld0,fldA,g0,f2,bs,a3,m4]
    simp only[ck_nil',ck_cons,ckP_load,ckP_nil,ck_end,and_true,true_and,List.map_cons,List.map_nil,sA,sB,seval,t0,t1,t5,t6,nil_cell,fld0,fldA]
    refine⟨⟨_,rfl,fun _=>⟨_,g0',LinM.aeq A2.lc⟩⟩,?_⟩
    have hlc:=(con_code n (x.use r)).1
    refine (zput_spec A4 1 r x.cons.length 0 (by rw[hlc]; show x.code.length≤_; omega)).mono ?_
    rintro _ H5 ⟨rfl,O5,A5,F5⟩
    simp only[sA,sB,seval]
    exact⟨_,rfl,O5,A5,F01.trans (F12.trans (F4.trans F5))⟩
  have h1':¬(k:Int)=1:=om
  by_cases h2:k=2
  ·subst h2
   have hkn:kids=[]:=List.length_eq_zero_iff.1 (hk0 (.inr rfl))
   subst hkn
   obtain⟨t',ht'⟩:∃t',lastT E s=some t':=by
    unfold kindT at hkt
    cases hl:lastT E s with
    | none=>rw[hl]at hkt; simp at hkt
    | some u=>exact⟨u,rfl⟩
   obtain⟨i,hi1,hi2⟩:=lastT_first ht'
   have hreg:regOf s E=i:=by unfold regOf; rw[hi1]; rfl
   have hce:lastE E 2 s n [] r (cEs E [] r (x.use r))=(x.use r).put 2 r i 0:=by rw[← hreg]; rfl
   rw[hce]
   simp only[Int.cast_ofNat_Int]at f0
   simp only[sA,sB,seval,fld0,fldA,f0,f1]
   refine (zreg_spec hE A2 hi1 om).mono ?_
   rintro _ _ ⟨rfl,rfl⟩
   simp only[sA,sB,seval]
   refine (zput_spec A2 2 r i 0 (by show x.code.length≤_; omega)).mono ?_
   rintro _ H3 ⟨rfl,O3,A3,F3⟩
   simp only[sA,sB,seval]
   exact⟨_,rfl,O3,A3,F01.trans (F12.trans F3)⟩
  have h2':¬(k:Int)=2:=om
  simp only[sA,sB,seval,fld0,f0,h1',h2']
  refine aw_loop (fun m (T:Env) K=>∃(i:Nat) (O1:Nat→Prop),m=kids.length-i∧i≤kids.length∧T 0=cellR cb 7 0∧T 1=.int .i64 (r:Int)∧T 5=cellR eb 4 0∧T 7=.int .i64 (i:Int)∧ZkS E (cEs E (kids.take i) r (x.use r)) cb n0 O1 K∧FrO O H1 O1 K) kids.length
   ⟨0,O,rfl,Nat.zero_le _,by simp only[sA,sB,seval]; try rfl,by simp only[sA,sB,seval]; try rfl,by simp only[sA,sB,seval]; try rfl,by simp only[sA,sB,seval]; try rfl,A2,F12⟩ ?_
  rintro m T K ⟨i,O1,rfl,hi,t0,t1,t5,t7,AK,FK⟩
  have nK:=FK.next
  have F0K:=F01.trans FK
  have kmK:∀c,c<n0→c<n0∧K.get c=H.get c:=fun c hc=>⟨hc,F0K.old c om (fun q=>by have:=hON c q; omega)⟩
  have z1K:=z1.mono kmK
  have z2K:=z2.mono kmK
  have rK:=ebO FK
  have f0:oLoad false 1 K (cellR eb 4 0)=some (.int .u8 (k:Int)):=row_load rK rfl rfl
  have f1:oLoad false 1 K (cellR eb 4 1)=some (.str s):=row_load rK rfl rfl
  have f3:oLoad false 1 K (cellR eb 4 3)=some v:=row_load rK rfl rfl
  obtain⟨q1,q2,q3⟩:=cEs_lim E (kids.take i) r (x.use r)
  have hst:=sizes_take kids i
  rw[u1]at q1
  rw[u2]at q2
  by_cases hlt:i<kids.length
  ·have hlt':(i:Int)<(kids.length:Int):=om
   obtain⟨e,he⟩:∃e,kids[i]?=some e:=⟨_,List.getElem?_eq_getElem hlt⟩
   have hmem:=List.mem_of_getElem? he
   have hsm:=sizes_at he
   have hdm:=deepsE_memT hmem
   obtain⟨te,hte⟩:=tyEs_mem hts e hmem
   have ix:=z1K.idx hlt
   have ld:=z1K.load hlt
   have wi:IntKind.i64.wrap ((i:Int)+1)=((i+1:Nat):Int):=addN i 1 om
   have wri:IntKind.i64.wrap ((r:Int)+(i:Int))=((r+i:Nat):Int):=addN r i om
   have hil:i+e.size≤sizesE kids:=by
    have:i=(kids.take i).length:=by rw[List.length_take]; omega
    have:=len_sizesE (kids.take i)
    omega
   simp only[sA,sB,seval,t0,t1,t5,t7,fldA,f3,ln,hlt',ix,ld,wri]
   refine (zexpr_spec hE hEl N om AK (z2K.at he) (oksE_mem hks hmem) hte om om ⟨om,om⟩ om).mono ?_
   rintro _ K2 ⟨O2,A2,F2⟩
   simp only[sA,sB,seval,t0,t1,t5,t7,wi]
   refine⟨kids.length-(i+1),om,i+1,O2,rfl,om,tt,tt,tt,tt,?_,FK.trans F2⟩
   rw[cEs_take he]; exact A2
  obtain rfl:i=kids.length:=om
  have hlt':¬(kids.length:Int)<(kids.length:Int):=om
  rw[List.take_length]at AK q1 q2 q3
  by_cases h3:k=3
  ·subst h3
   have hlast:lastE E 3 s n kids r (cEs E kids r (x.use r))=(if kids.length=1 then (cEs E kids r (x.use r)).put (if s=[33] then 8 else 7) r r 0 else if s=[42]∧headT E kids=2 then (cEs E kids r (x.use r)).put 5 r (r+1) r else (cEs E kids r (x.use r)).put (sgnOp s) r r (r+1)):=rfl
   rw[hlast]
   have hop3:=hop rfl
   simp only[Int.cast_ofNat_Int]at f0
   by_cases hk1:kids.length=1
   ·have hk1':(kids.length:Int)=1:=om
    rw[if_pos hk1]
    have hnn:¬(1:Int)<1:=om
    by_cases hb:s=[33]
    ·rw[if_pos hb]
     rw[hk1']at t7 ln
     simp only[sA,sB,seval,t0,t1,t5,t7,fld0,fldA,f3,ln,hnn,f0,f1,hb]
     refine (zput_spec AK 8 r r 0 om).mono ?_
     rintro _ H3 ⟨rfl,O3,A3,F3⟩
     simp only[sA,sB,seval]
     exact⟨_,rfl,O3,A3,F0K.trans F3⟩
    ·rw[if_neg hb]
     rw[hk1']at t7 ln
     simp only[sA,sB,seval,t0,t1,t5,t7,fld0,fldA,f3,ln,hnn,f0,f1,hb]
     refine (zput_spec AK 7 r r 0 om).mono ?_
     rintro _ H3 ⟨rfl,O3,A3,F3⟩
     simp only[sA,sB,seval]
     exact⟨_,rfl,O3,A3,F0K.trans F3⟩
   have hk1':¬(kids.length:Int)=1:=om
   have hk2:kids.length=2:=by
    rcases hk:kids.length with _ | _ | _ | m
    ·rw[hk]at hop3; simp[opF]at hop3
    ·omega
    ·rfl
    ·rw[hk]at hop3; simp[opF]at hop3
   rw[hk2]at hop3
   rw[if_neg hk1]
   obtain⟨e0,e1,rfl⟩:∃a b,kids=[a,b]:=by
    match kids,hk2 with
    | [a,b],_=>exact⟨a,b,rfl⟩
   have ix:=z1K.idx (i:=0) (by simp)
   have ld:=z1K.load (i:=0) (by simp)
   have hx0:=z2K.at (i:=0) (e:=e0) rfl
   simp only[Int.cast_ofNat_Int]at ix
   obtain⟨vc1,vd1,vn1,vk1,vr1,AK⟩:=AK
   have g3:oLoad false 1 K (cellR cb 7 3)=some vn1:=row_load AK.row rfl rfl
   have g4:oLoad false 1 K (cellR cb 7 4)=some vk1:=row_load AK.row rfl rfl
   have hcbK:=AK.oN _ AK.oc
   have hnn:¬(2:Int)<2:=om
   have hn1:¬(2:Int)=1:=om
   have hle:(([e0,e1]:List Ex).length:Int)=2:=rfl
   rw[hle]at t7 ln
   have hs0:e0.size≤1000:=by simp only[sizesE]at hsz; omega
   have hd0:e0.deep≤40:=by simp only[deepsE]at hdp; omega
   obtain⟨t0',ht0'⟩:=tyEs_mem hts e0 (by simp)
   have hq:headT E [e0,e1]=t0':=by show tyOf E e0=t0'; unfold tyOf; rw[ht0']
   simp only[sA,sB,seval,t0,t1,t5,t7,fld0,fldA,f3,ln,hnn,f0,hn1,ix,ld,nil_cell,g3,g4]
   refine (dofx_spec hE om (hx0.mono fun b hb=>⟨om,rfl⟩) (LinM.cel1 AK.ln AK.ln.blk).1 (LinM.cel1 AK.lk AK.lk.blk).1 om hd0).mono ?_
   rintro _ K2 ⟨rfl,E2⟩
   have e2:=E2.next
   rw[ht0']
   have AS:ZkS E (cEs E [e0,e1] r (x.use r)) cb n0 O1 K2:=ZkS.exts ⟨_,_,_,_,_,AK⟩ E2
   have FK2:FrO O H O1 K2:=F0K.trans (FrO.exts E2)
   have f1':oLoad false 1 K2 (cellR eb 4 1)=some (.str s):=row_load (rK.same (E2.old _ om)) rfl rfl
   by_cases hb:s=[42]
   ·by_cases h2t:t0'=2
    ·subst h2t
     rw[if_pos ⟨hb,hq⟩]
     simp only[sA,sB,seval,tyO,kdA,ext_0,ext_1,Int.cast_ofNat_Int,t0,t1,t5,fldA,f1',hb,wr]
     refine (zput_spec AS 5 r (r+1) r om).mono ?_
     rintro _ H3 ⟨rfl,O3,A3,F3⟩
     simp only[sA,sB,seval]
     exact⟨_,rfl,O3,A3,FK2.trans F3⟩
    ·have h2z:¬(t0':Int)=2:=om
     rw[if_neg (fun h=>h2t (hq ▸ h.2))]
     simp only[sA,sB,seval,tyO,kdA,ext_0,ext_1,t0,t1,t5,fldA,f1',hb,h2z]
     refine (zsign_spec (s:=[42]) (by rfl)).mono ?_
     rintro _ K3 ⟨rfl,E3⟩
     simp only[sA,sB,seval,t1,wr]
     refine (zput_spec (AS.exts E3) (sgnOp [42]) r r (r+1) om).mono ?_
     rintro _ H3 ⟨rfl,O3,A3,F3⟩
     simp only[sA,sB,seval]
     exact⟨_,rfl,O3,A3,FK2.trans ((FrO.exts E3).trans F3)⟩
   ·rw[if_neg (fun h=>hb h.1)]
    simp only[sA,sB,seval,tyO,kdA,ext_0,ext_1,t0,t1,t5,fldA,f1',hb]
    refine (zsign_spec hop3).mono ?_
    rintro _ K3 ⟨rfl,E3⟩
    simp only[sA,sB,seval,t1,wr]
    refine (zput_spec (AS.exts E3) (sgnOp s) r r (r+1) om).mono ?_
    rintro _ H3 ⟨rfl,O3,A3,F3⟩
    simp only[sA,sB,seval]
    exact⟨_,rfl,O3,A3,FK2.trans ((FrO.exts E3).trans F3)⟩
  have h3':¬(k:Int)=3:=om
  have h4:k=4:=om
  subst h4
  have hct:callT s ts=.ok t:=hkt
  have hbt:=callT_bt hct
  have hl4:lastE E 4 s n kids r (cEs E kids r (x.use r))=Cs.put (bltOp s) r r (if kids.length=2 then r+1 else 0) (cEs E kids r (x.use r)):=rfl
  rw[hl4]
  simp only[Int.cast_ofNat_Int]at f0
  by_cases hk2:kids.length=2
  ·have hk2':(kids.length:Int)=2:=om
   have hnn:¬(2:Int)<2:=om
   rw[if_pos hk2]
   rw[hk2']at t7 ln
   simp only[sA,sB,seval,t0,t1,t5,t7,fld0,fldA,f3,ln,hnn,f0,f1,wr]
   refine (zblt_spec hbt).mono ?_
   rintro _ K3 ⟨rfl,E3⟩
   simp only[sA,sB,seval,t0,t1]
   refine (zput_spec (AK.exts E3) (bltOp s) r r (r+1) om).mono ?_
   rintro _ H3 ⟨rfl,O3,A3,F3⟩
   simp only[sA,sB,seval]
   exact⟨_,rfl,O3,A3,F0K.trans ((FrO.exts E3).trans F3)⟩
  ·have hk2':¬(kids.length:Int)=2:=om
   rw[if_neg hk2]
   simp only[sA,sB,seval,t0,t1,t5,t7,fld0,fldA,f3,ln,hlt',f0,f1,hk2']
   refine (zblt_spec hbt).mono ?_
   rintro _ K3 ⟨rfl,E3⟩
   simp only[sA,sB,seval,t0,t1]
   refine (zput_spec (AK.exts E3) (bltOp s) r r 0 om).mono ?_
   rintro _ H3 ⟨rfl,O3,A3,F3⟩
   simp only[sA,sB,seval]
   exact⟨_,rfl,O3,A3,F0K.trans ((FrO.exts E3).trans F3)⟩
open Go.Abs Go.Abs.S
theorem zreturns_spec:∀(N:Nat) {l:List St} {C:List AVal} {v:AVal} {H:AHeap},sizesS l≤N→N≤1000000→SlK (·<H.next) H 9 v l.length C→XSs (·<H.next) H l C→ACalls Tryz.prog natT 142 [v] H fun u H'=>u=.bool (retL l)∧Ext H.next H H':=by
 intro N
 induction N with
 | zero=>
  intro l C v H hsz hN z1 z2
  have hl0:l=[]:=by
   cases l with
   | nil=>rfl
   | cons x l=>have:=sizeS_pos x; simp only[sizesS]at hsz; omega
  subst hl0
  have ln:=z1.len
  have h0:(([]:List St).length:Int)=0:=rfl
  refine acalls_ofN rfl za142 rfl ?_
  simp only[c142,sA,sB,seval,ln,h0]
  exact⟨tt,Ext.refl _ _⟩
 | succ N ih=>
  intro l C v H hsz hN z1 z2
  have ln:=z1.len
  by_cases hl0:l=[]
  ·subst hl0
   have h0:(([]:List St).length:Int)=0:=rfl
   refine acalls_ofN rfl za142 rfl ?_
   simp only[c142,sA,sB,seval,ln,h0]
   exact⟨tt,Ext.refl _ _⟩
  obtain⟨x,j,hj,he,hr⟩:=last_of hl0
  have hjl:j<l.length:=om
  have hlen:=len_sizesS l
  have hn0:¬(l.length:Int)=0:=om
  have wj:IntKind.i64.wrap ((l.length:Int)-1)=(j:Int):=w64
  have ix:=z1.idx hjl
  have ld:=z1.load hjl
  have hsm:=size_memS (List.mem_of_getElem? he)
  have hx:=z2.at he
  obtain⟨k,s,e,body,els,line⟩:=x
  obtain⟨ce,vb,Cb,ve,Ce,hcell,x1,y1,y2,y3,y4⟩:=hx
  obtain⟨c0,c1,c2,c3,rfl⟩:∃a b c d,ce=[a,b,c,d]:=by
   have:=x1.len
   match ce,this with
   | [a,b,c,d],_=>exact⟨a,b,c,d,rfl⟩
  have hone:((C.drop (j*9)).take 9).all AVal.one=true:=(z2.at he).one
  rw[hcell]at ld hone
  have hsz2:(St.mk k s e body els line).size=e.size+sizesS body+sizesS els+1:=rfl
  have hrs:retS (.mk k s e body els line)=(decide (k=5)||(decide (k=3)&&(retL body&&retL els))):=rfl
  obtain⟨H1,m1,r1,n1,k1⟩:=row_newL H [.int .u8 0,.str [],.int .u8 0,.str [],.int .i64 0,.slice none 0 (.known 0),.slice none 0 (.known 0),.slice none 0 (.known 0),.int .i64 0] (n:=9) rfl
  obtain⟨H2,m2,r2,n2,k2⟩:=row_storeN r1 (n:=9) rfl (xs:=.int .u8 (k:Int)::.str s::([c0,c1,c2,c3]++[vb,ve,.int .i64 line])) rfl hone
  have m2':oStore 9 H1 (cellR H.next 9 0) (.agg [.int .u8 (k:Int),.str s,c0,c1,c2,c3,vb,ve,.int .i64 line])=some H2:=m2
  have E2:Ext H.next H H2:=⟨om,fun c hc=>by rw[k2 c om,k1 c om]⟩
  have km:∀b,b<H.next→b<H2.next∧H2.get b=H.get b:=fun b hb=>⟨om,E2.old b hb⟩
  have l0:oLoad false 1 H2 (cellR H.next 9 0)=some (.int .u8 (k:Int)):=row_load r2 rfl rfl
  have l6:oLoad false 1 H2 (cellR H.next 9 6)=some vb:=row_load r2 rfl rfl
  rw[hr,hrs]
  refine acalls_ofN rfl za142 rfl ?_
  by_cases h5:k=5
  ·subst h5
   simp only[Int.cast_ofNat_Int]at ld m2' l0
   simp only[c142,sA,sB,seval,ln,hn0,wj,ix,ld,m1,m2',fld0,l0,Int.cast_ofNat_Int]
   exact⟨tt,E2⟩
  have h5':¬(k:Int)=5:=om
  by_cases h3:k=3
  ·subst h3
   simp only[Int.cast_ofNat_Int]at ld m2' l0
   simp only[c142,sA,sB,seval,ln,hn0,wj,ix,ld,m1,m2',fld0,fldA,l0,l6,Int.cast_ofNat_Int]
   refine (ih om om (y1.mono km) (y2.mono km)).mono ?_
   rintro _ H3 ⟨rfl,E3⟩
   have e3:=E3.next
   have E23:Ext H.next H H3:=⟨om,fun c hc=>by rw[E3.old c om,E2.old c hc]⟩
   cases hb:retL body with
   | false=>
    simp only[sA,sB,seval]
    exact⟨tt,E23⟩
   | true=>
    have l7:oLoad false 1 H3 (cellR H.next 9 7)=some ve:=row_load (r2.same (E3.old _ om)) rfl rfl
    have km3:∀b,b<H.next→b<H3.next∧H3.get b=H.get b:=fun b hb=>⟨om,E23.old b hb⟩
    simp only[sA,sB,seval,fldA,l7]
    refine (ih om om (y3.mono km3) (y4.mono km3)).mono ?_
    rintro _ H4 ⟨rfl,E4⟩
    have e4:=E4.next
    simp only[sA,sB,seval]
    exact⟨by simp,om,fun c hc=>by rw[E4.old c om,E23.old c hc]⟩
  ·have h3':¬(k:Int)=3:=om
   simp only[c142,sA,sB,seval,ln,hn0,wj,ix,ld,m1,m2',fld0,l0,h5',h3',h5,h3]
   exact⟨tt,E2⟩
theorem snoc_rg(E:Env')(x:Bs×Nat):rgL E.length++[.int .i64 (E.length:Int)]=rgL (E++[x]).length:=by rw[rgL_snoc]; simp
theorem zk_let{E:Env'}{x:Cs}{cb n0:Nat}{O:Nat→Prop}{vc vd vn vk vr:AVal}{H Hr:AHeap}(A:ZkR E x cb n0 O vc vd vn vk vr H)(hHr:Hr=((H.push (.cells [] 0 false)).push (.cells [] 0 false)).push (.cells [] 0 false))(s:Bs)(t:Nat)(hEl:E.length≤100000) :
  ∃H2 vn' H3 H4 vk' H5 H6 vr' H7 H8 H9 H10 H11,aHf (.fill H.next (.lit 1 [.str []] [(0,1)])) Hr [.str s]=some (.slice (some ⟨H.next,1,0⟩) 1 (.known 1),H2)∧aAppend 1 16 H2 vn (.slice (some ⟨H.next,1,0⟩) 1 (.known 1))=some (vn',H3) ∧
   aHf (.fill (H.next+1) (.lit 1 [.int .u8 0] [(0,1)])) H3 [kdA t]=some (.slice (some ⟨H.next+1,1,0⟩) 1 (.known 1),H4)∧aAppend 1 1 H4 vk (.slice (some ⟨H.next+1,1,0⟩) 1 (.known 1))=some (vk',H5) ∧
   aHf (.fill (H.next+2) (.lit 1 [.int .i64 0] [(0,1)])) H5 [.int .i64 (E.length:Int)]=some (.slice (some ⟨H.next+2,1,0⟩) 1 (.known 1),H6)∧aAppend 1 8 H6 vr (.slice (some ⟨H.next+2,1,0⟩) 1 (.known 1))=some (vr',H7) ∧
   oStore 1 H7 (cellR cb 7 3) vn'=some H8∧oStore 1 H8 (cellR cb 7 4) vk'=some H9∧oStore 1 H9 (cellR cb 7 5) vr'=some H10∧oLoad false 1 H10 (cellR cb 7 6)=some (.int .i64 (E.length:Int))∧oStore 1 H10 (cellR cb 7 6) (.int .i64 ((E.length+1:Nat):Int))=some H11 ∧
   (oLoad false 1 Hr (cellR cb 7 3)=some vn∧oLoad false 1 H2 (cellR cb 7 3)=some vn)∧(oLoad false 1 Hr (cellR cb 7 4)=some vk∧oLoad false 1 H2 (cellR cb 7 4)=some vk∧oLoad false 1 H3 (cellR cb 7 4)=some vk∧oLoad false 1 H4 (cellR cb 7 4)=some vk) ∧
   (oLoad false 1 Hr (cellR cb 7 5)=some vr∧oLoad false 1 H2 (cellR cb 7 5)=some vr∧oLoad false 1 H3 (cellR cb 7 5)=some vr∧oLoad false 1 H4 (cellR cb 7 5)=some vr∧oLoad false 1 H5 (cellR cb 7 5)=some vr∧oLoad false 1 H6 (cellR cb 7 5)=some vr) ∧
   (∀c,blkOf vn=some c→c<H.next)∧(∀c,blkOf vk=some c→c<H.next)∧(∀c,blkOf vn'=some c→c≠H.next+1∧c≠H.next+2)∧(∀c,blkOf vk'=some c→c≠H.next+2)∧(∀c,c<H.next→Hr.get c=H.get c) ∧
   ∃O',ZkS (E++[(s,t)]) x cb n0 O' H11∧FrO O H O' H11:=by
 have hcb:=A.oN _ A.oc
 have nr:Hr.next=H.next+3:=by rw[hHr]; rfl
 have kr:∀c,c<H.next→Hr.get c=H.get c:=fun c hc=>by rw[hHr,AHeap.get_push,if_neg (by simp only[push_next]; omega),AHeap.get_push,if_neg (by rw[push_next]; omega),get_push_lt hc]
 have gr0:Hr.get H.next=some (.cells [] 0 false):=by rw[hHr,AHeap.get_push,if_neg (by simp only[push_next]; omega),AHeap.get_push,if_neg (by rw[push_next]; omega),AHeap.get_push,if_pos rfl]
 have gr1:Hr.get (H.next+1)=some (.cells [] 0 false):=by rw[hHr,AHeap.get_push,if_neg (by simp only[push_next]; omega),AHeap.get_push,if_pos (by rw[push_next])]
 have gr2:Hr.get (H.next+2)=some (.cells [] 0 false):=by rw[hHr,AHeap.get_push,if_pos (by simp only[push_next])]
 have bN:=A.ln.blk
 have bK:=A.lk.blk
 have bR:=A.lr.blk
 obtain⟨H2,fl1,n2,g2,k2⟩:=fill_at gr0 (len:=1) (z:=[.str []]) (ofs:=[(0,1)]) (l:=[.str s]) (xs:=[.str s]) rfl
 have k02:∀c,c<H.next→H2.get c=H.get c:=fun c hc=>by rw[k2 c om,kr c hc]
 have ln2:LinM 1 H2 vn (nmL E) E.length:=A.ln.same om (bN.mono fun b hb=>k02 b hb)
 obtain⟨vn',H3,a3,L3,n3,b3,k3⟩:=ln2.many (src_one g2) rfl rfl om (bytes:=16) om om
 have bcb:Blk vn (cb≠·):=A.bn.mono fun b hb=>hb.2.symm
 have kcb:Blk vk (cb≠·):=A.bk.mono fun b hb=>hb.2.symm
 have rcb:Blk vr (cb≠·):=A.br.mono fun b hb=>hb.2.symm
 have rr:=A.row.same (kr cb hcb.2)
 have r2:=A.row.same (k02 cb hcb.2)
 have r3:=r2.same (k3 cb om bcb)
 have gr13:H3.get (H.next+1)=some (.cells [] 0 false):=by rw[k3 _ om (bN.mono fun b hb=>om),k2 _ om]; exact gr1
 have gr23:H3.get (H.next+2)=some (.cells [] 0 false):=by rw[k3 _ om (bN.mono fun b hb=>om),k2 _ om]; exact gr2
 obtain⟨H4,fl2,n4,g4,k4⟩:=fill_at gr13 (len:=1) (z:=[.int .u8 0]) (ofs:=[(0,1)]) (l:=[kdA t]) (xs:=[kdA t]) rfl
 have lk4:LinM 1 H4 vk (kdL E) E.length:=A.lk.same om fun a j r e=>by
  have h1:=bK a j r e
  show H4.get a.b=H.get a.b
  rw[k4 _ om,k3 _ om (A.nk.symm a j r e),k02 _ h1]
 obtain⟨vk',H5,a5,L5,n5,b5,k5⟩:=lk4.many (src_one g4) rfl rfl om (bytes:=1) om om
 have r4:=r3.same (k4 cb om)
 have r5:=r4.same (k5 cb om kcb)
 have gr25:H5.get (H.next+2)=some (.cells [] 0 false):=by rw[k5 _ om (bK.mono fun b hb=>om),k4 _ om]; exact gr23
 obtain⟨H6,fl3,n6,g6,k6⟩:=fill_at gr25 (len:=1) (z:=[.int .i64 0]) (ofs:=[(0,1)]) (l:=[.int .i64 (E.length:Int)]) (xs:=[.int .i64 (E.length:Int)]) rfl
 have lr6:LinM 1 H6 vr (rgL E.length) E.length:=A.lr.same om fun a j r e=>by
  have h1:=bR a j r e
  show H6.get a.b=H.get a.b
  rw[k6 _ om,k5 _ om (A.kr.symm a j r e),k4 _ om,k3 _ om (A.nr.symm a j r e),k02 _ h1]
 obtain⟨vr',H7,a7,L7,n7,b7,k7⟩:=lr6.many (src_one g6) rfl rfl om (bytes:=8) om om
 have r6:=r5.same (k6 cb om)
 have r7:=r6.same (k7 cb om rcb)
 obtain⟨H8,m8,r8,n8,k8⟩:=row_st r7 (n:=7) rfl (i:=3) om (x:=vn') L3.one (l':=[vc,.int .i64 (x.regs:Int),vd,vn',vk,vr,.int .i64 (E.length:Int)]) rfl
 obtain⟨H9,m9,r9,n9,k9⟩:=row_st r8 (n:=7) rfl (i:=4) om (x:=vk') L5.one (l':=[vc,.int .i64 (x.regs:Int),vd,vn',vk',vr,.int .i64 (E.length:Int)]) rfl
 obtain⟨H10,m10,r10,n10,k10⟩:=row_st r9 (n:=7) rfl (i:=5) om (x:=vr') L7.one (l':=[vc,.int .i64 (x.regs:Int),vd,vn',vk',vr',.int .i64 (E.length:Int)]) rfl
 obtain⟨H11,m11,r11,n11,k11⟩:=row_st r10 (n:=7) rfl (i:=6) om (x:=.int .i64 ((E.length+1:Nat):Int)) rfl (l':=[vc,.int .i64 (x.regs:Int),vd,vn',vk',vr',.int .i64 ((E.length+1:Nat):Int)]) rfl
 have ks:∀c,c≠cb→H11.get c=H7.get c:=fun c hc=>by rw[k11 c hc,k10 c hc,k9 c hc,k8 c hc]
 have bv3:=b3 (fun x=>x<H.next∧(O x∧x≠cb)∧Blk vk (x≠·)∧Blk vr (x≠·)) (fun a j r e=>⟨bN a j r e,A.bn a j r e,A.nk a j r e,A.nr a j r e⟩)
 have bv5:=b5 (fun x=>x<H.next∧(O x∧x≠cb)∧Blk vr (x≠·)) (fun a j r e=>⟨bK a j r e,A.bk a j r e,A.kr a j r e⟩)
 have bv7:=b7 (fun x=>x<H.next∧(O x∧x≠cb)) (fun a j r e=>⟨bR a j r e,A.br a j r e⟩)
 have hL3:=L3.blk
 have hL5:=L5.blk
 have hL7:=L7.blk
 have q3:∀c,blkOf vn'=some c→c≠H.next+1∧c≠H.next+2:=fun c hc=>by
  have:=blkOf_blk bv3 L3 c hc
  rcases this with⟨this,_⟩ | this <;> omega
 have q5:∀c,blkOf vk'=some c→c≠H.next+2:=fun c hc=>by
  have:=blkOf_blk bv5 L5 c hc
  rcases this with⟨this,_⟩ | this <;> omega
 rw[snoc_nm E s t]at L3
 rw[snoc_kd]at L5
 rw[snoc_rg E (s,t)]at L7
 have hEl2:(E++[(s,t)]).length=E.length+1:=by simp
 have kn:Blk vn' fun c=>H11.get c=H3.get c:=fun a j r e=>by
  have h3:=hL3 a j r e
  have hc:=bv3 a j r e
  have hb:a.b≠cb:=by
   rcases hc with⟨_,⟨_,hc⟩,_⟩ | hc
   ·exact hc
   ·omega
  have hv:Blk vk (a.b≠·):=by
   rcases hc with⟨_,_,hc,_⟩ | hc
   ·exact hc
   ·exact bK.mono fun b hb=>om
  have hw:Blk vr (a.b≠·):=by
   rcases hc with⟨_,_,_,hc⟩ | hc
   ·exact hc
   ·exact bR.mono fun b hb=>om
  have h1:a.b≠H.next+1∧a.b≠H.next+2:=by
   rcases hc with⟨hc,_⟩ | hc <;> omega
  show H11.get a.b=H3.get a.b
  rw[ks _ hb,k7 _ om hw,k6 _ h1.2,k5 _ om hv,k4 _ h1.1]
 have kk:Blk vk' fun c=>H11.get c=H5.get c:=fun a j r e=>by
  have h5:=hL5 a j r e
  have hc:=bv5 a j r e
  have hb:a.b≠cb:=by
   rcases hc with⟨_,⟨_,hc⟩,_⟩ | hc
   ·exact hc
   ·omega
  have hw:Blk vr (a.b≠·):=by
   rcases hc with⟨_,_,hc⟩ | hc
   ·exact hc
   ·exact bR.mono fun b hb=>om
  have h1:a.b≠H.next+2:=by
   rcases hc with⟨hc,_⟩ | hc <;> omega
  show H11.get a.b=H5.get a.b
  rw[ks _ hb,k7 _ om hw,k6 _ h1]
 have kR:Blk vr' fun c=>H11.get c=H7.get c:=fun a j r e=>by
  have hc:=bv7 a j r e
  have hb:a.b≠cb:=by
   rcases hc with⟨_,_,hc⟩ | hc
   ·exact hc
   ·omega
  exact ks _ hb
 have old:∀c,c<H.next→c≠cb→Blk vn (c≠·)→Blk vk (c≠·)→Blk vr (c≠·)→H11.get c=H.get c:=fun c h1 h2 h3 h4 h5=>by
  rw[ks c h2,k7 c om h5,k6 c om,k5 c om h4,k4 c om,k3 c om h3,k02 c h1]
 have same:∀{w:AVal},Blk w (fun b=>O b∧b≠cb)→Dj w vn→Dj w vk→Dj w vr→Blk w fun c=>H11.get c=H.get c:=fun h d d2 d3 a j r e=>old _ (A.oN _ (h a j r e).1).2 (h a j r e).2 (d a j r e) (d2 a j r e) (d3 a j r e)
 have mono:∀{w:AVal},Blk w (fun b=>O b∧b≠cb)→Blk w (fun b=>OX O H.next H11.next b∧b≠cb):=fun h=>h.mono fun c hc=>⟨.inl hc.1,hc.2⟩
 have hbl:∀{w:AVal},Blk w (fun b=>O b∧b≠cb)→Blk w (·<H2.next):=fun h=>h.mono fun c hc=>by have:=(A.oN c hc.1).2; omega
 have hbl4:∀{w:AVal},Blk w (fun b=>O b∧b≠cb)→Blk w (·<H4.next):=fun h=>h.mono fun c hc=>by have:=(A.oN c hc.1).2; omega
 have hbl6:∀{w:AVal},Blk w (fun b=>O b∧b≠cb)→Blk w (·<H6.next):=fun h=>h.mono fun c hc=>by have:=(A.oN c hc.1).2; omega
 have dnk:Dj vn' vk':=fun a j r e=>by
  have h3:=hL3 a j r e
  have hc:=bv3 a j r e
  refine (b5 (a.b≠·) ?_).mono fun x hx=>?_
  ·rcases hc with⟨_,_,hc,_⟩ | hc
   ·exact hc
   ·exact bK.mono fun b hb=>om
  ·rcases hx with hx | hx
   ·exact hx
   ·omega
 have dnr:Dj vn' vr':=fun a j r e=>by
  have h3:=hL3 a j r e
  have hc:=bv3 a j r e
  refine (b7 (a.b≠·) ?_).mono fun x hx=>?_
  ·rcases hc with⟨_,_,_,hc⟩ | hc
   ·exact hc
   ·exact bR.mono fun b hb=>om
  ·rcases hx with hx | hx
   ·exact hx
   ·omega
 have dkr:Dj vk' vr':=fun a j r e=>by
  have h3:=hL5 a j r e
  have hc:=bv5 a j r e
  refine (b7 (a.b≠·) ?_).mono fun x hx=>?_
  ·rcases hc with⟨_,_,hc⟩ | hc
   ·exact hc
   ·exact bR.mono fun b hb=>om
  ·rcases hx with hx | hx
   ·exact hx
   ·omega
 refine⟨H2,vn',H3,H4,vk',H5,H6,vr',H7,H8,H9,H10,H11,fl1,a3,fl2,a5,fl3,a7,m8,m9,m10,row_load r10 rfl rfl,m11,⟨row_load rr rfl rfl,row_load r2 rfl rfl⟩,⟨row_load rr rfl rfl,row_load r2 rfl rfl,row_load r3 rfl rfl,row_load r4 rfl rfl⟩,⟨row_load rr rfl rfl,row_load r2 rfl rfl,row_load r3 rfl rfl,row_load r4 rfl rfl,row_load r5 rfl rfl,row_load r6 rfl rfl⟩,
  fun c hc=>blkOf_blk bN A.ln c hc,fun c hc=>blkOf_blk bK A.lk c hc,q3,q5,kr,OX O H.next H11.next,⟨vc,vd,vn',vk',vr',by rw[hEl2]; exact r11,A.lc.same om (same A.bc A.cn A.ck A.cr),A.ld.same om (same A.bd A.dn A.dk A.dr),by rw[hEl2]; exact L3.same om kn,by rw[hEl2]; exact L5.same om kk,by rw[hEl2]at L7 ⊢; exact L7.same om kR,
  .inl A.oc,?_,mono A.bc,mono A.bd,?_,?_,?_,A.cd,(A.cn.symm.fresh b3 (hbl A.bc)).symm,(A.ck.symm.fresh b5 (hbl4 A.bc)).symm,(A.cr.symm.fresh b7 (hbl6 A.bc)).symm,(A.dn.symm.fresh b3 (hbl A.bd)).symm,(A.dk.symm.fresh b5 (hbl4 A.bd)).symm,(A.dr.symm.fresh b7 (hbl6 A.bd)).symm,dnk,dnr,dkr⟩,om,?_,?_⟩
 ·intro c hc
  rcases hc with hc | hc
  ·have:=A.oN c hc; omega
  ·omega
 ·intro a j r e
  have h3:=hL3 a j r e
  have hc:=bv3 a j r e
  rcases hc with⟨_,hc,_⟩ | hc
  ·exact⟨.inl hc.1,hc.2⟩
  ·exact⟨.inr ⟨om,om⟩,om⟩
 ·intro a j r e
  have h3:=hL5 a j r e
  have hc:=bv5 a j r e
  rcases hc with⟨_,hc,_⟩ | hc
  ·exact⟨.inl hc.1,hc.2⟩
  ·exact⟨.inr ⟨om,om⟩,om⟩
 ·intro a j r e
  have h3:=hL7 a j r e
  have hc:=bv7 a j r e
  rcases hc with⟨_,hc⟩ | hc
  ·exact⟨.inl hc.1,hc.2⟩
  ·exact⟨.inr ⟨om,om⟩,om⟩
 ·intro c h1 h2
  exact old c h1 (fun e=>h2 (e ▸ A.oc)) (A.bn.mono fun d hd e=>h2 (e ▸ hd.1)) (A.bk.mono fun d hd e=>h2 (e ▸ hd.1)) (A.br.mono fun d hd e=>h2 (e ▸ hd.1))
 ·intro c hc
  rcases hc with hc | hc
  ·exact .inl hc
  ·exact .inr hc.1
theorem zk_cut{E Ei:Env'}{x:Cs}{cb n0:Nat}{O:Nat→Prop}{vc vd vn vk vr:AVal}{H:AHeap}(A:ZkR Ei x cb n0 O vc vd vn vk vr H)(htk:Ei.take E.length=E)(hl:E.length≤Ei.length) :
  ∃vn' vk' vr' H1 H2 H3 H4,aSl 1 vn none (some (.int .i64 (E.length:Int))) none=some vn'∧aSl 1 vk none (some (.int .i64 (E.length:Int))) none=some vk'∧aSl 1 vr none (some (.int .i64 (E.length:Int))) none=some vr'∧oStore 1 H (cellR cb 7 3) vn'=some H1∧oStore 1 H1 (cellR cb 7 4) vk'=some H2∧oStore 1 H2 (cellR cb 7 5) vr'=some H3∧oStore 1 H3 (cellR cb 7 6) (.int .i64 (E.length:Int))=some H4∧ZkS E x cb n0 O H4∧FrO O H O H4:=by
 obtain⟨vn',s1,L1,b1⟩:=A.ln.cut om hl
 obtain⟨vk',s2,L2,b2⟩:=A.lk.cut om hl
 obtain⟨vr',s3,L3,b3⟩:=A.lr.cut om hl
 rw[Nat.mul_one,nmL_take,htk]at L1
 rw[Nat.mul_one,kdL_take,htk]at L2
 rw[Nat.mul_one,rgL_take hl]at L3
 obtain⟨H1,m1,r1,n1,k1⟩:=row_st A.row (n:=7) rfl (i:=3) om (x:=vn') L1.one (l':=[vc,.int .i64 (x.regs:Int),vd,vn',vk,vr,.int .i64 (Ei.length:Int)]) rfl
 obtain⟨H2,m2,r2,n2,k2⟩:=row_st r1 (n:=7) rfl (i:=4) om (x:=vk') L2.one (l':=[vc,.int .i64 (x.regs:Int),vd,vn',vk',vr,.int .i64 (Ei.length:Int)]) rfl
 obtain⟨H3,m3,r3,n3,k3⟩:=row_st r2 (n:=7) rfl (i:=5) om (x:=vr') L3.one (l':=[vc,.int .i64 (x.regs:Int),vd,vn',vk',vr',.int .i64 (Ei.length:Int)]) rfl
 obtain⟨H4,m4,r4,n4,k4⟩:=row_st r3 (n:=7) rfl (i:=6) om (x:=.int .i64 (E.length:Int)) rfl (l':=[vc,.int .i64 (x.regs:Int),vd,vn',vk',vr',.int .i64 (E.length:Int)]) rfl
 have k:∀c,c≠cb→H4.get c=H.get c:=fun c hc=>by rw[k4 c hc,k3 c hc,k2 c hc,k1 c hc]
 exact⟨vn',vk',vr',H1,H2,H3,H4,s1,s2,s3,m1,m2,m3,m4,⟨vc,vd,vn',vk',vr',r4,A.lc.same om (A.bc.mono fun c hc=>k c hc.2),A.ld.same om (A.bd.mono fun c hc=>k c hc.2),L1.same om ((b1 _ A.bn).mono fun c hc=>k c hc.2),L2.same om ((b2 _ A.bk).mono fun c hc=>k c hc.2),L3.same om ((b3 _ A.br).mono fun c hc=>k c hc.2),
  A.oc,fun c hc=>by have:=A.oN c hc; omega,A.bc,A.bd,b1 _ A.bn,b2 _ A.bk,b3 _ A.br,A.cd,(show Dj vc vn' from A.cn.mono fun c hc=>b1 _ hc),(show Dj vc vk' from A.ck.mono fun c hc=>b2 _ hc),(show Dj vc vr' from A.cr.mono fun c hc=>b3 _ hc),(show Dj vd vn' from A.dn.mono fun c hc=>b1 _ hc),(show Dj vd vk' from A.dk.mono fun c hc=>b2 _ hc),(show Dj vd vr' from A.dr.mono fun c hc=>b3 _ hc),
  b1 _ (A.nk.mono fun c hc=>b2 _ hc),b1 _ (A.nr.mono fun c hc=>b3 _ hc),b2 _ (A.kr.mono fun c hc=>b3 _ hc)⟩,⟨om,fun c _ h2=>k c fun e=>h2 (e ▸ A.oc),fun _ h=>.inl h⟩⟩
open Go.Abs Go.Abs.S
def endE(E:Env'):List St→Env'
 | []=>E
 | s::l=>endE (nextE E s) l
theorem endE_take:∀(l:List St) (E:Env') {n:Nat},n≤E.length→(endE E l).take n=E.take n
 | [],_,_,_=>rfl
 | s::l,E,n,h=>by
  have:=nextE_len E s
  simp only[endE]
  rw[endE_take l (nextE E s) om,nextE_take E s h]
theorem endE_len:∀(l:List St) (E:Env'),E.length≤(endE E l).length
 | [],_=>Nat.le_refl _
 | s::l,E=>by
  have:=nextE_len E s
  have:=endE_len l (nextE E s)
  simp only[endE]; omega
def ZL(N:Nat):Prop:=∀{l:List St} {C:List AVal} {v:AVal} {E F:Env'} {b:Bool} {x:Cs} {cb n0:Nat} {O:Nat→Prop} {H:AHeap},sizesS l≤N→ZkS E x cb n0 O H→SlK (·<n0) H 9 v l.length C→XSs (·<n0) H l C→oksS l=true→sizesS l≤1000→deepsS l≤40→Scp E→ckL E b l=.ok F →
 x.code.length+3*sizesS l≤40000→x.cons.length+sizesS l≤40000→E.length+sizesS l≤40000→ACalls Tryz.prog natT 141 [cellR cb 7 0,v] H fun _ H'=>∃O',ZkS E (cL E l x) cb n0 O' H'∧FrO O H O' H'
theorem FrO.same{O:Nat→Prop}{H H':AHeap}(n:H'.next=H.next)(k:∀c,¬O c→H'.get c=H.get c):FrO O H O H':=⟨om,fun c _ h=>k c h,fun _ h=>.inl h⟩
set_option maxHeartbeats 2000000 in
theorem zst_step{N:Nat}(ih:∀M,M<N→ZL M){k:Nat}{s:Bs}{e:Ex}{body els:List St}{line:Int}{ce Cb Ce:List AVal}{vb ve:AVal}{E E':Env'}{x:Cs}{cb n0:Nat}{O:Nat→Prop}{H:AHeap}
  (hsz:(St.mk k s e body els line).size≤N) (A:ZkS E x cb n0 O H) (hx:XE (·<n0) H e ce)
  (y1:SlK (·<n0) H 9 vb body.length Cb) (y2:XSs (·<n0) H body Cb) (y3:SlK (·<n0) H 9 ve els.length Ce) (y4:XSs (·<n0) H els Ce) (hok:okS (.mk k s e body els line)=true) (hs:(St.mk k s e body els line).size≤1000) (hd:(St.mk k s e body els line).deep≤40)
  (hE:Scp E) (hck:ckS E (.mk k s e body els line)=.ok E') (hc1:x.code.length+3*(St.mk k s e body els line).size≤40000) (hc2:x.cons.length+(St.mk k s e body els line).size≤40000) (hc3:E.length+(St.mk k s e body els line).size≤40000) :
  ACalls Tryz.prog natT 90 [cellR cb 7 0,.agg (.int .u8 (k:Int)::.str s::(ce++[vb,ve,.int .i64 line]))] H fun _ H'=>∃O',ZkS (nextE E (.mk k s e body els line)) (cS E (.mk k s e body els line) x) cb n0 O' H'∧FrO O H O' H':=by
 obtain⟨hlf,hokE,hokB,hokL⟩:=okS_parts hok
 have hk5:=lineF_k hlf
 have hS:(St.mk k s e body els line).size=e.size+sizesS body+sizesS els+1:=rfl
 have hD:(St.mk k s e body els line).deep=max e.deep (max (deepsS body) (deepsS els))+1:=rfl
 obtain⟨t,hty,hhd,⟨Fb,hFb⟩,Fl,hFl⟩:=ckS_parts hck
 have hnx:=headS_next hhd
 obtain⟨c0,c1,c2,c3,rfl⟩:∃a b c d,ce=[a,b,c,d]:=by
  have:=hx.len
  match ce,this with
  | [a,b,c,d],_=>exact⟨a,b,c,d,rfl⟩
 have hcb:=A.lt
 have hON:=A.oN
 obtain⟨H1,m1,r1,n1,k1⟩:=row_newL H (.int .u8 (k:Int)::.str s::([c0,c1,c2,c3]++[vb,ve,.int .i64 line])) (n:=9) rfl
 have m1':oNew H [.int .u8 (k:Int),.str s,c0,c1,c2,c3,vb,ve,.int .i64 line]=(cellR H.next 9 0,H1):=m1
 have E1:Ext H.next H H1:=⟨om,fun c hc=>k1 c om⟩
 have A1:=A.exts E1
 have F01:FrO O H O H1:=FrO.exts E1
 obtain⟨eb,heb⟩:∃b,b=H.next:=⟨_,rfl⟩
 rw[← heb]at m1' r1 k1
 have ebR:∀{O2:Nat→Prop} {K:AHeap},FrO O H1 O2 K→Row K eb (.int .u8 (k:Int)::.str s::([c0,c1,c2,c3]++[vb,ve,.int .i64 line])):=fun F=>r1.same (F.old eb om fun q=>by have:=hON _ q; omega)
 have ebO:∀{O2:Nat→Prop} {K:AHeap},FrO O H1 O2 K→oLoad false 1 K (cellR eb 9 0)=some (.int .u8 (k:Int))∧oLoad false 1 K (cellR eb 9 1)=some (.str s)∧oLoad true 4 K (cellR eb 9 2)=some (.agg [c0,c1,c2,c3])∧oLoad false 1 K (cellR eb 9 6)=some vb∧oLoad false 1 K (cellR eb 9 7)=some ve:=fun F=>by
  have r:=ebR F
  refine⟨row_load r rfl rfl,row_load r rfl rfl,?_,row_load r rfl rfl,row_load r rfl rfl⟩
  have h:=rd_row r (n:=9) rfl (i:=2) (k:=4) (by simp)
  simp only[oLoad,cellR]
  rw[h]; rfl
 obtain⟨q0,q1,q2,q6,q7⟩:=ebO (FrO.refl O H1)
 have km:∀{O2:Nat→Prop} {K:AHeap},FrO O H1 O2 K→∀c,c<n0→c<n0∧K.get c=H.get c:=fun F c hc=>⟨hc,by rw[F.old c om (fun q=>by have:=hON c q; omega),E1.old c om]⟩
 obtain⟨l6,vd,l2,Ld⟩:oLoad false 1 H1 (cellR cb 7 6)=some (.int .i64 (E.length:Int))∧∃vd,oLoad false 1 H1 (cellR cb 7 2)=some vd∧LinM 4 H1 vd (codL x.code) x.code.length:=by
  obtain⟨vc,vd,vn,vk,vr,A1⟩:=A1
  exact⟨row_load A1.row rfl rfl,vd,row_load A1.row rfl rfl,A1.ld⟩
 have ldd:=Ld.len
 refine acalls_ofN rfl za90 rfl ?_
 simp only[c90,sA,sB,seval,cells_agg,m1',nil_cell,fld0,fldA,l6,l2,ldd,q2]
 refine (zexpr_spec hE om e.size rL A1 (hx.mono (km (FrO.refl O H1))) hokE hty om om ⟨om,om⟩ om).mono ?_
 rintro _ H2 ⟨O2,A2,F2⟩
 obtain⟨w1,w2,w3⟩:=cE_lim E e E.length x
 have w4:=cE_grow E e E.length x
 obtain⟨y,hy⟩:∃y,y=cE E e E.length x:=⟨_,rfl⟩
 rw[← hy]at A2 w1 w2 w3 w4
 have e2:=F2.next
 obtain⟨q0,q1,q2,q6,q7⟩:=ebO F2
 have nxE:k≠1→E'=E:=fun h=>by rw[hnx,if_neg h]
 simp only[sA,sB,seval,fld0,q0]
 rcases hk5 with rfl | rfl | rfl | rfl | rfl
 ·-- let
  have hcS:cS E (.mk 1 s e body els line) x=y:=by rw[hy]; rfl
  have hnn:nextE E (.mk 1 s e body els line)=E++[(s,t)]:=by
   have:tyOf E e=t:=by unfold tyOf; rw[hty]
   rw[← this]; rfl
  rw[hcS,hnn]
  obtain⟨vc1,vd1,vn1,vk1,vr1,A2⟩:=A2
  have hON2:=A2.oN
  have g3:oLoad false 1 H2 (cellR cb 7 3)=some vn1:=row_load A2.row rfl rfl
  have g4:oLoad false 1 H2 (cellR cb 7 4)=some vk1:=row_load A2.row rfl rfl
  simp only[sA,sB,seval,Int.cast_ofNat_Int,fldA,q2,nil_cell,g3,g4]
  refine (dofx_spec hE om ((hx.mono (km F2)).mono fun b hb=>⟨by have:=A2.oN _ A2.oc; omega,rfl⟩) (LinM.cel1 A2.ln A2.ln.blk).1 (LinM.cel1 A2.lk A2.lk.blk).1 om om).mono ?_
  rintro _ H3 ⟨rfl,E3⟩
  rw[hty]
  have e3:=E3.next
  have A3:=A2.keep E3.next fun c hc=>E3.old c (hON2 c hc).2
  have F3:=F2.trans (FrO.exts E3)
  obtain⟨q0,q1,q2,q6,q7⟩:=ebO F3
  obtain⟨Hr,hHr⟩:∃J,J=((H3.push (.cells [] 0 false)).push (.cells [] 0 false)).push (.cells [] 0 false):=⟨_,rfl⟩
  obtain⟨X2,vn',X3,X4,vk',X5,X6,vr',X7,X8,X9,X10,X11,fl1,a3,fl2,a5,fl3,a7,m8,m9,m10,l10,m11,⟨u1,u2⟩,⟨u3,u4,u5,u6⟩,⟨u7,u8,u9,u10,u11,u12⟩,ap1,ap2,ap3,ap4,kr,O8,A8,F8⟩:=zk_let A3 hHr s t om
  have qr1:oLoad false 1 Hr (cellR eb 9 1)=some (.str s):=row_load ((ebR F3).same (kr eb om)) rfl rfl
  have wn:IntKind.i64.wrap ((E.length:Int)+1)=((E.length+1:Nat):Int):=w64
  have apN:∀{x:AVal},(∀c,blkOf x=some c→H3.next+1≠c)→aPf .apart [.slice (some ⟨H3.next+1,1,0⟩) 1 (.known 1),x]=some (.bool true):=fun h=>apart_any (apB_blk _ h)
  have apM:∀{x:AVal},(∀c,blkOf x=some c→H3.next+2≠c)→aPf .apart [.slice (some ⟨H3.next+2,1,0⟩) 1 (.known 1),x]=some (.bool true):=fun h=>apart_any (apB_blk _ h)
  have cl:∀(i d:Nat) ,∀c,blkOf (cellR cb 7 i)=some c→H3.next+d≠c:=fun i d c hc=>by simp only[blkOf,cellR,sJ]at hc; omega
  have ce':∀(d:Nat),∀c,blkOf (cellR eb 9 1)=some c→H3.next+d≠c:=fun d c hc=>by simp only[blkOf,cellR,sJ]at hc; omega
  have sl:∀(i d:Nat),i≠d→∀c,blkOf (.slice (some ⟨H3.next+i,1,0⟩) 1 (.known 1))=some c→H3.next+d≠c:=fun i d hi c hc=>by simp only[blkOf,sJ]at hc; omega
  have p1:=apN (sl 0 1 dD)
  have p2:=apN (cl 3 1)
  have p3:=apN (ce' 1)
  have p4:=apN (cl 4 1)
  have p5:=apN (cl 5 1)
  have p6:=apN (x:=vn1) fun c hc=>by have:=ap1 c hc; omega
  have p7:=apN (x:=vn') fun c hc=>by have:=ap3 c hc; omega
  have s1:=apM (sl 0 2 dD)
  have s2:=apM (cl 3 2)
  have s3:=apM (ce' 2)
  have s4:=apM (cl 4 2)
  have s5:=apM (cl 5 2)
  have s6:=apM (x:=vn1) fun c hc=>by have:=ap1 c hc; omega
  have s7:=apM (x:=vn') fun c hc=>by have:=ap3 c hc; omega
  have s8:=apM (sl 1 2 dD)
  have s9:=apM (x:=vk1) fun c hc=>by have:=ap2 c hc; omega
  have s10:=apM (x:=vk') fun c hc=>by have:=ap4 c hc; omega
  simp only[Nat.add_zero]at p1 s1
  have aN:=LinM.aeq A3.ln
  have aK:=LinM.aeq A3.lk
  have aR:=LinM.aeq A3.lr
  simp only[sA,sB,seval,tyO,ext_0,ext_1]
  refine aw_drawN ?_
  simp only[claims,newOf,reserves,resO_0,clOp_fill,← hHr]
  simp only[sR,sA,sB,seval,nil_cell,fld0,fldA,u1,qr1,fl1,a3,u5,fl2,a5,u11,fl3,a7,m8,m9,m10]
  simp only[ck_nil',ck_cons,ckP_load,ckP_claim,ckP_nil,ck_end,and_true,true_and,List.map_cons,List.map_nil,sA,sB,seval,nil_cell,fld0,fldA]
  refine⟨⟨⟨_,rfl,fun _=>⟨_,u2,aN⟩⟩,⟨⟨_,rfl,fun _=>⟨_,u3,aK⟩⟩,⟨_,rfl,fun _=>⟨_,u4,aK⟩⟩,⟨_,rfl,fun _=>⟨_,u6,aK⟩⟩⟩,⟨_,rfl,fun _=>⟨_,u7,aR⟩⟩,⟨_,rfl,fun _=>⟨_,u8,aR⟩⟩,⟨_,rfl,fun _=>⟨_,u9,aR⟩⟩,⟨_,rfl,fun _=>⟨_,u10,aR⟩⟩,⟨_,rfl,fun _=>⟨_,u12,aR⟩⟩⟩,?_⟩
  simp only[sA,sB,seval,p1,p2,p3,p4,p5,p6,p7,s1,s2,s3,s4,s5,s6,s7,s8,s9,s10,nil_cell,fldA,l10,wn,m11]
  exact⟨_,rfl,O8,A8,F01.trans (F3.trans F8)⟩
 ·have hEE:=nxE dD
  subst hEE
  have hcS:cS E' (.mk 2 s e body els line) x=y.put 2 (regOf s E') E'.length 0:=by rw[hy]; rfl
  have hnn:nextE E' (.mk 2 s e body els line)=E':=rfl
  rw[hcS,hnn]
  obtain⟨i,hi1⟩:∃i,firstI s E'=some i:=by
   cases hf:firstI s E' with
   | some i=>exact⟨i,rfl⟩
   | none=>simp[headS,hf]at hhd
  have hreg:regOf s E'=i:=by unfold regOf; rw[hi1]; rfl
  rw[hreg]
  simp only[sA,sB,seval,Int.cast_ofNat_Int,fldA,q1]
  refine (zreg_spec hE A2 hi1 om).mono ?_
  rintro _ _ ⟨rfl,rfl⟩
  simp only[sA,sB,seval]
  refine (zput_spec A2 2 i E'.length 0 om).mono ?_
  rintro _ H3 ⟨rfl,O3,A3,F3⟩
  simp only[sA,sB,seval]
  exact⟨_,rfl,O3,A3,F01.trans (F2.trans F3)⟩
 ·have hEE:=nxE dD
  subst hEE
  have hcS:cS E' (.mk 3 s e body els line) x=(if els.length=0 then (cL E' body (y.put 33 E'.length 0 0)).land y.code.length else if retL body then cL E' els ((cL E' body (y.put 33 E'.length 0 0)).land y.code.length)
   else (cL E' els (((cL E' body (y.put 33 E'.length 0 0)).put 32 0 0 0).land y.code.length)).land (cL E' body (y.put 33 E'.length 0 0)).code.length):=by rw[hy]; rfl
  have hnn:nextE E' (.mk 3 s e body els line)=E':=rfl
  rw[hcS,hnn]
  simp only[sA,sB,seval,Int.cast_ofNat_Int]
  refine (zput_spec A2 33 E'.length 0 0 om).mono ?_
  rintro _ H3 ⟨rfl,O3,A3,F3⟩
  have F13:=F2.trans F3
  have e3:=F3.next
  obtain⟨p1,p2⟩:=put_ln 33 E'.length 0 0 y
  obtain⟨q0,q1,q2,q6,q7⟩:=ebO F13
  simp only[sA,sB,seval,fldA,q6]
  refine (ih (sizesS body) om rL A3 (y1.mono (km F13)) (y2.mono (km F13)) hokB om om hE hFb om (by rw[p2]; omega) om).mono ?_
  rintro _ H4 ⟨O4,A4,F4⟩
  have F14:=F13.trans F4
  have e4:=F4.next
  obtain⟨b1,b2,b3⟩:=cL_lim E' body (y.put 33 E'.length 0 0)
  have b4:=cL_grow E' body (y.put 33 E'.length 0 0)
  obtain⟨z,hz⟩:∃z,z=cL E' body (y.put 33 E'.length 0 0):=⟨_,rfl⟩
  rw[← hz]at A4 b1 b2 b3 b4 ⊢
  rw[p1]at b1 b4
  rw[p2]at b2
  have lel:=(y3.mono (km F14)).len
  obtain⟨q0,q1,q2,q6,q7⟩:=ebO F14
  have hcl0:(0:Int)≤(y.code.length:Int):=om
  by_cases h0:els.length=0
  ·have h0':¬(0:Int)<(els.length:Int):=om
   simp only[sA,sB,seval,fldA,q7,lel,h0',hcl0]
   rw[if_pos h0]
   refine (zland_spec A4 om).mono ?_
   rintro _ H5 ⟨A5,n5,k5⟩
   simp only[sA,sB,seval]
   exact⟨_,rfl,O4,A5,F01.trans (F14.trans (.same n5 k5))⟩
  ·have h0':(0:Int)<(els.length:Int):=om
   rw[if_neg h0]
   simp only[sA,sB,seval,fldA,q7,lel,h0',q6]
   have kmN:∀b,b<n0→b<H4.next∧H4.get b=H.get b:=fun b hb=>⟨by have:=A4.lt; omega,(km F14 b hb).2⟩
   refine (zreturns_spec (sizesS body) rL om (y1.mono kmN) (y2.mono kmN)).mono ?_
   rintro _ H5 ⟨rfl,E5⟩
   have e5:=E5.next
   have A5:=A4.exts E5
   have F15:=F14.trans (FrO.exts E5)
   obtain⟨z1,z2⟩:=land_len y.code.length z
   cases hr:retL body with
   | true=>
    rw[if_pos rfl]
    simp only[sA,sB,seval]
    refine (zland_spec A5 om).mono ?_
    rintro _ H6 ⟨A6,n6,k6⟩
    have F16:=F15.trans (.same n6 k6)
    obtain⟨q0,q1,q2,q6,q7⟩:=ebO F16
    have hm1:¬(0:Int)≤-1:=om
    simp only[sA,sB,seval,fldA,q7]
    refine (ih (sizesS els) om rL A6 (y3.mono (km F16)) (y4.mono (km F16)) hokL om om hE hFl om (by rw[z2]; omega) om).mono ?_
    rintro _ H7 ⟨O7,A7,F7⟩
    simp only[sA,sB,seval,hm1]
    exact⟨_,rfl,O7,A7,F01.trans (F16.trans F7)⟩
   | false=>
    rw[if_neg (by simp)]
    simp only[sA,sB,seval]
    refine (zput_spec A5 32 0 0 0 om).mono ?_
    rintro _ H6 ⟨rfl,O6,A6,F6⟩
    obtain⟨v1,v2⟩:=put_ln 32 0 0 0 z
    have F16:=F15.trans F6
    simp only[sA,sB,seval]
    refine (zland_spec A6 om).mono ?_
    rintro _ H7 ⟨A7,n7,k7⟩
    have F17:=F16.trans (.same n7 k7)
    obtain⟨q0,q1,q2,q6,q7⟩:=ebO F17
    obtain⟨u1,u2⟩:=land_len y.code.length (z.put 32 0 0 0)
    have hzl0:(0:Int)≤(z.code.length:Int):=om
    simp only[sA,sB,seval,fldA,q7]
    refine (ih (sizesS els) om rL A7 (y3.mono (km F17)) (y4.mono (km F17)) hokL om om hE hFl om (by rw[u2,v2]; omega) om).mono ?_
    rintro _ H8 ⟨O8,A8,F8⟩
    have gr:=cL_grow E' els ((z.put 32 0 0 0).land y.code.length)
    simp only[sA,sB,seval,hzl0]
    refine (zland_spec A8 om).mono ?_
    rintro _ H9 ⟨A9,n9,k9⟩
    simp only[sA,sB,seval]
    exact⟨_,rfl,O8,A9,F01.trans (F17.trans (F8.trans (.same n9 k9)))⟩
 ·have hEE:=nxE dD
  subst hEE
  have hcS:cS E' (.mk 4 s e body els line) x=((cL E' body (y.put 33 E'.length 0 0)).put 32 0 0 x.code.length).land y.code.length:=by rw[hy]; rfl
  have hnn:nextE E' (.mk 4 s e body els line)=E':=rfl
  rw[hcS,hnn]
  simp only[sA,sB,seval,Int.cast_ofNat_Int]
  refine (zput_spec A2 33 E'.length 0 0 om).mono ?_
  rintro _ H3 ⟨rfl,O3,A3,F3⟩
  have F13:=F2.trans F3
  obtain⟨p1,p2⟩:=put_ln 33 E'.length 0 0 y
  obtain⟨q0,q1,q2,q6,q7⟩:=ebO F13
  simp only[sA,sB,seval,fldA,q6]
  refine (ih (sizesS body) om rL A3 (y1.mono (km F13)) (y2.mono (km F13)) hokB om om hE hFb om (by rw[p2]; omega) om).mono ?_
  rintro _ H4 ⟨O4,A4,F4⟩
  have F14:=F13.trans F4
  obtain⟨b1,b2,b3⟩:=cL_lim E' body (y.put 33 E'.length 0 0)
  have b4:=cL_grow E' body (y.put 33 E'.length 0 0)
  obtain⟨z,hz⟩:∃z,z=cL E' body (y.put 33 E'.length 0 0):=⟨_,rfl⟩
  rw[← hz]at A4 b1 b2 b3 b4 ⊢
  rw[p1]at b1 b4
  simp only[sA,sB,seval]
  refine (zput_spec A4 32 0 0 x.code.length om).mono ?_
  rintro _ H5 ⟨rfl,O5,A5,F5⟩
  obtain⟨v1,v2⟩:=put_ln 32 0 0 x.code.length z
  simp only[sA,sB,seval]
  refine (zland_spec A5 om).mono ?_
  rintro _ H6 ⟨A6,n6,k6⟩
  simp only[sA,sB,seval]
  exact⟨_,rfl,O5,A6,F01.trans (F14.trans (F5.trans (.same n6 k6)))⟩
 ·have hEE:=nxE dD
  subst hEE
  have hcS:cS E' (.mk 5 s e body els line) x=y.put 34 E'.length 0 0:=by rw[hy]; rfl
  have hnn:nextE E' (.mk 5 s e body els line)=E':=rfl
  rw[hcS,hnn]
  simp only[sA,sB,seval,Int.cast_ofNat_Int]
  refine (zput_spec A2 34 E'.length 0 0 om).mono ?_
  rintro _ H3 ⟨rfl,O3,A3,F3⟩
  simp only[sA,sB,seval]
  exact⟨_,rfl,O3,A3,F01.trans (F2.trans F3)⟩
theorem zss_step{N:Nat}(ih:∀M,M<N→ZL M){l:List St}{C:List AVal}{v:AVal}{E F:Env'}{b:Bool}{x:Cs}{cb n0:Nat}{O:Nat→Prop}{H:AHeap}(hsz:sizesS l≤N)(A:ZkS E x cb n0 O H)(z1:SlK (·<n0) H 9 v l.length C)(z2:XSs (·<n0) H l C)(hok:oksS l=true)(hs:sizesS l≤1000)(hd:deepsS l≤40)(hE:Scp E)(hck:ckL E b l=.ok F)
  (hc1:x.code.length+3*sizesS l≤40000) (hc2:x.cons.length+sizesS l≤40000) (hc3:E.length+sizesS l≤40000):ACalls Tryz.prog natT 47 [cellR cb 7 0,v] H fun _ H'=>∃O',ZkS (endE E l) (cL E l x) cb n0 O' H'∧FrO O H O' H':=by
 have ln:=z1.len
 have hcb:=A.lt
 have hON:=A.oN
 have hlenl:=len_sizesS l
 refine acalls_ofN rfl za47 rfl ?_
 simp only[c47,sA,sB,seval]
 refine aw_loop (fun m (T:Env) K=>∃(i:Nat) (Ei:Env') (xi:Cs) (Oi:Nat→Prop),m=l.length-i∧i≤l.length∧T 0=cellR cb 7 0∧T 1=v∧T 4=.int .i64 (i:Int)∧ZkS Ei xi cb n0 Oi K∧FrO O H Oi K∧endE E l=endE Ei (l.drop i)∧Scp Ei ∧
   cL E l x=cL Ei (l.drop i) xi∧(∃b' F',ckL Ei b' (l.drop i)=.ok F')∧xi.code.length+3*sizesS (l.drop i)≤40000∧xi.cons.length+sizesS (l.drop i)≤40000∧Ei.length+sizesS (l.drop i)≤40000) l.length
  ⟨0,E,x,O,rfl,Nat.zero_le _,by simp only[sA,sB,seval]; try rfl,by simp only[sA,sB,seval]; try rfl,by simp only[sA,sB,seval]; try rfl,A,FrO.refl _ _,rfl,hE,rfl,⟨b,F,hck⟩,hc1,hc2,hc3⟩ ?_
 rintro m T K ⟨i,Ei,xi,Oi,rfl,hi,t0,t1,t4,AK,FK,hen,hEi,hcl,⟨b',F',hckK⟩,hd1,hd2,hd3⟩
 by_cases hlt:i<l.length
 case neg=>
  obtain rfl:i=l.length:=om
  have hlt':¬(l.length:Int)<(l.length:Int):=om
  rw[List.drop_length]at hcl hen
  simp only[sA,sB,seval,t0,t1,t4,ln,hlt']
  refine⟨_,rfl,Oi,?_,FK⟩
  rw[hcl,hen]; exact AK
 have hlt':(i:Int)<(l.length:Int):=om
 obtain⟨y,he⟩:∃e,l[i]?=some e:=⟨_,List.getElem?_eq_getElem hlt⟩
 have hdrop:l.drop i=y::l.drop (i+1):=by
  rw[← (List.getElem?_eq_some_iff.1 he).2,← List.drop_eq_getElem_cons hlt]
 rw[hdrop]at hcl hckK hd1 hd2 hd3 hen
 obtain⟨hcy,b2,hck2⟩:=ckL_cons hckK
 have hmem:=List.mem_of_getElem? he
 have hsm:=size_memS hmem
 have hdm:=deepsS_mem hmem
 have low:∀c,c<n0→c<n0∧K.get c=H.get c:=fun c hc=>⟨hc,FK.old c om fun q=>by have:=hON c q; omega⟩
 have z1K:=z1.mono low
 have z2K:=z2.mono low
 have ix:=z1K.idx hlt
 have ld:=z1K.load hlt
 have hx3:=z2K.at he
 have hokx:=okS_at hok hmem
 have wi:IntKind.i64.wrap ((i:Int)+1)=((i+1:Nat):Int):=addN i 1 om
 have hscp:=ckS_scp hEi hcy
 have hnl:=nextE_len Ei y
 have hlim:=cS_lim Ei y xi
 have hpos:=sizeS_pos y
 simp only[sizesS]at hd1 hd2 hd3
 obtain⟨k,sx,e,body,els,line⟩:=y
 obtain⟨ce,vb,Cb,ve,Ce,hcell,x1,y1,y2,y3,y4⟩:=hx3
 rw[hcell]at ld
 have hst:=zst_step (ce:=ce) (vb:=vb) (ve:=ve) (Cb:=Cb) (Ce:=Ce) ih om AK x1 y1 y2 y3 y4 hokx om om hEi hcy om om om
 obtain⟨cc,hcc⟩:∃cc,cc=AVal.int .u8 (k:Int)::.str sx::(ce++[vb,ve,.int .i64 line]):=⟨_,rfl⟩
 rw[← hcc]at ld hst
 simp only[sA,sB,seval,t0,t1,t4,ln,hlt',ix,ld]
 refine hst.mono ?_
 rintro _ K2 ⟨O2,A2,F2⟩
 simp only[sA,sB,seval,t0,t1,t4,wi]
 exact⟨l.length-(i+1),om,i+1,nextE Ei (.mk k sx e body els line),cS Ei (.mk k sx e body els line) xi,O2,rfl,om,tt,tt,tt,A2,FK.trans F2,hen,hscp,hcl,⟨b2,F',hck2⟩,om,om,om⟩
theorem zl_step{N:Nat}(ih:∀M,M<N→ZL M):ZL N:=by
 intro l C v E F b x cb n0 O H hsz A z1 z2 hok hs hd hE hck hc1 hc2 hc3
 obtain⟨vn,l3,Ln,l6⟩:∃vn,oLoad false 1 H (cellR cb 7 3)=some vn∧LinM 1 H vn (nmL E) E.length∧oLoad false 1 H (cellR cb 7 6)=some (.int .i64 (E.length:Int)):=by
  obtain⟨vc,vd,vn,vk,vr,A⟩:=A
  exact⟨vn,row_load A.row rfl rfl,A.ln,row_load A.row rfl rfl⟩
 have lnn:=Ln.len
 refine acalls_ofN rfl za141 rfl ?_
 simp only[c141,sA,sB,seval,nil_cell,fldA,l3,lnn,l6]
 refine (zss_step ih hsz A z1 z2 hok hs hd hE hck hc1 hc2 hc3).mono ?_
 rintro _ K ⟨O2,AK,FK⟩
 obtain⟨vc1,vd1,vn1,vk1,vr1,AK⟩:=AK
 have g3:oLoad false 1 K (cellR cb 7 3)=some vn1:=row_load AK.row rfl rfl
 have g4:oLoad false 1 K (cellR cb 7 4)=some vk1:=row_load AK.row rfl rfl
 have g5:oLoad false 1 K (cellR cb 7 5)=some vr1:=row_load AK.row rfl rfl
 obtain⟨vn',vk',vr',H1,H2,H3,H4,s1,s2,s3,m1,m2,m3,m4,A4,F4⟩:=zk_cut AK (by rw[endE_take l E rL,List.take_length]) (endE_len l E)
 simp only[sA,sB,seval,nil_cell,fldA,g3,s1,g4,s2,g5,s3,m1,m2,m3,m4]
 exact⟨_,rfl,O2,A4,FK.trans F4⟩
theorem zl_all(N:Nat):ZL N:=by
 induction N using Nat.strongRecOn with
 | _ N ih=>exact zl_step ih
open Go.Abs Go.Abs.S
theorem zcompile_spec{l:List St}{C:List AVal}{v:AVal}{n0:Nat}{H:AHeap}(z1:SlK (·<n0) H 9 v l.length C)(z2:XSs (·<n0) H l C)(hn:n0≤H.next)(hsz0:sizesS l≤1000000) :
  ACalls Tryz.prog natT 21 [v] H fun u H'=>(∃vc vd,u=.tuple [CdA (compileF l).1 vc vd,.agg (flI (compileF l).2)]∧CdR (compileF l).1 vc vd (In H.next H'.next) H')∧Ext H.next H H':=by
 refine acalls_ofN rfl za21 rfl ?_
 obtain⟨H1,m1,r1,n1,k1⟩:=row_newL H [nilS,.int .i64 0,nilS] (n:=3) rfl
 obtain⟨H2,m2,r2,n2,k2⟩:=row_newL H1 [.int .i64 0,.int .i64 0] (n:=2) rfl
 have k02:∀c,c<H.next→H2.get c=H.get c:=fun c hc=>by rw[k2 c om,k1 c om]
 have km:∀{K:AHeap},(∀c,c<H.next→K.get c=H.get c)→∀c,c<n0→c<H.next∧K.get c=H.get c:=fun h c hc=>⟨om,h c om⟩
 obtain⟨ab,hab⟩:∃b,b=H.next:=⟨_,rfl⟩
 obtain⟨fb,hfb⟩:∃b,b=H1.next:=⟨_,rfl⟩
 rw[← hab]at m1 r1 k1
 rw[← hfb]at m2 r2 k2
 have m1':oNew H [.slice none 0 (.known 0),.int .i64 0,.slice none 0 (.known 0)]=_:=m1
 simp only[c21,sA,sB,seval,m1',m2]
 have km2:∀c,c<n0→c<H2.next∧H2.get c=H.get c:=fun c hc=>⟨om,k02 c om⟩
 refine (dcheck_spec (z1.mono km2) (z2.mono km2) hsz0).mono ?_
 rintro _ H3 ⟨rfl,E3⟩
 have e3:=E3.next
 obtain⟨H4,m4,r4,n4,k4⟩:=row_newL H3 [.int .i64 0,.int .i64 0] (n:=2) rfl
 obtain⟨H5,m5,r5,n5,k5⟩:=row_storeN r4 (n:=2) rfl (xs:=flI (checkF l)) rfl rfl
 have k05:∀c,c<H.next→H5.get c=H.get c:=fun c hc=>by rw[k5 c om,k4 c om,E3.old c om,k02 c hc]
 have rA:Row H5 ab [nilS,.int .i64 0,nilS]:=r1.same (by rw[k5 ab om,k4 ab om,E3.old ab om,k2 ab om])
 have rF:Row H5 fb [.int .i64 0,.int .i64 0]:=r2.same (by rw[k5 fb om,k4 fb om,E3.old fb om])
 have l5:oLoad false 1 H5 (cellR H3.next 2 0)=some (.int .i64 ((checkF l).1:Int)):=row_load r5 rfl rfl
 simp only[sA,sB,seval,m4,m5,fld0,l5]
 unfold compileF
 by_cases hc:(checkF l).1=0
 case neg=>
  have hc':¬((checkF l).1:Int)=0:=om
  obtain⟨H6,m6,r6,n6,k6⟩:=row_storeN rA (n:=3) rfl (xs:=[nilS,.int .i64 0,nilS]) rfl rfl
  obtain⟨H7,m7,r7,n7,k7⟩:=row_storeN (rF.same (k6 fb om)) (n:=2) rfl (xs:=flI (checkF l)) rfl rfl
  have l5a:oLoad true 2 H5 (cellR H3.next 2 0)=some (.agg (flI (checkF l))):=row_loadN r5 rfl
  have l6a:oLoad true 2 H6 (cellR H3.next 2 0)=some (.agg (flI (checkF l))):=row_loadN (r5.same (k6 _ om)) rfl
  have bz:aBuild [.slice none 0 (.known 0),.int .i64 0,.slice none 0 (.known 0)] []=some (.agg [nilS,.int .i64 0,nilS]):=rfl
  rw[if_neg hc]
  simp only[sA,sB,seval,hc']
  refine aw_drawC rfl ?_
  simp only[sR,sA,sB,seval,bz,l5a,m6,m7]
  simp only[ck_nil',ck_cons,ckP_load,ckP_nil,ck_end,and_true,true_and,List.map_cons,List.map_nil,sA,sB,seval]
  refine⟨⟨_,rfl,fun _=>⟨_,l6a,by simp[aeq,flI,aeqs,eqF_eq]⟩⟩,?_⟩
  refine fin_c2 _ _ _ _ _ _ _ (v:=.agg [nilS,.int .i64 0,nilS]) (v':=.agg (flI (checkF l))) (by simp only[sA,sB,seval]; exact row_loadN (r6.same (k7 ab om)) rfl) (by simp only[sA,sB,seval]; exact row_loadN r7 rfl) ?_
  exact⟨⟨nilS,nilS,rfl,CdR.nil _ _⟩,om,fun c hcc=>by rw[k7 c om,k6 c om,k05 c om]⟩
 obtain⟨hc0,hr,hret,F,hck⟩:=checkF_0 hc
 have hok:oksS l=true:=by simp only[rightF,Bool.and_eq_true]at hr; exact hr.1
 have hfit:sizesS l≤1000∧deepsS l≤40:=by simp only[rightF,fitsF,Bool.and_eq_true,decide_eq_true_eq]at hr; exact hr.2
 have hc':((checkF l).1:Int)=0:=om
 have bt:aBuild [.slice none 0 (.known 0),.int .i64 0,.slice none 0 (.known 0)] [(1,1,.int .i64 4)]=some (.agg [nilS,.int .i64 4,nilS]):=rfl
 rw[if_pos hc]
 obtain⟨H8,hH8⟩:∃J,J=H5.push (.cells (nmL given4) 0 false):=⟨_,rfl⟩
 have n8:H8.next=H5.next+1:=by rw[hH8]; rfl
 obtain⟨H9,hH9⟩:∃J,J=H8.push (.cells (kdL given4) 0 false):=⟨_,rfl⟩
 have n9:H9.next=H8.next+1:=by rw[hH9]; rfl
 obtain⟨Hg,hHg⟩:∃J,J=H9.push (.cells (rgL 4) 0 false):=⟨_,rfl⟩
 have ng:Hg.next=H9.next+1:=by rw[hHg]; rfl
 have b8:aBuildSl 4 [.str []] H5 [(0,1,.str [117]),(1,1,.str [118]),(2,1,.str [112]),(3,1,.str [110])]=some (.slice (some ⟨H5.next,4,0⟩) 4 (.known 4),H8):=by rw[hH8]; rfl
 have b9:aBuildSl 4 [.int .u8 0] H8 [(0,1,.int .u8 1),(1,1,.int .u8 1),(2,1,.int .u8 2),(3,1,.int .u8 2)]=some (.slice (some ⟨H8.next,4,0⟩) 4 (.known 4),H9):=by rw[hH9]; rfl
 have bg:aBuildSl 4 [.int .i64 0] H9 [(0,1,.int .i64 0),(1,1,.int .i64 1),(2,1,.int .i64 2),(3,1,.int .i64 3)]=some (.slice (some ⟨H9.next,4,0⟩) 4 (.known 4),Hg):=by rw[hHg]; rfl
 have L8:LinM 1 H8 (.slice (some ⟨H5.next,4,0⟩) 4 (.known 4)) (nmL given4) 4:=by rw[hH8]; exact LinM.built (m:=1) (k:=4) H5 (xs:=nmL given4) rfl
 have L9:LinM 1 H9 (.slice (some ⟨H8.next,4,0⟩) 4 (.known 4)) (kdL given4) 4:=by rw[hH9]; exact LinM.built (m:=1) (k:=4) H8 (xs:=kdL given4) rfl
 have Lg:LinM 1 Hg (.slice (some ⟨H9.next,4,0⟩) 4 (.known 4)) (rgL 4) 4:=by rw[hHg]; exact LinM.built (m:=1) (k:=4) H9 (xs:=rgL 4) rfl
 obtain⟨H10,m10,r10,n10,k10⟩:=row_newL Hg [nilS,.int .i64 4,nilS,.slice (some ⟨H5.next,4,0⟩) 4 (.known 4),.slice (some ⟨H8.next,4,0⟩) 4 (.known 4),.slice (some ⟨H9.next,4,0⟩) 4 (.known 4),.int .i64 4] (n:=7) rfl
 have bb:aBuild [.slice none 0 (.known 0),.int .i64 0,.slice none 0 (.known 0),.slice none 0 (.known 0),.slice none 0 (.known 0),.slice none 0 (.known 0),.int .i64 0] [(0,3,.agg [nilS,.int .i64 4,nilS]),(3,1,.slice (some ⟨H5.next,4,0⟩) 4 (.known 4)),(4,1,.slice (some ⟨H8.next,4,0⟩) 4 (.known 4)),(5,1,.slice (some ⟨H9.next,4,0⟩) 4 (.known 4)),(6,1,.int .i64 4)] =
  some (.agg [nilS,.int .i64 4,nilS,.slice (some ⟨H5.next,4,0⟩) 4 (.known 4),.slice (some ⟨H8.next,4,0⟩) 4 (.known 4),.slice (some ⟨H9.next,4,0⟩) 4 (.known 4),.int .i64 4]):=rfl
 have bN:Blk (.slice (some ⟨H5.next,4,0⟩) 4 (.known 4)) (·=H5.next):=blk_some rfl
 have bK:Blk (.slice (some ⟨H8.next,4,0⟩) 4 (.known 4)) (·=H8.next):=blk_some rfl
 have bR:Blk (.slice (some ⟨H9.next,4,0⟩) 4 (.known 4)) (·=H9.next):=blk_some rfl
 have ob:∀c,H5.next≤c→c<H10.next→c≠Hg.next→(H5.next≤c∧c<H10.next)∧c≠Hg.next:=fun c a1 a2 a3=>⟨⟨a1,a2⟩,a3⟩
 have k05':∀c,c<H5.next→H10.get c=H5.get c:=fun c hc=>by rw[k10 c om,hHg,get_push_lt om,hH9,get_push_lt om,hH8,get_push_lt hc]
 have A10:ZkS given4 cs0 Hg.next H.next (fun c=>H5.next≤c∧c<H10.next) H10:=
  ⟨nilS,nilS,_,_,_,r10,.inl ⟨rfl,rfl,rfl⟩,.inl ⟨rfl,rfl,rfl⟩,L8.same om (bN.mono fun c hc=>by show H10.get c=H8.get c; rw[k10 c om,hHg,get_push_lt om,hH9,get_push_lt om]),L9.same om (bK.mono fun c hc=>by show H10.get c=H9.get c; rw[k10 c om,hHg,get_push_lt om]),Lg.same om (bR.mono fun c hc=>k10 c om),
   ⟨om,om⟩,fun c hc=>om,blk_nil _,blk_nil _,bN.mono fun c hc=>ob c om om om,bK.mono fun c hc=>ob c om om om,bR.mono fun c hc=>ob c om om om,blk_nil _,blk_nil _,blk_nil _,blk_nil _,blk_nil _,blk_nil _,blk_nil _,
   bN.mono fun c hc=>bK.mono fun d hd=>om,bN.mono fun c hc=>bR.mono fun d hd=>om,bK.mono fun c hc=>bR.mono fun d hd=>om⟩
 have k0A:∀c,c<H.next→H10.get c=H.get c:=fun c hc=>by rw[k05' c om,k05 c hc]
 simp only[sA,sB,seval,hc',bt,b8,b9,bg,bb,cells_agg,m10]
 refine (zss_step (fun M _=>zl_all M) (Nat.le_refl (sizesS l)) A10 (z1.mono (km k0A)) (z2.mono (km k0A)) hok hfit.1 hfit.2 Scp.given hck (by show 0+_≤_; omega) (by show 0+_≤_; omega) (by show 4+_≤_; omega)).mono ?_
 rintro _ H11 ⟨O11,A11,F11⟩
 have n11:=F11.next
 have kOld:∀c,c<H5.next→H11.get c=H5.get c:=fun c hc=>by rw[F11.old c om (by show ¬(H5.next≤c∧c<H10.next); omega),k05' c hc]
 obtain⟨vc,vd,vn,vk,vr,A11⟩:=A11
 have lr:oLoad false 1 H11 (cellR Hg.next 7 1)=some (.int .i64 ((cL given4 l cs0).regs:Int)):=row_load A11.row rfl rfl
 have rA11:=rA.same (kOld ab om)
 have rF11:=rF.same (kOld fb om)
 simp only[sA,sB,seval,nil_cell,fld0,fldA,lr]
 by_cases h250:250<(cL given4 l cs0).regs
 ·have h250':(250:Int)<((cL given4 l cs0).regs:Int):=om
  have bz:aBuild [.slice none 0 (.known 0),.int .i64 0,.slice none 0 (.known 0)] []=some (.agg [nilS,.int .i64 0,nilS]):=rfl
  have bf:aBuild [.int .i64 0,.int .i64 0] [(0,1,.int .i64 102)]=some (.agg [.int .i64 102,.int .i64 0]):=rfl
  obtain⟨H12,m12,r12,n12,k12⟩:=row_storeN rA11 (n:=3) rfl (xs:=[nilS,.int .i64 0,nilS]) rfl rfl
  obtain⟨H13,m13,r13,n13,k13⟩:=row_storeN (rF11.same (k12 fb om)) (n:=2) rfl (xs:=[.int .i64 102,.int .i64 0]) rfl rfl
  rw[if_pos h250]
  simp only[sA,sB,seval,h250',bz,bf,m12,m13]
  refine fin_c2 _ _ _ _ _ _ _ (v:=.agg [nilS,.int .i64 0,nilS]) (v':=.agg [.int .i64 102,.int .i64 0]) (by simp only[sA,sB,seval]; exact row_loadN (r12.same (k13 ab om)) rfl) (by simp only[sA,sB,seval]; exact row_loadN r13 rfl) ?_
  exact⟨⟨nilS,nilS,rfl,CdR.nil _ _⟩,om,fun c hcc=>by rw[k13 c om,k12 c om,kOld c om,k05 c om]⟩
 ·have h250':¬(250:Int)<((cL given4 l cs0).regs:Int):=om
  have l3:oLoad true 3 H11 (cellR Hg.next 7 0)=some (CdA (cL given4 l cs0) vc vd):=by
   have h:=rd_row A11.row (n:=7) rfl (i:=0) (k:=3) (by simp)
   simp only[oLoad,cellR]
   rw[h]; rfl
  have bf:aBuild [.int .i64 0,.int .i64 0] []=some (.agg [.int .i64 0,.int .i64 0]):=rfl
  obtain⟨H12,m12,r12,n12,k12⟩:=row_storeN rA11 (n:=3) rfl (xs:=[vc,.int .i64 ((cL given4 l cs0).regs:Int),vd]) rfl (by simp only[List.all_cons,List.all_nil,A11.lc.one,A11.ld.one]; rfl)
  obtain⟨H13,m13,r13,n13,k13⟩:=row_storeN (rF11.same (k12 fb om)) (n:=2) rfl (xs:=[.int .i64 0,.int .i64 0]) rfl rfl
  have m12':oStore 3 H11 (cellR ab 3 0) (CdA (cL given4 l cs0) vc vd)=some H12:=m12
  have kk:∀c,c≠ab→c≠fb→H13.get c=H11.get c:=fun c h1 h2=>by rw[k13 c h2,k12 c h1]
  have bIn:∀{w:AVal},Blk w (fun b=>O11 b∧b≠Hg.next)→Blk w fun c=>In H.next H13.next c∧c≠ab∧c≠fb:=fun h=>h.mono fun c hc=>by
   have q1:=A11.oN c hc.1
   have q2:=F11.own c hc.1
   have q3:H5.next≤c:=by
    rcases q2 with q2 | q2
    ·exact q2.1
    ·omega
   exact⟨⟨q1.1,om⟩,om,om⟩
  rw[if_neg h250]
  simp only[sA,sB,seval,h250',l3,bf,m12',m13]
  refine fin_c2 _ _ _ _ _ _ _ (v:=CdA (cL given4 l cs0) vc vd) (v':=.agg [.int .i64 0,.int .i64 0]) (by simp only[sA,sB,seval]; exact row_loadN (r12.same (k13 ab om)) rfl) (by simp only[sA,sB,seval]; exact row_loadN r13 rfl) ?_
  have i1:=bIn A11.bc
  have i2:=bIn A11.bd
  exact⟨⟨vc,vd,rfl,⟨A11.lc.same om (i1.mono fun c hc=>kk c hc.2.1 hc.2.2),A11.ld.same om (i2.mono fun c hc=>kk c hc.2.1 hc.2.2),i1.mono fun c hc=>hc.1,i2.mono fun c hc=>hc.1,A11.cd⟩⟩,om,fun c hcc=>by rw[kk c om om,kOld c om,k05 c om]⟩
open Go.Abs Go.Abs.S
noncomputable section
def c5:AFn:=⟨67,zq [zo 4 (.box (.t 1)),zo 5 (.box (.t 2)),zo 6 (.mv (.c (.bool false)))] (zr [zm 12 0,zx 13 7 [.t 12,zi 100,zi 1500],zm 14 13,zg 15 (.fieldA 2 (.t 4)) 14 false,zg 16 (.load false 1 (.t 15)) 14 false,zg 17 (.len false (.t 16)) 14 false,zg 18 (.fieldA 0 (.t 4)) 14 false,zg 19 (.load false 1 (.t 18)) 14 false,zg 20 (.len false (.t 19)) 14 false,zg 21 (.bin .add (.t 17) (.t 20)) 14 false,zg 22 (.bin .gtr (.t 21) (zi 5000)) 14 false,zo 23 (.pick (.t 14) (.c (.bool true)) (.t 22))] 23 (zq [zx 24 19 [],zm 6 24] .ret) .skip (zq [zm 25 0,zx 26 11 [.t 25],zm 7 26] (zq [zm 28 7,zx 29 20 [.t 28],zm 27 29,ze 30 0 27,ze 31 1 27,zo 8 (.new [zN,zI 0,zN]),zo 9 (.new [zI 0,zI 0]),zp (.store 3 (.t 8) (.t 30)),zp (.store 2 (.t 9) (.t 31))] (zq [zm 33 0,zx 34 21 [.t 33],zm 32 34,ze 35 0 32,ze 36 1 32,zo 10 (.new [zN,zI 0,zN]),zo 11 (.new [zI 0,zI 0]),zp (.store 3 (.t 10) (.t 35)),zp (.store 2 (.t 11) (.t 36))] (.seq (.draw [zt 37 3 8,zt 38 3 10,zx 39 22 [.t 37,.t 38],zm 40 39,zg 41 (.load true 2 (.t 9)) 40 true,zg 42 (.load true 2 (.t 11)) 40 true,zg 43 (.pf (.eqS false [(0,.int),(1,.int)]) [.t 41,.t 42]) 40 true,zo 44 (.pick (.t 40) (.t 43) (.c (.bool false))),zm 45 44,zg 46 (.load true 3 (.t 4)) 45 true,zg 47 (.call 23 [.t 46]) 45 true,zg 48 (.load true 3 (.t 4)) 45 true,zg 49 (.call 24 [.t 48]) 45 true,zg 50 (.bin .eql (.t 47) (.t 49)) 45 true,zo 51 (.pick (.t 45) (.t 50) (.c (.bool false))),zm 52 51,zg 53 (.load true 4 (.t 5)) 52 true,zg 54 (.call 25 [.t 53]) 52 true,zg 55 (.load true 4 (.t 5)) 52 true,zg 56 (.call 26 [.t 55]) 52 true,zg 57 (.bin .eql (.t 54) (.t 56)) 52 true,zo 58 (.pick (.t 52) (.t 57) (.c (.bool false))),zm 59 58,zg 60 (.mv (.t 7)) 59 true,zg 61 (.mv (.t 0)) 59 true,zg 62 (.call 14 [.t 60,.t 61,.c (.bool true)]) 59 true,zo 63 (.pick (.t 59) (.t 62) (.c (.bool false))),zm 64 63,zg 65 (.call 19 []) 64 true,zo 66 (.pick (.t 64) (.t 65) (.c (.bool false))),zm 6 66] [[],[],[],[],[],[],[],[],[],[],[],[10],[],[],[],[],[],[],[17],[],[],[],[],[],[],[],[],[],[],[],[]]) .ret))))),[.t 6]⟩
theorem za5:cN Tryz.prog 5=some c5:=by kernel_rfl
def c22:AFn:=⟨46,zq [zo 2 (.box (.t 0)),zo 3 (.box (.t 1)),zo 4 (.mv (.c (.bool false)))] (zr [zf 6 1 2,zl 7 6,zf 8 1 3,zl 9 8,zb 10 .neq 7 9,zm 11 10,zg 12 (.fieldA 2 (.t 2)) 11 false,zg 13 (.load false 1 (.t 12)) 11 false,zg 14 (.len false (.t 13)) 11 false,zg 15 (.fieldA 2 (.t 3)) 11 false,zg 16 (.load false 1 (.t 15)) 11 false,zg 17 (.len false (.t 16)) 11 false,zg 18 (.bin .neq (.t 14) (.t 17)) 11 false,zo 19 (.pick (.t 11) (.c (.bool true)) (.t 18)),zm 20 19,zg 21 (.fieldA 0 (.t 2)) 20 false,zg 22 (.load false 1 (.t 21)) 20 false,zg 23 (.fieldA 0 (.t 3)) 20 false,zg 24 (.load false 1 (.t 23)) 20 false,zg 25 (.call 48 [.t 22,.t 24]) 20 false,zg 26 (.un .not (.t 25)) 20 false,zo 27 (.pick (.t 20) (.c (.bool true)) (.t 26))] 27 (zq [zo 4 (.mv (.c (.bool false)))] .ret) .skip (.seq (zq [zf 28 2 2,zl 29 28,zh 30 29,zo 31 (.mv (zi 0))] (.block 0 (.loop (zq [zb 32 .lss 31 30] (.seq (.cond (.t 32) .skip (.exit 0)) (.seq (.block 1 (zq [zm 33 31,zm 5 33] (zq [zf 34 2 2,zl 35 34,zm 36 5,zo 37 (.idxA 4 (.t 35) (.t 36)),zt 38 4 37,zf 39 2 3,zl 40 39,zm 41 5,zo 42 (.idxA 4 (.t 40) (.t 41)),zt 43 4 42,zo 44 (.pf (.eqS true [(0,.int),(1,.int),(2,.int),(3,.int)]) [.t 38,.t 43])] (.cond (.t 44) (zq [zo 4 (.mv (.c (.bool false)))] .ret) .skip)))) (.reg [zk 45 .add 31 1,zm 31 45]))))))) (zq [zo 4 (.mv (.c (.bool true)))] .ret))),[.t 4]⟩
theorem za22:cN Tryz.prog 22=some c22:=by kernel_rfl
def c48:AFn:=⟨26,zq [zo 4 (.mv (.c (.bool false)))] (zr [zm 6 0,zh 7 6,zm 8 1,zh 9 8,zb 10 .neq 7 9] 10 (zq [zo 4 (.mv (.c (.bool false)))] .ret) .skip (.seq (zq [zo 5 (.mv (zi 0))] (.block 0 (.loop (zr [zm 11 5,zm 12 0,zh 13 12,zb 14 .lss 11 13] 14 .skip (.exit 0) (.seq (.block 1 (zq [zm 17 0,zm 18 5,zd 19 17 18,zl 20 19,zm 21 1,zm 22 5,zd 23 21 22,zl 24 23,zb 25 .neq 20 24] (.cond (.t 25) (zq [zo 4 (.mv (.c (.bool false)))] .ret) .skip))) (.reg [zm 15 5,zk 16 .add 15 1,zm 5 16])))))) (zq [zo 4 (.mv (.c (.bool true)))] .ret))),[.t 4]⟩
theorem za48:cN Tryz.prog 48=some c48:=by kernel_rfl
end
open Go.Abs Go.Abs.S
theorem samefixes_spec{a:List Int}{v w:AVal}{n m:Nat}{H:AHeap}(c:Cel n H v (conL a))(d:Cel m H w (conL a))(hl:a.length≤1000000):ACalls Tryz.prog natT 48 [v,w] H fun u H'=>u=.bool true∧H=H':=by
 have lx:=c.len
 have ly:=d.len
 rw[conL_len]at lx ly
 refine acalls_ofN rfl za48 rfl ?_
 simp only[c48,sA,sB,seval,lx,ly]
 refine aw_loop (fun k (T:Env) H'=>H=H'∧∃i:Nat,k=a.length-i∧i≤a.length∧T 0=v∧T 1=w∧T 5=.int .i64 (i:Int)) a.length
  ⟨rfl,0,rfl,Nat.zero_le _,by simp only[sA,sB,seval]; try rfl,by simp only[sA,sB,seval]; try rfl,by simp only[sA,sB,seval]; try rfl⟩ ?_
 rintro k T _ ⟨rfl,i,rfl,hi,t0,t1,t5⟩
 by_cases hlt:i<a.length
 case neg=>
  obtain rfl:i=a.length:=om
  have hlt':¬(a.length:Int)<(a.length:Int):=om
  simp only[sA,sB,seval,t0,t1,t5,lx,hlt']
  exact⟨tt,tt⟩
 have hlt':(i:Int)<(a.length:Int):=om
 obtain⟨x,hx⟩:∃x,a[i]?=some x:=⟨_,List.getElem?_eq_getElem hlt⟩
 have i1:=c.idx .i64 (i:=i) (by rw[conL_len]; exact hlt)
 have l1:=c.load (i:=i) (x:=.int .i64 x) (by simp[conL,hx])
 have i2:=d.idx .i64 (i:=i) (by rw[conL_len]; exact hlt)
 have l2:=d.load (i:=i) (x:=.int .i64 x) (by simp[conL,hx])
 have wk:IntKind.i64.wrap ((i:Int)+1)=((i+1:Nat):Int):=w64
 simp only[sA,sB,seval,t0,t1,t5,lx,hlt',i1,l1,i2,l2,wk]
 exact⟨a.length-(i+1),om,tt,i+1,rfl,om,tt,tt,tt⟩
theorem lin_sl{m k:Nat}{H:AHeap}{v:AVal}{L:List AVal}(h:LinM m H v L k):SlK (fun _=>True) H m v k L:=by
 rcases h with⟨rfl,rfl,rfl⟩ | ⟨b,C,low,r,rfl,h2,h3,h4,h5,h6,h7,h8⟩
 ·exact .inl ⟨rfl,rfl,rfl⟩
 ·refine .inr ⟨_,r,rfl,trivial,?_⟩
  have:=rd_row (H:=H) ⟨low,h3,h4⟩ rfl (i:=0) (k:=m*k) (by rw[Nat.mul_comm]; omega)
  rw[this,List.drop_zero,Nat.mul_comm,h5]
theorem codL_at:∀{l:List In4} {i:Nat} {x:In4},l[i]?=some x→((codL l).drop (i*4)).take 4=inL x
 | [],i,x,h=>by simp at h
 | y::l,0,x,h=>by
  simp only[List.getElem?_cons_zero,sJ]at h
  subst h; rfl
 | y::l,i+1,x,h=>by
  simp only[List.getElem?_cons_succ]at h
  have:=codL_at h
  rw[show (i+1)*4=(inL y).length+i*4 by simp[inL]; omega]
  simp only[codL]
  rw[List.drop_append,List.drop_of_length_le om,List.nil_append,show (inL y).length+i*4-(inL y).length=i*4 by omega]
  exact this
theorem same18_spec{x:Cs}{vc vd wc wd:AVal}{P Q:Nat→Prop}{H:AHeap}(A:CdR x vc vd P H)(B:CdR x wc wd Q H)(hl1:x.code.length≤1000000)(hl2:x.cons.length≤1000000):ACalls Tryz.prog natT 22 [CdA x vc vd,CdA x wc wd] H fun u H'=>u=.bool true∧Ext H.next H H':=by
 obtain⟨H1,m1,r1,n1,k1⟩:=row_newL H [vc,.int .i64 (x.regs:Int),vd] (n:=3) rfl
 obtain⟨H2,m2,r2,n2,k2⟩:=row_newL H1 [wc,.int .i64 (x.regs:Int),wd] (n:=3) rfl
 have E2:Ext H.next H H2:=⟨om,fun c hc=>by rw[k2 c om,k1 c om]⟩
 have q1:Row H2 H.next [vc,.int .i64 (x.regs:Int),vd]:=r1.same (k2 _ om)
 have l1:oLoad false 1 H2 (cellR H.next 3 1)=some (.int .i64 (x.regs:Int)):=row_load q1 rfl rfl
 have l1':oLoad false 1 H2 (cellR H1.next 3 1)=some (.int .i64 (x.regs:Int)):=row_load r2 rfl rfl
 have l2:oLoad false 1 H2 (cellR H.next 3 2)=some vd:=row_load q1 rfl rfl
 have l2':oLoad false 1 H2 (cellR H1.next 3 2)=some wd:=row_load r2 rfl rfl
 have l0:oLoad false 1 H2 (cellR H.next 3 0)=some vc:=row_load q1 rfl rfl
 have l0':oLoad false 1 H2 (cellR H1.next 3 0)=some wc:=row_load r2 rfl rfl
 have ld1:LinM 4 H2 vd (codL x.code) x.code.length:=A.ld.same om (A.ld.blk.mono fun b hb=>E2.old b hb)
 have ld2:LinM 4 H2 wd (codL x.code) x.code.length:=B.ld.same om (B.ld.blk.mono fun b hb=>E2.old b hb)
 have lc1:LinM 1 H2 vc (conL x.cons) x.cons.length:=A.lc.same om (A.lc.blk.mono fun b hb=>E2.old b hb)
 have lc2:LinM 1 H2 wc (conL x.cons) x.cons.length:=B.lc.same om (B.lc.blk.mono fun b hb=>E2.old b hb)
 have e1:=ld1.len
 have e2:=ld2.len
 have s1:=lin_sl ld1
 have s2:=lin_sl ld2
 refine acalls_ofN rfl za22 rfl ?_
 unfold CdA
 simp only[c22,sA,sB,seval,cells_agg,m1,m2,fld0,fldA,l1,l1',l2,l2',l0,l0',e1,e2]
 refine (samefixes_spec (LinM.cel1 lc1 lc1.blk).1 (LinM.cel1 lc2 lc2.blk).1 hl2).mono ?_
 rintro _ _ ⟨rfl,rfl⟩
 simp only[sA,sB,seval,fldA,l2,e1]
 refine aw_loop (fun k (T:Env) L=>L=H2∧∃i:Nat,k=x.code.length-i∧i≤x.code.length∧T 2=cellR H.next 3 0∧T 3=cellR H1.next 3 0∧T 30=.int .i64 (x.code.length:Int)∧T 31=.int .i64 (i:Int)) x.code.length
  ⟨rfl,0,rfl,Nat.zero_le _,by simp only[sA,sB,seval]; try rfl,by simp only[sA,sB,seval]; try rfl,by simp only[sA,sB,seval]; try rfl,by simp only[sA,sB,seval]; try rfl⟩ ?_
 rintro k T L ⟨rfl,i,rfl,hi,t2,t3,t30,t31⟩
 by_cases hlt:i<x.code.length
 case neg=>
  obtain rfl:i=x.code.length:=om
  have hlt':¬(x.code.length:Int)<(x.code.length:Int):=om
  simp only[sA,sB,seval,t2,t3,t30,t31,hlt']
  exact⟨tt,E2⟩
 have hlt':(i:Int)<(x.code.length:Int):=om
 obtain⟨y,hy⟩:∃y,x.code[i]?=some y:=⟨_,List.getElem?_eq_getElem hlt⟩
 have i1:=s1.idx hlt
 have i2:=s2.idx hlt
 have p1:=s1.load hlt
 have p2:=s2.load hlt
 rw[codL_at hy]at p1 p2
 have wk:IntKind.i64.wrap ((i:Int)+1)=((i+1:Nat):Int):=w64
 have eq:aPf (.eqS true [(0,.int),(1,.int),(2,.int),(3,.int)]) [.agg (inL y),.agg (inL y)]=some (.bool false):=by
  simp[aPf,aEqSs,aEqFs,fEq,fEqI,inL,eqF_eq]
 simp only[sA,sB,seval,t2,t3,t30,t31,hlt',fldA,l2,l2',i1,i2,p1,p2,eq,wk]
 exact⟨x.code.length-(i+1),om,tt,i+1,rfl,om,tt,tt,tt,tt⟩
theorem eq_flI(f:FltI):aPf (.eqS false [(0,.int),(1,.int)]) [.agg (flI f),.agg (flI f)]=some (.bool true):=by
 simp[aPf,aEqSs,aEqFs,fEq,fEqI,flI,eqF_eq]
open Go.Abs Go.Abs.S
theorem digsF_lt{u:Nat}(h:u<10):digsF u=[UInt8.ofNat (48+u)]:=by
 rw[digsF]; rw[dif_pos h]
theorem digsF_ge{u:Nat}(h:¬u<10):digsF u=digsF (u / 10)++[UInt8.ofNat (48+u % 10)]:=by
 rw[digsF]; rw[dif_neg h]
theorem dig_cel{H:AHeap}{d:Nat}(h:d<10):Cel (H.next+1) (H.push (.cells [.int .u8 ((48+d:Nat):Int)] 0 false)) (.slice (some ⟨H.next,1,0⟩) 1 (.known 1)) (byts [UInt8.ofNat (48+d)]):=by
 have e:byts [UInt8.ofNat (48+d)]=[.int .u8 ((48+d:Nat):Int)]:=by
  have:(UInt8.ofNat (48+d)).toNat=48+d:=by simp; omega
  simp only[byts,List.map_cons,List.map_nil,this]
 rw[e]
 exact bs_celA (xs:=[AVal.int .u8 ((48+d:Nat):Int)])
theorem digsF_len:∀(N n:Nat),n≤N→(digsF n).length≤n / 10+1
 | 0,n,h=>by rw[digsF_lt om]; simp
 | N+1,n,h=>by
  by_cases h10:n<10
  ·rw[digsF_lt h10]; simp
  ·have:=digsF_len N (n / 10) om
   rw[digsF_ge h10,lA]
   simp only[List.length_cons,List.length_nil]
   omega
theorem zneg(n:Int):aUn .neg (.int .u64 n)=some (.int .u64 (IntKind.u64.wrap (0-n))):=by
 simp only[aUn,wrF_eq]
theorem zdec_spec{z:Int}{H:AHeap}(h1:-9223372036854775808≤z)(h2:z<9223372036854775808):ACalls Tryz.prog natT 53 [.int .i64 z] H fun u H'=>u=.str (intF z)∧Ext H.next H H':=by
 have dig:∀(u:Nat) (K:AHeap),aBin .add (.int .u64 48) (.int .u64 ((u % 10:Nat):Int))=some (.int .u64 ((48+u % 10:Nat):Int))∧IntKind.u8.wrap ((48+u % 10:Nat):Int)=((48+u % 10:Nat):Int)∧aBuildSl 1 [.int .u8 0] K [(0,1,.int .u8 ((48+u % 10:Nat):Int))]=some (.slice (some ⟨K.next,1,0⟩) 1 (.known 1),K.push (.cells [.int .u8 ((48+u % 10:Nat):Int)] 0 false)) ∧
   aBS (K.push (.cells [.int .u8 ((48+u % 10:Nat):Int)] 0 false)) (.slice (some ⟨K.next,1,0⟩) 1 (.known 1))=some (.str [UInt8.ofNat (48+u % 10)]):=fun u K=>by
  have hm:=Nat.mod_lt u (show 0<10 by omega)
  refine⟨?_,?_,rfl,Go.Abs.S.bs_cel (dig_cel hm)⟩
  ·rw[bin_add,IntKind.wrap_u64]; congr 2; omega
  ·rw[IntKind.wrap_u8]; omega
 refine acalls_ofN rfl za53 rfl ?_
 by_cases hz:z<0
 ·obtain⟨n,hn⟩:∃n,n=z.natAbs:=⟨_,rfl⟩
  have hi:intF z=[45]++digsF n:=by unfold intF; rw[if_pos hz,hn]; rfl
  have w1:IntKind.u64.wrap (0-IntKind.u64.wrap z)=(n:Int):=by rw[IntKind.wrap_u64,IntKind.wrap_u64]; omega
  have hn64:n<18446744073709551616:=om
  obtain⟨d1,d2,d3,d4⟩:=dig n H
  have rm:=remU64 (a:=n) 10 om
  simp only[Int.cast_ofNat_Int]at rm
  rw[hi]
  simp only[c53,sA,sB,seval,conv_in,hz,zneg,w1,rm,d1,d2,d3,d4]
  refine aw_loop (fun m (T:Env) K=>Ext H.next H K∧∃(u:Nat) (S:Bs),m=u∧u<18446744073709551616∧T 3=.str [45]∧T 4=.int .u64 (u:Int)∧T 5=.str S∧digsF n=(if u<10 then [] else digsF (u / 10))++S) n
   ⟨⟨by show _≤H.next+1; omega,fun c hc=>get_push_lt hc⟩,n,[UInt8.ofNat (48+n % 10)],rfl,hn64,by simp only[sA,sB,seval]; try rfl,by simp only[sA,sB,seval]; try rfl,by simp only[sA,sB,seval]; try rfl,by
    by_cases h:n<10
    ·rw[if_pos h,digsF_lt h,Nat.mod_eq_of_lt h]; rfl
    ·rw[if_neg h,digsF_ge h]⟩ ?_
  rintro m T K ⟨EK,u,S,hm,hu,t3,t4,t5,hd⟩
  subst hm
  have hSl:S.length≤n / 10+1:=by
   have:=digsF_len n n rL
   rw[hd,lA]at this
   omega
  by_cases h10:m<10
  ·have h10':¬(10:Int)≤(m:Int):=om
   rw[if_pos h10,List.nil_append]at hd
   rw[hd]
   have sb:aBin .add (.str [45]) (.str S)=some (.str ([45]++S)):=str_add (by simp only[List.length_cons,List.length_nil]; omega)
   simp only[sA,sB,seval,t3,t4,t5,h10',sb]
   exact⟨tt,EK⟩
  have h10':(10:Int)≤(m:Int):=om
  have qm:=quoU64 (a:=m) 10 om hu
  have rm2:=remU64 (a:=m / 10) 10 om
  simp only[Int.cast_ofNat_Int]at qm rm2
  obtain⟨g1,g2,g3,g4⟩:=dig (m / 10) K
  have sa:aBin .add (.str [UInt8.ofNat (48+m / 10 % 10)]) (.str S)=some (.str ([UInt8.ofNat (48+m / 10 % 10)]++S)):=str_add (by simp only[List.length_cons,List.length_nil]; omega)
  simp only[sA,sB,seval,t3,t4,t5,h10',qm,rm2,g1,g2,g3,g4,sa]
  refine⟨m / 10,om,⟨by have:=EK.next; show _≤K.next+1; omega,fun c hc=>by rw[get_push_lt (by have:=EK.next; omega),EK.old c hc]⟩,m / 10,_,rfl,om,tt,tt,tt,?_⟩
  rw[if_neg h10]at hd
  rw[hd]
  by_cases h:m / 10<10
  ·rw[if_pos h,digsF_lt h,Nat.mod_eq_of_lt h]; rfl
  ·rw[if_neg h,digsF_ge h]; simp
 ·obtain⟨n,hn⟩:∃n,n=z.natAbs:=⟨_,rfl⟩
  have hi:intF z=digsF n:=by unfold intF; rw[if_neg hz,hn]
  have w1:IntKind.u64.wrap z=(n:Int):=by rw[IntKind.wrap_u64]; omega
  have hn64:n<18446744073709551616:=om
  obtain⟨d1,d2,d3,d4⟩:=dig n H
  have rm:=remU64 (a:=n) 10 om
  simp only[Int.cast_ofNat_Int]at rm
  rw[hi]
  simp only[c53,sA,sB,seval,conv_in,hz,w1,rm,d1,d2,d3,d4]
  refine aw_loop (fun m (T:Env) K=>Ext H.next H K∧∃(u:Nat) (S:Bs),m=u∧u<18446744073709551616∧T 3=.str []∧T 4=.int .u64 (u:Int)∧T 5=.str S∧digsF n=(if u<10 then [] else digsF (u / 10))++S) n
   ⟨⟨by show _≤H.next+1; omega,fun c hc=>get_push_lt hc⟩,n,[UInt8.ofNat (48+n % 10)],rfl,hn64,by simp only[sA,sB,seval]; try rfl,by simp only[sA,sB,seval]; try rfl,by simp only[sA,sB,seval]; try rfl,by
    by_cases h:n<10
    ·rw[if_pos h,digsF_lt h,Nat.mod_eq_of_lt h]; rfl
    ·rw[if_neg h,digsF_ge h]⟩ ?_
  rintro m T K ⟨EK,u,S,hm,hu,t3,t4,t5,hd⟩
  subst hm
  have hSl:S.length≤n / 10+1:=by
   have:=digsF_len n n rL
   rw[hd,lA]at this
   omega
  by_cases h10:m<10
  ·have h10':¬(10:Int)≤(m:Int):=om
   rw[if_pos h10,List.nil_append]at hd
   rw[hd]
   have sb:aBin .add (.str []) (.str S)=some (.str ([]++S)):=str_add (by simp only[List.length_cons,List.length_nil]; omega)
   simp only[sA,sB,seval,t3,t4,t5,h10',sb]
   exact⟨tt,EK⟩
  have h10':(10:Int)≤(m:Int):=om
  have qm:=quoU64 (a:=m) 10 om hu
  have rm2:=remU64 (a:=m / 10) 10 om
  simp only[Int.cast_ofNat_Int]at qm rm2
  obtain⟨g1,g2,g3,g4⟩:=dig (m / 10) K
  have sa:aBin .add (.str [UInt8.ofNat (48+m / 10 % 10)]) (.str S)=some (.str ([UInt8.ofNat (48+m / 10 % 10)]++S)):=str_add (by simp only[List.length_cons,List.length_nil]; omega)
  simp only[sA,sB,seval,t3,t4,t5,h10',qm,rm2,g1,g2,g3,g4,sa]
  refine⟨m / 10,om,⟨by have:=EK.next; show _≤K.next+1; omega,fun c hc=>by rw[get_push_lt (by have:=EK.next; omega),EK.old c hc]⟩,m / 10,_,rfl,om,tt,tt,tt,?_⟩
  rw[if_neg h10]at hd
  rw[hd]
  by_cases h:m / 10<10
  ·rw[if_pos h,digsF_lt h,Nat.mod_eq_of_lt h]; rfl
  ·rw[if_neg h,digsF_ge h]; simp
end Go.Proofs.Wo
