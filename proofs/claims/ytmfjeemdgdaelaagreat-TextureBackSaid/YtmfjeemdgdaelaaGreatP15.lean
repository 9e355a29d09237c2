/- Part of a proof (TR13 T92 T93 TC5 T94 T95 L1); no condition. -/
import Derived.Test.YtmfjeemdgdaelaaGreatProg
import Derived.KernelRfl
import Derived.OpenShut
import Derived.WalkKit
import Derived.Below
import Derived.ChangeSame
import Derived.ReadAgain
import Derived.ProofKit
import Derived.Test.YtmfjeemdgdaelaaGreatP6
import Derived.Test.YtmfjeemdgdaelaaGreatP11
import Derived.Test.YtmfjeemdgdaelaaGreatP14
set_option linter.unusedSimpArgs false
set_option linter.unusedVariables false
set_option linter.unnecessarySimpa false
namespace Go.Proofs.Tb
open Go.Abs Go.Abs.S
theorem dw_aeq{H:AHeap}{av sv:AVal}{b:Bs}{L:List Bool}(h:DW H av sv b L):aeq av av=true∧aeq sv sv=true∧sv.one=true:=by
 refine⟨cel_aeq (h.1.cel1 h.1.blk'),rw_aeq h.2,?_⟩
 obtain⟨_,esv,hsv⟩:=rw_val h.2
 simp only[AVal.agg.injEq,List.cons.injEq,and_true]at esv
 rw[esv.1]; exact hsv
theorem rwrite8_spec{n:Nat}{H:AHeap}{av sv bv:AVal}{b p:Bs}{bg:Bool}(h:DW H av sv b [])(hp:Cel n H bv (byts p))(hn:n≤H.next)(hl:b.length+p.length≤600) :
  ACalls Tryz.prog natT 78 [.agg [av,.int .i64 0,sv,.int .i64 0,.bool false,.bool bg],bv] H fun w H'=>∃av' sv' s,w=.tuple [.agg [av',.int .i64 0,sv',.int .i64 0,.bool false,.bool true],s,.int .i64 0]∧DW H' av' sv' (b++p) []∧AppN 1 H.next H' s (u8s (hd bg)) (hd bg).length∧Blk av' (H.next≤·)∧(∀P,VB (.agg [sv,.int .i64 0]) P→VB (.agg [sv',.int .i64 0]) P)∧Ext H.next H H':=by
 refine acalls_ofN rfl za78 rfl ?_
 obtain⟨H1,m1,r1,k1,o1⟩:=row_newL H [av,.int .i64 0,sv,.int .i64 0,.bool false,.bool bg] (n:=6) rfl
 obtain⟨H2,m2,r2,k2',o2⟩:=row_newL H1 [.slice none 0 (.known 0),.int .i64 0,.slice none 0 (.known 0),.int .i64 0,.bool false,.bool false] (n:=6) rfl
 have E2:Ext H.next H H2:=⟨om,fun c hc=>by rw[o2 c om,o1 c om]⟩
 have R2:Row H2 H.next [av,.int .i64 0,sv,.int .i64 0,.bool false,.bool bg]:=r1.same (o2 _ om)
 have l5:oLoad true 5 H2 (cellR H.next 6 0)=some (.agg [av,.int .i64 0,sv,.int .i64 0,.bool false]):=row_loadK R2 (n:=6) rfl (i:=0) (k:=5) om
 have h2:DW H2 av sv b []:=⟨h.1.ext E2,h.2.fwd E2⟩
 have hv:VB (.agg [sv,.int .i64 0]) (·<H.next):=h.2.vb
 simp only[c78,sA,sB,seval,cells_agg,m1,m2,fldA,fld0,l5]
 refine (rwrite6_spec h2 (hp.ext (E2.less hn)) om hl).mono ?_
 rintro _ H3 ⟨a3,s3,rfl,D3,B3,V3,E3⟩
 have n3:=E3.next
 have hv3:=V3 _ hv
 obtain⟨x1,x2,x3⟩:=dw_aeq D3
 have a31:=app_one D3.1
 obtain⟨H4,m4,r4,k4,o4⟩:=row_newL H3 [.slice none 0 (.known 0),.int .i64 0,.slice none 0 (.known 0),.int .i64 0,.bool false] (n:=5) rfl
 obtain⟨H5,m5,r5,k5,o5⟩:=row_storeN r4 (n:=5) rfl (xs:=[a3,.int .i64 0,s3,.int .i64 0,.bool false]) rfl (by simp only[List.all_cons,List.all_nil,a31,x3]; rfl)
 have l55:oLoad true 5 H5 (cellR H3.next 5 0)=some (.agg [a3,.int .i64 0,s3,.int .i64 0,.bool false]):=row_loadN r5 (n:=5) rfl
 have og:∀c,c<H3.next→H5.get c=H3.get c:=fun c hc=>by rw[o5 c om,o4 c om]
 obtain⟨H6,m6,r6,k6,o6⟩:=row_storeK ((R2.same (E3.old _ om)).same (og _ om)) (n:=6) rfl (i:=0) (k:=5) om (xs:=[a3,.int .i64 0,s3,.int .i64 0,.bool false]) rfl (by simp only[List.all_cons,List.all_nil,a31,x3]; rfl)
 have r6':Row H6 H.next [a3,.int .i64 0,s3,.int .i64 0,.bool false,.bool bg]:=r6
 have l66:oLoad true 6 H6 (cellR H.next 6 0)=some (.agg [a3,.int .i64 0,s3,.int .i64 0,.bool false,.bool bg]):=row_loadN r6' (n:=6) rfl
 have haeq:aeq (.agg [a3,.int .i64 0,s3,.int .i64 0,.bool false,.bool true]) (.agg [a3,.int .i64 0,s3,.int .i64 0,.bool false,.bool true])=true:=by simp[aeq,aeqs,x1,x2,eqF_eq]
 simp only[sA,sB,seval,fldA,fld0,ext_0,ext_1,ext_2,m4,m5,l55,m6,l66]
 refine (rahead_spec (l:=[]) a31 rfl x3 rfl rfl (.inl ⟨rfl,rfl⟩) (by simp) haeq).mono ?_
 rintro _ H7 ⟨s,rfl,A7,E7⟩
 rw[List.append_nil]at A7
 have n7:=E7.next
 obtain⟨H8,m8,r8,k8,o8⟩:=row_storeN (r6'.same (E7.old _ om)) (n:=6) rfl (xs:=[a3,.int .i64 0,s3,.int .i64 0,.bool false,.bool true]) rfl (by simp only[List.all_cons,List.all_nil,a31,x3]; rfl)
 have l88:oLoad true 6 H8 (cellR H.next 6 0)=some (.agg [a3,.int .i64 0,s3,.int .i64 0,.bool false,.bool true]):=row_loadN r8 (n:=6) rfl
 have R91:Row H8 H1.next [.slice none 0 (.known 0),.int .i64 0,.slice none 0 (.known 0),.int .i64 0,.bool false,.bool false]:=r2.same (by rw[o8 _ om,E7.old _ om,o6 _ om,og _ om,E3.old _ om])
 obtain⟨H9,m9,r9,k9,o9⟩:=row_storeN R91 (n:=6) rfl (xs:=[a3,.int .i64 0,s3,.int .i64 0,.bool false,.bool true]) rfl (by simp only[List.all_cons,List.all_nil,a31,x3]; rfl)
 simp only[sA,sB,seval,fldA,fld0,ext_0,ext_1,m8,l88,m9]
 refine fin_c3 _ _ _ _ _ (by simp only[sA,sB,seval]; exact row_loadN r9 (n:=6) rfl) ⟨a3,s3,s,by simp only[sA,sB,seval]; try rfl,⟨?_,?_⟩,?_,B3.mono fun b hb=>om,V3,⟨om,fun c hc=>by rw[o9 c om,o8 c om,E7.old c om,o6 c om,og c om,E3.old c om]; exact E2.old c hc⟩⟩
 ·exact D3.1.same om ((B3.and D3.1.blk').mono fun b hb=>by rw[o9 b om,o8 b om,E7.old b om,o6 b om,og b om])
 ·exact rw_same D3.2 om (hv3.mono fun b hb=>by rw[o9 b om,o8 b om,E7.old b om,o6 b om,og b om])
 ·exact AppN.samN' A7 om om fun c h1 h2=>by rw[o9 c om,o8 c om]
def endN(bg:Bool)(b:Bs):List Nat:=hd bg++pack (endB b)++fourL (adler 1 b)
theorem rend8_spec{H:AHeap}{av sv:AVal}{b:Bs}{bg:Bool}(h:DW H av sv b [])(hl:b.length≤600) :
  ACalls Tryz.prog natT 79 [.agg [av,.int .i64 0,sv,.int .i64 0,.bool false,.bool bg]] H fun w H'=>∃u s,w=.tuple [u,s,.int .i64 0]∧(∃cs,u=.agg cs∧cs.length=6∧cs.all AVal.one=true)∧Cel H'.next H' s (u8s (endN bg b))∧Ext H.next H H':=by
 refine acalls_ofN rfl za79 rfl ?_
 obtain⟨H1,m1,r1,k1,o1⟩:=row_newL H [av,.int .i64 0,sv,.int .i64 0,.bool false,.bool bg] (n:=6) rfl
 obtain⟨H2,m2,r2,k2',o2⟩:=row_newL H1 [.slice none 0 (.known 0),.int .i64 0,.slice none 0 (.known 0),.int .i64 0,.bool false,.bool false] (n:=6) rfl
 have E2:Ext H.next H H2:=⟨om,fun c hc=>by rw[o2 c om,o1 c om]⟩
 have R2:Row H2 H.next [av,.int .i64 0,sv,.int .i64 0,.bool false,.bool bg]:=r1.same (o2 _ om)
 have l5:oLoad true 5 H2 (cellR H.next 6 0)=some (.agg [av,.int .i64 0,sv,.int .i64 0,.bool false]):=row_loadK R2 (n:=6) rfl (i:=0) (k:=5) om
 have h2:DW H2 av sv b []:=⟨h.1.ext E2,h.2.fwd E2⟩
 have av1:=app_one h.1
 simp only[c79,sA,sB,seval,cells_agg,m1,m2,fldA,fld0,l5]
 refine (rend6_spec h2 hl).mono ?_
 rintro _ H3 ⟨x1,x2,x3,x4,s,rfl,y1,y2,y3,y4,yq,A3,E3⟩
 have n3:=E3.next
 obtain⟨H4,m4,r4,k4,o4⟩:=row_newL H3 [.slice none 0 (.known 0),.int .i64 0,.slice none 0 (.known 0),.int .i64 0,.bool false] (n:=5) rfl
 obtain⟨H5,m5,r5,k5,o5⟩:=row_storeN r4 (n:=5) rfl (xs:=[av,x1,x2,x3,x4]) rfl (by simp only[List.all_cons,List.all_nil,av1,y1,y2,y3,y4]; rfl)
 have l55:oLoad true 5 H5 (cellR H3.next 5 0)=some (.agg [av,x1,x2,x3,x4]):=row_loadN r5 (n:=5) rfl
 have og:∀c,c<H3.next→H5.get c=H3.get c:=fun c hc=>by rw[o5 c om,o4 c om]
 obtain⟨H6,m6,r6,k6,o6⟩:=row_storeK ((R2.same (E3.old _ om)).same (og _ om)) (n:=6) rfl (i:=0) (k:=5) om (xs:=[av,x1,x2,x3,x4]) rfl (by simp only[List.all_cons,List.all_nil,av1,y1,y2,y3,y4]; rfl)
 have r6':Row H6 H.next [av,x1,x2,x3,x4,.bool bg]:=r6
 have l66:oLoad true 6 H6 (cellR H.next 6 0)=some (.agg [av,x1,x2,x3,x4,.bool bg]):=row_loadN r6' (n:=6) rfl
 have haeq:=yq av true (dw_aeq h).1
 have el:=endB_len2 b hl
 have pl:(pack (endB b)).length≤10000:=by rw[pack_len]; omega
 have A6:AppN 1 H2.next H6 s (u8s (pack (endB b))) (pack (endB b)).length:=AppN.samN' A3 rL om fun c h1 h2=>by rw[o6 c om,og c om]
 have C6:Cel H6.next H6 s (u8s (pack (endB b))):=(AppN.samN' A6 (Nat.zero_le _) rL fun _ _ _=>rfl).cel1 (AppN.samN' A6 (Nat.zero_le _) rL fun _ _ _=>rfl).blk'
 simp only[sA,sB,seval,fldA,fld0,ext_0,ext_1,ext_2,m4,m5,l55,m6,l66]
 refine (rahead_spec av1 y1 y2 y3 y4 C6 om haeq).mono ?_
 rintro _ H7 ⟨s7,rfl,A7,E7⟩
 have n7:=E7.next
 obtain⟨H8,m8,r8,k8,o8⟩:=row_storeN (r6'.same (E7.old _ om)) (n:=6) rfl (xs:=[av,x1,x2,x3,x4,.bool true]) rfl (by simp only[List.all_cons,List.all_nil,av1,y1,y2,y3,y4]; rfl)
 have l88:oLoad true 6 H8 (cellR H.next 6 0)=some (.agg [av,x1,x2,x3,x4,.bool true]):=row_loadN r8 (n:=6) rfl
 have lav:oLoad false 1 H8 (cellR H.next 6 0)=some av:=row_load r8 rfl rfl
 have E8:Ext H.next H H8:=⟨om,fun c hc=>by rw[o8 c om,E7.old c om,o6 c om,og c om,E3.old c om]; exact E2.old c hc⟩
 have cav:Cel H.next H av (byts b):=h.1.cel1 h.1.blk'
 simp only[sA,sB,seval,fldA,fld0,ext_0,ext_1,m8]
 refine aw_drawC rfl ?_
 simp only[sA,sB,seval,sR,fldA,fld0,l88,lav]
 refine (radler_spec (cav.ext E8) 1 om om).mono ?_
 rintro _ _ ⟨rfl,rfl⟩
 simp only[sA,sB,seval,sR]
 refine (rfour_spec H8 (adler 1 b) (adler_lt 1 b)).mono ?_
 rintro _ H9 ⟨rfl,rfl⟩
 have A8:AppN 1 0 H8 s7 (u8s (hd bg++pack (endB b))) (hd bg++pack (endB b)).length:=AppN.samN' A7 (Nat.zero_le _) om fun c h1 h2=>o8 c om
 have B7:Blk s7 (H6.next≤·):=by
  rcases A7 with⟨rfl,_⟩ | ⟨b,low,rfl,_,h3,_⟩
  ·exact blk_nil _
  ·exact blk_some h3
 have A9:AppN 1 0 (H8.push (.cells (u8s (fourL (adler 1 b))) 0 false)) s7 (u8s (hd bg++pack (endB b))) (hd bg++pack (endB b)).length:=A8.same (by rw[push_next]; omega) (A8.blk'.mono fun b hb=>get_push_lt hb)
 have C9:Cel (H8.next+1) (H8.push (.cells (u8s (fourL (adler 1 b))) 0 false)) (slR H8.next 4 (.known 4)) (u8s (fourL (adler 1 b))):=(row_push H8 (u8s (fourL (adler 1 b)))).cel rfl (Nat.lt_succ_self _)
 have hdl:(hd bg).length≤2:=by cases bg <;> simp[hd]
 obtain⟨s9,H10,m10,A10,n10,b10,o10⟩:=app_u8 A9 C9 (by simp only[lA,fourL,List.length_cons,List.length_nil]; omega)
 rw[push_next]at n10 b10 o10
 have B9:Blk s9 (H6.next≤·):=(b10 _ B7).mono fun b hb=>om
 have og10:∀c,c<H6.next→H10.get c=H8.get c:=fun c hc=>by rw[o10 c om (B7.mono fun b hb=>om),get_push_lt om]
 have l9:oLoad true 6 (H8.push (.cells (u8s (fourL (adler 1 b))) 0 false)) (cellR H.next 6 0)=some (.agg [av,x1,x2,x3,x4,.bool true]):=row_loadN (r8.same (get_push_lt om)) (n:=6) rfl
 have l10:oLoad true 6 H10 (cellR H.next 6 0)=some (.agg [av,x1,x2,x3,x4,.bool true]):=row_loadN (r8.same (og10 _ om)) (n:=6) rfl
 have R91:Row H10 H1.next [.slice none 0 (.known 0),.int .i64 0,.slice none 0 (.known 0),.int .i64 0,.bool false,.bool false]:=r2.same (by rw[og10 _ om,o8 _ om,E7.old _ om,o6 _ om,og _ om,E3.old _ om])
 obtain⟨H11,m11,r11,k11,o11⟩:=row_storeN R91 (n:=6) rfl (xs:=[av,x1,x2,x3,x4,.bool true]) rfl (by simp only[List.all_cons,List.all_nil,av1,y1,y2,y3,y4]; rfl)
 simp only[sA,sB,seval,sR,m10,m11]
 simp only[ck_nil',ck_cons,ckP_load,ckP_nil,ck_end,and_true,true_and,List.map_cons,List.map_nil,sA,sB,seval]
 refine⟨⟨⟨_,rfl,fun _=>⟨_,l88,haeq⟩⟩,⟨_,rfl,fun _=>⟨_,l9,haeq⟩⟩,⟨_,rfl,fun _=>⟨_,l10,haeq⟩⟩⟩,?_⟩
 refine fin_c3 _ _ _ _ _ (by simp only[sA,sB,seval]; exact row_loadN r11 (n:=6) rfl) ⟨_,s9,by simp only[sA,sB,seval]; try rfl,⟨_,rfl,rfl,by simp only[List.all_cons,List.all_nil,av1,y1,y2,y3,y4]; rfl⟩,?_,⟨om,fun c hc=>by rw[o11 c om,og10 c om]; exact E8.old c hc⟩⟩
 exact cel_same (A10.cel1 A10.blk') om (B9.mono fun b hb=>o11 b om)
def wpN(C:CS)(c:ACode)(Q:Post):Nat→Env→AHeap→Prop
 | 0=>fun _ _=>False
 | n+1=>wp C c (inSeq Q (wpN C c Q n))
theorem aw_loopN{C:CS}(hC:CMono C){c:ACode}{Q:Post}{T:Env}{H:AHeap}(n:Nat)(h:wpN C c Q n T H):wp C (.loop c) Q T H:=by
 refine aw_loop (fun m T H=>wpN C c Q m T H) n h ?_
 intro m T' H' hm
 cases m with
 | zero=>exact hm.elim
 | succ m=>exact wp_mono' hC c (fun e T H hq=>inSeq_mono (fun _ _ _ h=>h) (fun T H h=>⟨m,Nat.lt_succ_self m,h⟩) e T H hq) hm
theorem wpN_s(C:CS)(c:ACode)(Q:Post)(n:Nat):wpN C c Q (n+1)=wp C c (inSeq Q (wpN C c Q n)):=_root_.id rfl
theorem rpass_spec{H:AHeap}:ACalls Tryz.prog natT 76 [.int .i64 0,.int .i64 0] H fun v H'=>v=.int .i64 1∧H=H':=by
 refine acalls_ofN rfl za76 rfl ?_
 have r0:aBin .rem (.int .i64 0) (.int .i64 8)=some (.int .i64 0):=_root_.id rfl
 have w0:IntKind.i64.wrap 0=0:=rfl
 have w1:IntKind.i64.wrap 1=1:=rfl
 have ix:∀s,aIdxS (.str (49::s)) (.int .i64 0)=some (.int .u8 49):=fun _=>_root_.id rfl
 have w2:IntKind.i64.wrap 49=49:=rfl
 have w3:IntKind.i64.wrap 1=1:=rfl
 simp only[c76,sA,sB,seval,r0,w0,w1,ix,w2,w3]
 exact⟨tt,tt⟩
theorem rorder_spec{H0:AHeap}:ACalls Tryz.prog natT 75 [.int .i64 1,.int .i64 1] H0 fun v H'=>AppN 1 0 H' v (nats [0]) 1∧Ext H0.next H0 H':=by
 refine acalls_ofN rfl za75 rfl ?_
 simp only[c75,sA,sB,seval]
 refine aw_loop (fun m (T:Env) H=>∃p:Nat,m=8-p∧1≤p∧p≤8∧T 0=.int .i64 1∧T 1=.int .i64 1∧T 6=.int .i64 (p:Int)∧((p=1∧T 5=nilS∧H=H0)∨(2≤p∧∃s,T 5=s∧AppN 1 0 H s (nats [0]) 1∧Ext H0.next H0 H))) 7
  ⟨1,rfl,Nat.le_refl _,om,by simp only[sA,sB,seval],by simp only[sA,sB,seval],by simp only[sA,sB,seval]; try rfl,.inl ⟨rfl,by simp only[sA,sB,seval]; try rfl,rfl⟩⟩ ?_
 rintro m T H ⟨p,rfl,h1,h2,t0,t1,t6,hp⟩
 have w1:IntKind.i64.wrap 1=1:=rfl
 have wp1:IntKind.i64.wrap ((p:Int)+1)=((p+1:Nat):Int):=w64
 by_cases h8:p=8
 ·subst h8
  have h8':¬((8:Nat):Int)≤7:=om
  rcases hp with⟨e,-⟩ | ⟨-,s,t5,A,E⟩
  ·omega
  ·simp only[sA,sB,seval,t0,t1,t6,t5,h8']
   exact⟨A,E⟩
 have hp7:(p:Int)≤7:=om
 rcases hp with⟨rfl,t5,rfl⟩ | ⟨hp2,s,t5,A,E⟩
 ·have t6':T 6=.int .i64 1:=t6
  have t5':T 5=.slice none 0 (.known 0):=t5
  have w0:IntKind.i64.wrap 0=0:=rfl
  have w00:IntKind.i64.wrap 0=0:=rfl
  have w11:IntKind.i64.wrap 2=2:=rfl
  have bd:=build1 (.int .i64 0) H (x:=.int .i64 0) rfl
  obtain⟨s',H1,a1,A1,n1,b1,o1⟩:=(AppN.nil 1 0 H).pushB (m:=1) (xs:=[.int .i64 0]) rfl rfl om (bytes:=8) om om
  have a1':aAppend 1 8 (H.push (.cells [.int .i64 0] 0 false)) (.slice none 0 (.known 0)) (oneS H)=some (s',H1):=a1
  simp only[sA,sB,seval,t0,t1,t6']
  refine aw_loopN (calls_mono _ _) 2 ?_
  simp only[wpN_s,sA,sB,seval,t0,t1,t6']
  refine aw_loopN (calls_mono _ _) 2 ?_
  simp only[wpN_s,sA,sB,seval,t0,t1,t6']
  refine rpass_spec.mono ?_
  rintro _ _ ⟨rfl,rfl⟩
  simp only[wpN_s,sA,sB,seval,t0,t1,t6',t5',w0,w00,bd,a1',w1,w11]
  exact⟨6,om,2,rfl,om,om,tt,tt,tt,.inr ⟨om,s',rfl,A1,⟨n1,fun c hc=>o1 c hc (blk_nil _)⟩⟩⟩
 ·have hne:¬(1:Int)=(p:Int):=om
  simp only[sA,sB,seval,t0,t1,t6,hp7]
  refine aw_loopN (calls_mono _ _) 2 ?_
  simp only[wpN_s,sA,sB,seval,t0,t1,t6]
  refine aw_loopN (calls_mono _ _) 2 ?_
  simp only[wpN_s,sA,sB,seval,t0,t1,t6]
  refine rpass_spec.mono ?_
  rintro _ _ ⟨rfl,rfl⟩
  simp only[wpN_s,sA,sB,seval,t0,t1,t6,hne,w1,wp1]
  exact⟨8-(p+1),om,p+1,rfl,om,om,tt,tt,tt,.inr ⟨om,s,t5,A,E⟩⟩
def crcR(b:Bs):Nat:=4294967295-b.foldl (fun c x=>itr 8 (c ^^^ x.toNat)) 4294967295
theorem crcR_fold{c:Nat}(h:c<4294967296)(b:Bs):b.foldl (fun c x=>itr 8 (c ^^^ x.toNat)) c<4294967296:=by
 induction b generalizing c with
 | nil=>exact h
 | cons x b ih=>exact ih (itr_lt (xor_lt32 h (by have:=x.toNat_lt; omega)) 8)
theorem itr_succ(n c:Nat):itr (n+1) c=crc1 (itr n c):=rfl
theorem rcrc_spec{n:Nat}{H:AHeap}{v:AVal}{b:Bs}(h:Cel n H v (byts b))(hl:b.length≤100000):ACalls Tryz.prog natT 103 [.int .u32 0,v] H fun w H'=>w=.int .u32 (crcR b:Int)∧H=H':=by
 refine acalls_ofN rfl za103 rfl ?_
 have lv:=h.len
 rw[byts_len]at lv
 have w0:IntKind.u32.wrap 4294967295=4294967295:=rfl
 simp only[c103,sA,sB,seval,w0]
 refine aw_loop (fun m (T:Env) H'=>∃j,m=b.length-j∧j≤b.length∧T 1=v∧T 5=.int .u32 (((b.take j).foldl (fun c x=>itr 8 (c ^^^ x.toNat)) 4294967295:Nat):Int)∧T 6=.int .i64 (j:Int)∧H=H') b.length
  ⟨0,rfl,Nat.zero_le _,by simp only[sA,sB,seval],by simp only[sA,sB,seval]; try rfl,by simp only[sA,sB,seval]; try rfl,rfl⟩ ?_
 rintro m T _ ⟨j,rfl,hj,t1,t5,t6,rfl⟩
 have hc:=crcR_fold (c:=4294967295) om (b.take j)
 by_cases hlt:j<b.length
 case neg=>
  have hlt':¬(j:Int)<(b.length:Int):=om
  obtain rfl:j=b.length:=om
  rw[List.take_length]at t5 hc
  have wr:IntKind.u32.wrap (4294967295-((b.foldl (fun c x=>itr 8 (c ^^^ x.toNat)) 4294967295:Nat):Int))=(crcR b:Int):=by
   unfold crcR
   rw[wrapU32 om om]; omega
  simp only[sA,sB,seval,t1,t5,t6,lv,hlt',wr]
  exact⟨tt,tt⟩
 have hlt':(j:Int)<(b.length:Int):=om
 obtain⟨x,hb⟩:∃x,b[j]?=some x:=⟨_,List.getElem?_eq_getElem hlt⟩
 have hidx:=h.idx .i64 (i:=j) (by rw[byts_len]; exact hlt)
 have hld:=h.load (byts_get hb)
 have e1:(b.take (j+1)).foldl (fun c x=>itr 8 (c ^^^ x.toNat)) 4294967295=itr 8 ((b.take j).foldl (fun c x=>itr 8 (c ^^^ x.toNat)) 4294967295 ^^^ x.toNat):=by
  rw[take_snoc hb,List.foldl_append]; rfl
 generalize (b.take j).foldl (fun c x=>itr 8 (c ^^^ x.toNat)) 4294967295=c at *
 have hxl:=x.toNat_lt
 have hx:aBin .xor (.int .u32 (c:Int)) (.int .u32 (x.toNat:Int))=some (.int .u32 ((c ^^^ x.toNat:Nat):Int)):=
  bin_xorU .u32 (.inr (.inr (.inl rfl))) (a:=c) (b:=x.toNat) (by simpa only [IntKind.bits] using hc) (by simp only[IntKind.bits]; omega)
 have hy:=xor_lt32 hc (show x.toNat<4294967296 by omega)
 obtain⟨y,hy2⟩:∃y,y=c ^^^ x.toNat:=⟨_,rfl⟩
 rw[← hy2]at hx hy e1
 have w1:IntKind.i64.wrap ((j:Int)+1)=((j+1:Nat):Int):=w64
 simp only[sA,sB,seval,t1,t5,t6,lv,hlt',hidx,hld,b_u32,hx]
 refine aw_loop (fun m (T':Env) H'=>∃k,m=8-k∧k≤8∧T' 1=v∧T' 5=.int .u32 (itr k y:Int)∧T' 6=.int .i64 (j:Int)∧T' 7=.int .i64 (k:Int)∧H=H') 8
  ⟨0,rfl,Nat.zero_le _,by simp only[sA,sB,seval,t1],by simp only[sA,sB,seval]; try rfl,by simp only[sA,sB,seval,t6],by simp only[sA,sB,seval]; try rfl,rfl⟩ ?_
 rintro m T' _ ⟨k,rfl,hk,u1,u5,u6,u7,rfl⟩
 have hik:=itr_lt hy k
 by_cases hk8:k<8
 ·have hk8':(k:Int)<8:=om
  have w7:IntKind.i64.wrap ((k:Int)+1)=((k+1:Nat):Int):=w64
  have hs:=itr_succ k y
  generalize itr k y=z at *
  have rm:aBin .rem (.int .u32 (z:Int)) (.int .u32 2)=some (.int .u32 ((z % 2:Nat):Int)):=remU32 2 om
  have qo:aBin .quo (.int .u32 (z:Int)) (.int .u32 2)=some (.int .u32 ((z / 2:Nat):Int)):=by
   have:=bin_quo .u32 (z:Int) 2 om
   rw[this,show (z:Int).tdiv 2=((z / 2:Nat):Int) from rfl,wrapU32 om om]
  by_cases ho:z % 2=1
  ·have ho':((z % 2:Nat):Int)=1:=om
   have xo:aBin .xor (.int .u32 ((z / 2:Nat):Int)) (.int .u32 3988292384)=some (.int .u32 ((z / 2 ^^^ 3988292384:Nat):Int)):=
    bin_xorU .u32 (.inr (.inr (.inl rfl))) (a:=z / 2) (b:=3988292384) (by simp only[IntKind.bits]; omega) (by simp only[IntKind.bits]; omega)
   have e:crc1 z=z / 2 ^^^ 3988292384:=by unfold crc1; rw[if_pos ho]
   simp only[sA,sB,seval,u1,u5,u6,u7,hk8',rm,ho',qo,xo,w7]
   exact⟨8-(k+1),om,k+1,rfl,om,tt,by rw[hs,e],tt,tt,tt⟩
  ·have ho':¬((z % 2:Nat):Int)=1:=om
   have e:crc1 z=z / 2:=by unfold crc1; rw[if_neg ho]
   simp only[sA,sB,seval,u1,u5,u6,u7,hk8',rm,ho',qo,w7]
   exact⟨8-(k+1),om,k+1,rfl,om,tt,by rw[hs,e],tt,tt,tt⟩
 ·obtain rfl:k=8:=om
  have h88:¬((8:Nat):Int)<8:=om
  simp only[sA,sB,seval,u1,u5,u6,u7,h88,w1]
  exact⟨b.length-(j+1),om,j+1,rfl,om,tt,by rw[e1],tt,tt⟩
theorem pfour0{H:AHeap}{n:Nat}(hn:n<4294967296):ACalls Tryz.prog natT 97 [.int .i64 (n:Int)] H fun v H'=>v=slR H.next 4 (.known 4)∧H'=H.push (.cells (byts (be4 n)) 0 false):=by
 refine acalls_ofN rfl za97 rfl ?_
 have hq:∀d:Nat,0<d→aBin .quo (.int .i64 (n:Int)) (.int .i64 (d:Int))=some (.int .i64 ((n / d:Nat):Int)):=fun d hd=>by
  have bq:=bin_quo .i64 (n:Int) (d:Int) om
  have hle:n / d≤n:=Nat.div_le_self _ _
  rw[bq,show (n:Int).tdiv (d:Int)=((n / d:Nat):Int) from rfl]
  generalize n / d=q at *
  rw[wrap64 om om]
 have h24:aBin .quo (.int .i64 (n:Int)) (.int .i64 16777216)=some (.int .i64 ((n / 16777216:Nat):Int)):=hq 16777216 om
 have h16:aBin .quo (.int .i64 (n:Int)) (.int .i64 65536)=some (.int .i64 ((n / 65536:Nat):Int)):=hq 65536 om
 have h08:aBin .quo (.int .i64 (n:Int)) (.int .i64 256)=some (.int .i64 ((n / 256:Nat):Int)):=hq 256 om
 have wu:∀a:Nat,IntKind.u8.wrap (a:Int)=((a % 256:Nat):Int):=fun a=>wrap_um .u8 (.inl rfl) a
 have bs:=build4 H ((n / 16777216 % 256:Nat):Int) ((n / 65536 % 256:Nat):Int) ((n / 256 % 256:Nat):Int) ((n % 256:Nat):Int)
 rw[← be4_byts]at bs
 simp only[c97,sA,sB,seval,h24,h16,h08,conv_in,wu,bs]
 exact⟨tt,tt⟩
theorem pfour_spec{H:AHeap}{n:Nat}(hn:n<4294967296):ACalls Tryz.prog natT 97 [.int .i64 (n:Int)] H fun v H'=>Cel H'.next H' v (byts (be4 n))∧Ext H.next H H':=by
 refine (pfour0 hn).mono ?_
 rintro _ _ ⟨rfl,rfl⟩
 exact⟨lit_cel H (be4 n) rfl,by rw[push_next]; omega,fun c hc=>get_push_lt hc⟩
def chunkR(kind body:Bs):Bs:=be4 body.length++(kind++body)++be4 (crcR (kind++body))
theorem rchunk_spec{n:Nat}{H:AHeap}{v:AVal}{kind body:Bs}(h:Cel n H v (byts body))(hn:n≤H.next)(hk:kind.length=4)(hb:body.length≤1000):ACalls Tryz.prog natT 80 [.str kind,v] H fun w H'=>AppN 1 0 H' w (byts (chunkR kind body)) (chunkR kind body).length∧Blk w (H.next≤·)∧Ext H.next H H':=by
 refine acalls_ofN rfl za80 rfl ?_
 obtain⟨s1,H1,m1,A1,n1,b1,o1⟩:=app_bytes (app_nil H) (src_str H kind) (by simp only[List.length_nil]; omega)
 have G1:Gw H nilS H1 s1:=⟨n1,b1,o1⟩
 have E1:=G1.ext0
 have m1':aAppend 1 1 H (.slice none 0 (.known 0)) (.str kind)=some (s1,H1):=m1
 have hv1:=h.ext (E1.less hn)
 obtain⟨s2,H2,m2,A2,n2,b2,o2⟩:=app_bytes A1 (src_cel hv1) (by rw[lA]; simp only[List.length_nil]; omega)
 have G2:Gw H nilS H2 s2:=G1.trans ⟨n2,b2,o2⟩
 have E2:=G2.ext0
 have lv2:=(h.ext (E2.less hn)).len
 rw[byts_len]at lv2
 rw[List.nil_append]at A2
 have A2l:(kind++body).length=4+body.length:=by rw[lA,hk]
 simp only[c80,sA,sB,seval,m1',m2,lv2]
 refine (pfour_spec (n:=body.length) om).mono ?_
 rintro v3 H3 ⟨C3,E3⟩
 have e3n:=E3.next
 have A2':=A2.same (H':=H3) e3n (A2.blk'.mono fun c hc=>E3.old c hc)
 obtain⟨s4,H4,m4,A4,n4,b4,o4⟩:=app_bytes (app_nil H3) (src_cel C3) (by rw[be4_len]; simp)
 have G4:Gw H3 nilS H4 s4:=⟨n4,b4,o4⟩
 have E4:=G4.ext0
 have m4':aAppend 1 1 H3 (.slice none 0 (.known 0)) v3=some (s4,H4):=m4
 have A2'':=A2'.same (H':=H4) E4.next (A2'.blk'.mono fun c hc=>E4.old c hc)
 have C2'':=A2''.cel1 A2''.blk'
 obtain⟨s5,H5,m5,A5,n5,b5,o5⟩:=app_bytes A4 (src_cel C2'') (by rw[List.nil_append,be4_len,A2l]; omega)
 have s4b:=G4.new
 have C2h:Cel H5.next H5 s2 (byts (kind++body)):=cel_same (A2'.cel1 A2'.blk') om (A2'.blk'.mono fun c hc=>by rw[o5 c om (s4b.mono fun d hd=>om),E4.old c hc])
 have G5:Gw H3 nilS H5 s5:=G4.trans ⟨n5,b5,o5⟩
 simp only[sA,sB,seval,m4',m5]
 refine (rcrc_spec C2h om).mono ?_
 rintro _ _ ⟨rfl,rfl⟩
 have hcr:crcR (kind++body)<4294967296:=by unfold crcR; omega
 have wc:IntKind.i64.wrap (crcR (kind++body):Int)=(crcR (kind++body):Int):=wrap64 om om
 simp only[sA,sB,seval,conv_in,wc]
 refine (pfour_spec hcr).mono ?_
 rintro v6 H6 ⟨C6,E6⟩
 have A5':=A5.same (H':=H6) E6.next (A5.blk'.mono fun c hc=>E6.old c hc)
 obtain⟨s7,H7,m7,A7,n7,b7,o7⟩:=app_bytes A5' (src_cel C6) (by simp only[lA,List.length_nil,be4_len]; omega)
 have G7:Gw H3 nilS H7 s7:=(G5.ext E6).trans ⟨n7,b7,o7⟩
 have e7:([]:Bs)++be4 body.length++(kind++body)++be4 (crcR (kind++body))=chunkR kind body:=by simp[chunkR]
 rw[e7]at A7
 have E7:=G7.ext0
 have e2n:=E2.next
 simp only[sA,sB,seval,m7]
 exact⟨A7,G7.new.mono fun c hc=>om,by have:=E7.next; omega,fun c hc=>by rw[E7.old c om,E3.old c om,E2.old c hc]⟩
def headR:Bs:=sigB++chunkR kIHDR (headB 1 1)
theorem Ap.lit{H:AHeap}{a:Bs}{m:Nat}(hm:m=a.length):Ap (H.push (.cells (byts a) 0 false)) (slR H.next m (.known m)) a:=by
 subst hm
 exact .inr ⟨H.next,rfl,Nat.lt_succ_self _,row_push _ _⟩
theorem Ap.ext{H H':AHeap}{s:AVal}{a:Bs}(h:Ap H s a)(e:Ext H.next H H'):Ap H' s a:=h.same e.next (h.blk.mono fun c hc=>e.old c hc)
theorem rhead_spec{H:AHeap}:ACalls Tryz.prog natT 77 [.int .i64 1,.int .i64 1] H fun v H'=>AppN 1 0 H' v (byts headR) headR.length∧Ext H.next H H':=by
 refine acalls_ofN rfl za77 rfl ?_
 have bs8:aBuildSl 8 [.int .u8 0] H [(0,1,.int .u8 137),(1,1,.int .u8 80),(2,1,.int .u8 78),(3,1,.int .u8 71),(4,1,.int .u8 13),(5,1,.int .u8 10),(6,1,.int .u8 26),(7,1,.int .u8 10)]=some (slR H.next 8 (.known 8),H.push (.cells (byts sigB) 0 false)):=_root_.id rfl
 obtain⟨H1,hH1⟩:∃H1,H1=H.push (.cells (byts sigB) 0 false):=⟨_,rfl⟩
 have P1:Ap H1 (slR H.next 8 (.known 8)) sigB:=by rw[hH1]; exact Ap.lit rfl
 rw[← hH1]at bs8
 have n1:H1.next=H.next+1:=by rw[hH1,push_next]
 have E1:Ext H.next H H1:=⟨om,fun c hc=>by rw[hH1]; exact get_push_lt hc⟩
 simp only[c77,sA,sB,seval,bs8]
 refine (pfour0 (n:=1) dD).mono ?_
 rintro _ H2 ⟨rfl,hH2⟩
 have P2:Ap H2 (slR H1.next 4 (.known 4)) (be4 1):=by rw[hH2]; exact Ap.lit rfl
 have E2:Ext H1.next H1 H2:=⟨by rw[hH2,push_next]; omega,fun c hc=>by rw[hH2]; exact get_push_lt hc⟩
 simp only[sA,sB,seval]
 refine (pfour_spec (n:=1) dD).mono ?_
 rintro v3 H3 ⟨C3,E3⟩
 obtain⟨s4,H4,m4,A4,G4⟩:=(P2.ext E3).push (src_cel C3) dD dD
 have bs5:aBuildSl 5 [.int .u8 0] H4 [(0,1,.int .u8 8),(1,1,.int .u8 6),(2,1,.int .u8 0),(3,1,.int .u8 0),(4,1,.int .u8 1)]=some (slR H4.next 5 (.known 5),H4.push (.cells (byts [8,6,0,0,1]) 0 false)):=_root_.id rfl
 have E4p:Ext H4.next H4 (H4.push (.cells (byts [8,6,0,0,1]) 0 false)):=⟨by rw[push_next]; omega,fun c hc=>get_push_lt hc⟩
 obtain⟨s5,H5,m5,A5,n5,b5,o5⟩:=app_bytes (A4.same E4p.next (A4.blk'.mono fun c hc=>E4p.old c hc)) (src_cel (lit_cel H4 [8,6,0,0,1] (m:=5) rfl)) dD
 have e5:be4 1++be4 1++[8,6,0,0,1]=headB 1 1:=rfl
 rw[e5]at A5
 have e1n:=E1.next
 have e2n:=E2.next
 have e3n:=E3.next
 have s4b:Blk s4 (H1.next≤·):=(G4.2.1 (H1.next≤·) (blk_some rL)).mono fun c hc=>om
 have g4:=G4.1
 have n5':=n5
 rw[push_next]at n5'
 have E25:Ext H1.next H1 H5:=⟨om,fun c hc=>by rw[o5 c (by rw[push_next]; omega) (s4b.mono fun d hd=>om),E4p.old c om,G4.2.2 c om (blk_some (show c≠H1.next by omega)),E3.old c om,E2.old c hc]⟩
 simp only[sA,sB,seval,m4,bs5,m5]
 refine (rchunk_spec (kind:=kIHDR) (A5.cel1 A5.blk') rL rfl dD).mono ?_
 rintro v6 H6 ⟨A6,-,E6⟩
 have E16:=E25.trans (E6.less E25.next)
 obtain⟨s7,H7,m7,A7,G7⟩:=(P1.ext E16).push (src_cel (A6.cel1 A6.blk')) dD dD
 have e16:=E16.next
 have g7:=G7.1
 simp only[sA,sB,seval,m7]
 exact⟨A7,om,fun c hc=>by rw[G7.2.2 c om (blk_some (show c≠H.next by omega)),E16.old c om,E1.old c hc]⟩
def pxB:Bs:=[1,2,3,255]
def oneR:Bs:=headR++chunkR kIDAT ((hd false++endN true (0::pxB)).map UInt8.ofNat)++chunkR kIEND []
theorem pieces_spec{H0:AHeap}{b:Nat}(R0:Row H0 b (byts pxB))(hb:b<H0.next):ACalls Tryz.prog natT 60 [.int .i64 1,.int .i64 1,.slice (some ⟨b,4,0⟩) 1 (.known 1)] H0 fun v H'=>∃s,AppN 1 0 H' v [s] 1∧AppN 1 0 H' s (byts oneR) oneR.length∧Ext H0.next H0 H':=by
 refine acalls_ofN rfl za60 rfl ?_
 simp only[c60,sA,sB,seval]
 refine rorder_spec.mono ?_
 rintro ov H1 ⟨Ao,E1⟩
 have e1n:=E1.next
 have lo:=Ao.len
 have lo':aLenK false ov=some (.int .i64 1):=lo
 have C1:=Ao.cel1 Ao.blk'
 have io:aIdxA 1 ov (.int .i64 0)=some (cellP ov 0):=C1.idx .i64 (i:=0) dD
 have lp:aLenK false (.slice (some ⟨b,4,0⟩) 1 (.known 1))=some (.int .i64 1):=_root_.id rfl
 have zC0:List AVal:=[nilS,.int .i64 0,nilS,.int .i64 0,.bool false,.bool false]
 obtain⟨H2,m2,r2,k2,q2⟩:=row_newL H1 [nilS,.int .i64 0,nilS,.int .i64 0,.bool false,.bool false] (n:=6) rfl
 have m2':oNew H1 [.slice none 0 (.known 0),.int .i64 0,.slice none 0 (.known 0),.int .i64 0,.bool false,.bool false]=(cellR H1.next 6 0,H2):=m2
 simp only[sA,sB,seval,m2']
 refine aw_loopN (calls_mono _ _) 2 ?_
 have C2:Cel H1.next H2 ov (nats [0]):=cel_same C1 rL (Ao.blk'.mono fun c hc=>q2 c om)
 have ld:oLoad false 1 H2 (cellP ov 0)=some (.int .i64 0):=C2.load (i:=0) rfl
 have rm:aBin .rem (.int .i64 0) (.int .i64 1)=some (.int .i64 0):=_root_.id rfl
 have qo:aBin .quo (.int .i64 0) (.int .i64 1)=some (.int .i64 0):=_root_.id rfl
 simp only[wpN_s,sA,sB,seval,lp,lo',io,ld,rm,qo]
 refine aw_drawC rfl ?_
 simp only[sR,sA,sB,seval]
 refine⟨?_,?_⟩
 ·simp only[ck_nil',ck_cons,ckP_load,ckP_nil,ck_end,and_true,true_and,List.map_cons,List.map_nil,sA,sB,seval]
  refine⟨⟨_,rfl,fun h=>?_⟩,⟨_,rfl,fun h=>?_⟩⟩
  ·rw[sG_lt _ dD]at h
   simp only[sA,sB,seval]at h
   exact absurd h dD
  ·rw[sG_lt _ dD]at h
   simp only[sA,sB,seval]at h
   exact absurd h dD
 have bd:=build1 (.int .u8 0) H2 (x:=.int .u8 0) rfl
 obtain⟨s3,H3,m3,A3,n3,b3,o3⟩:=(AppN.nil 1 0 H2).pushB (m:=1) (xs:=[.int .u8 0]) rfl rfl om (bytes:=1) om om
 have m3':aAppend 1 1 (H2.push (.cells [.int .u8 0] 0 false)) (.slice none 0 (.known 0)) (oneS H2)=some (s3,H3):=m3
 have E3:Ext H2.next H2 H3:=⟨n3,fun c hc=>o3 c hc (blk_nil _)⟩
 have A3':AppN 1 0 H3 s3 (byts [0]) ([0]:Bs).length:=A3
 have s3b:Blk s3 (H2.next≤·):=(b3 (fun _=>False) (blk_nil _)).mono fun _ h=>h.elim False.elim id
 have e3n:=E3.next
 have ix4:aIdxA 4 (.slice (some ⟨b,4,0⟩) 1 (.known 1)) (.int .i64 0)=some (cellR b 4 0):=_root_.id rfl
 have Rb:Row H3 b (byts pxB):=R0.same (by rw[E3.old b om,q2 b om,E1.old b hb])
 have ld4:oLoad true 4 H3 (cellR b 4 0)=some (.agg (byts pxB)):=row_loadN Rb (n:=4) rfl
 obtain⟨H4,m4,r4,k4,q4⟩:=row_newL H3 [.int .u8 0,.int .u8 0,.int .u8 0,.int .u8 0] (n:=4) rfl
 obtain⟨H5,m5,r5,k5,q5⟩:=row_storeN r4 (n:=4) rfl (xs:=byts pxB) rfl rfl
 have x0:oLoad false 1 H5 (cellR H3.next 4 0)=some (.int .u8 1):=row_load r5 rfl rfl
 have x1:oLoad false 1 H5 (cellR H3.next 4 1)=some (.int .u8 2):=row_load r5 rfl rfl
 have x2:oLoad false 1 H5 (cellR H3.next 4 2)=some (.int .u8 3):=row_load r5 rfl rfl
 have x3:oLoad false 1 H5 (cellR H3.next 4 3)=some (.int .u8 255):=row_load r5 rfl rfl
 have i0':=ia0 H3.next
 have i1':=ia1 H3.next
 have i2':=ia2 H3.next
 have i3':=ia3 H3.next
 have bs4:aBuildSl 4 [.int .u8 0] H5 [(0,1,.int .u8 1),(1,1,.int .u8 2),(2,1,.int .u8 3),(3,1,.int .u8 255)]=some (slR H5.next 4 (.known 4),H5.push (.cells (byts pxB) 0 false)):=_root_.id rfl
 have E5p:Ext H5.next H5 (H5.push (.cells (byts pxB) 0 false)):=⟨by rw[push_next]; omega,fun c hc=>get_push_lt hc⟩
 have e35:∀c,c<H3.next→H5.get c=H3.get c:=fun c hc=>by rw[q5 c om,q4 c om]
 have A5:AppN 1 0 (H5.push (.cells (byts pxB) 0 false)) s3 (byts [0]) ([0]:Bs).length:=A3'.same (by rw[push_next]; omega) (A3'.blk'.mono fun c hc=>by rw[E5p.old c om,e35 c hc])
 obtain⟨s6,H6,m6,A6,n6,b6,o6⟩:=app_bytes A5 (src_cel (lit_cel H5 pxB (m:=4) rfl)) dD
 rw[push_next]at n6
 have E26:Ext H2.next H2 H6:=⟨om,fun c hc=>by rw[o6 c (by rw[push_next]; omega) (s3b.mono fun d hd=>om),E5p.old c om,e35 c om,E3.old c hc]⟩
 have e26n:=E26.next
 simp only[sA,sB,seval,m3',bd,ix4,ld4,m4,m5,i0',i1',i2',i3',x0,x1,x2,x3,bs4,m6]
 refine rhead_spec.mono ?_
 rintro v7 H7 ⟨A7,E7⟩
 have e7n:=E7.next
 obtain⟨s8,H8,m8,A8,n8,b8,o8⟩:=app_bytes (app_nil H7) (src_cel (A7.cel1 A7.blk')) dD
 have G8:Gw H7 nilS H8 s8:=⟨n8,b8,o8⟩
 have E8:=G8.ext0
 have m8':aAppend 1 1 H7 (.slice none 0 (.known 0)) v7=some (s8,H8):=m8
 have E28:Ext H2.next H2 H8:=E26.trans ((E7.less e26n).trans (E8.less om))
 have R2z:Row H8 H1.next [nilS,.int .i64 0,nilS,.int .i64 0,.bool false,.bool false]:=r2.same (E28.old _ om)
 have lz:oLoad true 6 H8 (cellR H1.next 6 0)=some (.agg [nilS,.int .i64 0,nilS,.int .i64 0,.bool false,.bool false]):=row_loadN R2z (n:=6) rfl
 have E68:Ext H6.next H6 H8:=E7.trans (E8.less e7n)
 have Cin:Cel H6.next H8 s6 (byts (0::pxB)):=(A6.cel1 A6.blk').ext E68
 have dw0:DW H8 nilS nilS [] []:=⟨AppN.nil _ _ _,⟨nilS,rfl,.inl ⟨rfl,rfl⟩⟩⟩
 simp only[sA,sB,seval,m8',lz]
 refine (rwrite8_spec (bg:=false) dw0 Cin (by have:=E68.next; omega) dD).mono ?_
 rintro _ H9 ⟨av,sv,s9,rfl,D9,A9,av9,vb9,E9⟩
 rw[List.nil_append]at D9
 have e9n:=E9.next
 have e8n:=E8.next
 obtain⟨Ha,ma,ra,ka,qa⟩:=row_newL H9 [nilS,.int .i64 0,nilS,.int .i64 0,.bool false,.bool false] (n:=6) rfl
 have ma':oNew H9 [.slice none 0 (.known 0),.int .i64 0,.slice none 0 (.known 0),.int .i64 0,.bool false,.bool false]=(cellR H9.next 6 0,Ha):=ma
 obtain⟨a1,a2,a3⟩:=dw_aeq D9
 have ones:[av,.int .i64 0,sv,.int .i64 0,.bool false,.bool true].all AVal.one=true:=by
  show (av.one&&(true&&(sv.one&&(true&&(true&&(true&&true))))))=true
  rw[D9.1.one,a3]; rfl
 obtain⟨Hb,mb,rb,kb,qb⟩:=row_storeN ra (n:=6) rfl (xs:=[av,.int .i64 0,sv,.int .i64 0,.bool false,.bool true]) rfl ones
 have lb:oLoad true 6 Hb (cellR H9.next 6 0)=some (.agg [av,.int .i64 0,sv,.int .i64 0,.bool false,.bool true]):=row_loadN rb (n:=6) rfl
 have e9b:∀c,c<H9.next→Hb.get c=H9.get c:=fun c hc=>by rw[qb c om,qa c om]
 obtain⟨Hc,mc,rc,kc,qc⟩:=row_storeN ((R2z.same (E9.old _ om)).same (e9b _ om)) (n:=6) rfl (xs:=[av,.int .i64 0,sv,.int .i64 0,.bool false,.bool true]) rfl ones
 have lc:oLoad true 6 Hc (cellR H1.next 6 0)=some (.agg [av,.int .i64 0,sv,.int .i64 0,.bool false,.bool true]):=row_loadN rc (n:=6) rfl
 have e9c:∀c,c<H9.next→c≠H1.next→Hc.get c=H9.get c:=fun c hc hne=>by rw[qc c hne,e9b c hc]
 have svF:Blk sv fun _=>False:=vb9 _ (vb_agg (blk_nil _)) _ _ rfl
 have w10:IntKind.i64.wrap 0=0:=rfl
 have hH1:H1.next<H9.next:=om
 have Dc:DW Hc av sv (0::pxB) []:=by
  refine⟨D9.1.same om ((D9.1.blk'.and av9).mono fun c hc=>e9c c hc.1 om),⟨sv,rfl,?_⟩⟩
  obtain⟨x,ex,hx⟩:=D9.2
  simp only[AVal.agg.injEq,List.cons.injEq,and_true]at ex
  rw[← ex.1]at hx
  exact cel_same hx om (svF.mono fun _ h=>h.elim)
 have A9c:AppN 1 H8.next Hc s9 (u8s (hd false)) (hd false).length:=AppN.samN A9 om fun c h1 h2=>e9c c h2 om
 simp only[sA,sB,seval,ext_0,ext_1,ext_2,ma',mb,lb,mc,lo',w10,lc]
 refine (rend8_spec Dc dD).mono ?_
 rintro _ Hd ⟨uu,sd,rfl,⟨cs,rfl,c6,ones2⟩,Cd,Ed⟩
 have edn:=Ed.next
 obtain⟨He,me,re,ke,qe⟩:=row_newL Hd [nilS,.int .i64 0,nilS,.int .i64 0,.bool false,.bool false] (n:=6) rfl
 have me':oNew Hd [.slice none 0 (.known 0),.int .i64 0,.slice none 0 (.known 0),.int .i64 0,.bool false,.bool false]=(cellR Hd.next 6 0,He):=me
 obtain⟨Hf,mf,rf,kf,qf⟩:=row_storeN re (n:=6) rfl (xs:=cs) c6 ones2
 have edf:∀c,c<Hd.next→Hf.get c=Hd.get c:=fun c hc=>by rw[qf c om,qe c om]
 have A9f:AppN 1 0 Hf s9 (u8s (hd false)) (hd false).length:=AppN.samN' A9c (Nat.zero_le _) om fun c h1 h2=>by rw[edf c om,Ed.old c h2]
 have s9b:Blk s9 (H8.next≤·):=by
  rcases A9 with⟨rfl,_⟩ | ⟨bb,low,rfl,_,h3,_⟩
  ·exact blk_nil _
  ·exact blk_some h3
 have Cdf:Cel Hd.next Hf sd (u8s (endN true (0::pxB))):=cel_same Cd rL ((cel_blk Cd).mono fun c hc=>edf c hc)
 obtain⟨sg,Hg,mg,Ag,ng,bg,og⟩:=app_u8 A9f Cdf (by decide +kernel)
 have lt0:∀x∈hd false++endN true (0::pxB),x<256:=by decide +kernel
 rw[u8s_byts lt0]at Ag
 obtain⟨eB,heB⟩:∃l:Bs,l=(hd false++endN true (0::pxB)).map UInt8.ofNat:=⟨_,rfl⟩
 have heBl:(hd false++endN true (0::pxB)).length=eB.length:=by rw[heB,List.length_map]
 have h16:1≤eB.length∧eB.length≤100:=by rw[heB]; decide +kernel
 rw[← heB,heBl]at Ag
 have sgb:=(bg _ s9b)
 have lg:=Ag.len
 have hpos:(0:Int)<(eB.length:Int):=om
 simp only[sA,sB,seval,ext_0,ext_1,ext_2,lc,me',mf,mg,lg,hpos]
 refine (rchunk_spec (kind:=kIDAT) (Ag.cel1 Ag.blk') rL rfl om).mono ?_
 rintro vh Hh ⟨Ah,ahb,Eh⟩
 have ehn:=Eh.next
 have s8b:=G8.new
 have kg:∀c,c<H8.next→c≠H1.next→Hg.get c=H8.get c:=fun c hc hne=>by
  rw[og c om (s9b.mono fun d hd=>om),edf c om,Ed.old c om,e9c c om hne,E9.old c hc]
 have A8h:AppN 1 0 Hh s8 (byts headR) headR.length:=by
  rw[List.nil_append]at A8
  exact A8.same om ((A8.blk'.and s8b).mono fun c hc=>by rw[Eh.old c om,kg c hc.1 om])
 have hcl:(chunkR kIDAT eB).length=eB.length+12:=by unfold chunkR; simp only[lA,be4_len]; simp only[kIDAT,List.length_cons,List.length_nil]; omega
 have hhl:headR.length=33:=rfl
 obtain⟨si,Hi,mi,Ai,ni,bi,oi⟩:=app_bytes A8h (src_cel (Ah.cel1 Ah.blk')) om
 have sib:=bi _ s8b
 simp only[sA,sB,seval,mi,lo',w10]
 refine (rchunk_spec (H:=Hi) (v:=.slice none 0 (.known 0)) (kind:=kIEND) (body:=[]) (n:=0) (.inl ⟨rfl,rfl⟩) (Nat.zero_le _) rfl dD).mono ?_
 rintro vj Hj ⟨Aj,ajb,Ej⟩
 have ejn:=Ej.next
 obtain⟨sk,Hk,mk,Ak,nk,bk,ok⟩:=app_bytes (Ai.same (H':=Hj) ejn (Ai.blk'.mono fun c hc=>Ej.old c hc)) (src_cel (Aj.cel1 Aj.blk')) (by rw[lA,hcl,hhl]; have:(chunkR kIEND []).length=12:=rfl; omega)
 have skb:=bk _ sib
 have bdo:=build1 nilS Hk Ak.one
 obtain⟨so,Ho,mo,Ao',no,bo,oo⟩:=(AppN.nil 1 0 Hk).pushB (m:=1) (xs:=[sk]) rfl (by rw[List.all_cons,Ak.one]; rfl) om (bytes:=24) om om
 have mo':aAppend 1 24 (Hk.push (.cells [sk] 0 false)) (.slice none 0 (.known 0)) (oneS Hk)=some (so,Ho):=mo
 have bdo':aBuildSl 1 [.slice none 0 (.known 0)] Hk [(0,1,sk)]=some (oneS Hk,Hk.push (.cells [sk] 0 false)):=bdo
 have ro:Row Hk H1.next [av,.int .i64 0,sv,.int .i64 0,.bool false,.bool true]→True:=fun _=>trivial
 have w01:IntKind.i64.wrap 1=1:=rfl
 have hfin:AppN 1 0 Ho sk (byts oneR) oneR.length:=by
  have e:headR++chunkR kIDAT eB++chunkR kIEND []=oneR:=by rw[heB]; rfl
  rw[e]at Ak
  exact Ak.same no (Ak.blk'.mono fun c hc=>oo c hc (blk_nil _))
 have frame:Ext H0.next H0 Ho:=⟨om,fun c hc=>by
  rw[oo c om (blk_nil _),ok c om (sib.mono fun d hd=>om),Ej.old c om,oi c om (s8b.mono fun d hd=>om),Eh.old c om,kg c om om,E28.old c om,q2 c om,E1.old c hc]⟩
 simp only[wpN_s,sA,sB,seval,mk,bdo',mo',w01,lp]
 exact⟨sk,Ao',hfin,frame⟩
theorem one_spec{H0:AHeap}:ACalls Tryz.prog natT 34 [] H0 fun v H'=>AppN 1 0 H' v (byts oneR) oneR.length∧Ext H0.next H0 H':=by
 refine acalls_ofN rfl za34 rfl ?_
 have bd:aBuild [.int .u8 0,.int .u8 0,.int .u8 0,.int .u8 0] [(0,1,.int .u8 1),(1,1,.int .u8 2),(2,1,.int .u8 3),(3,1,.int .u8 255)]=some (.agg (byts pxB)):=_root_.id rfl
 have bs:aBuildSl 1 [.int .u8 0,.int .u8 0,.int .u8 0,.int .u8 0] H0 [(0,4,.agg (byts pxB))]=some (.slice (some ⟨H0.next,4,0⟩) 1 (.known 1),H0.push (.cells (byts pxB) 0 false)):=_root_.id rfl
 simp only[c34,sA,sB,seval,bd,bs]
 refine (pieces_spec (row_push H0 (byts pxB)) (Nat.lt_succ_self _)).mono ?_
 rintro v H1 ⟨s,A,As,E⟩
 have C:=A.cel1 A.blk'
 have i0':aIdxA 1 v (.int .i64 0)=some (cellP v 0):=C.idx .i64 (i:=0) (by simp)
 have l0:oLoad false 1 H1 (cellP v 0)=some s:=C.load (i:=0) rfl
 have en:=E.next
 rw[push_next]at en E
 simp only[sA,sB,seval,i0',l0]
 exact⟨As,om,fun c hc=>by rw[E.old c om,get_push_lt hc]⟩
noncomputable section
def c35:AFn:=⟨7,zq [zo 2 (.mv (zi 0))] (zq [zm 3 0,zx 4 33 [.t 3],zx 5 33 [zi 255],zx 6 32 [.t 4,.t 5],zm 2 6] .ret),[.t 2]⟩
theorem za35:cN Tryz.prog 35=some c35:=by kernel_rfl
end
theorem one_eq:oneR=[]++(headF 1 1++idatF (hdB false++endB8 true (rawF [pxB]))++chunkF kIEND []):=by decide +kernel
theorem one_fin:FinB 1 1 pxB oneR:=by
 rw[one_eq]
 exact fin_bytes (bg:=false) (ini:=headF 1 1) (by decide +kernel) rfl dD rfl (.inl ⟨rfl,rfl,rfl⟩)
theorem part_spec{H:AHeap}{n:Nat}(hn:n<256):ACalls Tryz.prog natT 35 [.int .i64 (n:Int)] H fun v H'=>v=.int .i64 (Tx.partF n:Int)∧H=H':=by
 refine acalls_ofN rfl za35 rfl ?_
 simp only[c35,sA,sB,seval]
 refine (Tx.of_spec (x:=(n:Int)) om om).mono ?_
 rintro v _ ⟨rfl,rfl⟩
 simp only[sA,sB,seval]
 refine (Tx.of_spec (x:=255) om om).mono ?_
 rintro v _ ⟨rfl,rfl⟩
 have e2:(255:Int)*4294967296=1095216660480:=by decide
 have e3:(n:Int)*4294967296=((n*4294967296:Nat):Int):=om
 simp only[sA,sB,seval]
 rw[e3]
 refine (Tx.div_spec hn).mono ?_
 rintro v _ ⟨rfl,rfl⟩
 simp only[sA,sB,seval]
 exact⟨tt,tt⟩
theorem decode_nil{H:AHeap}:ACalls Tryz.prog natT 8 [nilS] H fun x H'=>x=.tuple [.agg [.int .i64 0,.int .i64 0,nilS],.int .i64 13]∧Ext H.next H H':=by
 refine acalls_ofN rfl za8 rfl ?_
 obtain⟨H1,m1,r1,k1,q1⟩:=row_newL H [.int .i64 0,.int .i64 0,nilS] (n:=3) rfl
 have m1':oNew H [.int .i64 0,.int .i64 0,.slice none 0 (.known 0)]=(cellR H.next 3 0,H1):=m1
 have ln:aLenK false nilS=some (.int .i64 0):=_root_.id rfl
 have sl0:aSl 1 nilS none (some (.int .i64 0)) none=some nilS:=_root_.id rfl
 have b0:aBS H1 nilS=some (.str []):=_root_.id rfl
 have mn:(if (8:Int)<0 then (8:Int) else 0)=0:=rfl
 simp only[c8,sA,sB,seval,m1',ln,mn,sl0,b0]
 have e1:aLenK true (.str [])=some (.int .i64 0):=_root_.id rfl
 have e2:aLenK true (.str sigB)=some (.int .i64 8):=_root_.id rfl
 have k:∀H,ACalls Tryz.prog natT 46 [.str [],.str sigB] H fun v H'=>v=.bool false∧H=H':=fun H=>by
  refine acalls_ofN rfl za46 rfl ?_
  simp only[c46,sA,sB,seval,e1,e2]
  exact⟨tt,tt⟩
 have k2:∀H,ACalls Tryz.prog natT 22 [.str [],.str sigB] H fun v H'=>v=.bool false∧H=H':=fun H=>by
  refine acalls_ofN rfl za22 rfl ?_
  simp only[c22,sA,sB,seval]
  refine (k H).mono ?_
  rintro _ _ ⟨rfl,rfl⟩
  simp only[sA,sB,seval]
  exact⟨tt,tt⟩
 refine (k2 H1).mono ?_
 rintro _ _ ⟨rfl,rfl⟩
 have bd:aBuild [.int .i64 0,.int .i64 0,.slice none 0 (.known 0)] []=some (.agg [.int .i64 0,.int .i64 0,nilS]):=_root_.id rfl
 obtain⟨H2,m2,r2,k2,q2⟩:=row_storeN r1 (n:=3) rfl (xs:=[.int .i64 0,.int .i64 0,nilS]) rfl rfl
 simp only[sA,sB,seval,bd,m2]
 refine fin_c3t _ _ _ (by simp only[sA,sB,seval]; exact row_loadN r2 (n:=3) rfl) ?_
 simp only[sA,sB,seval]
 exact⟨tt,om,fun c hc=>by rw[q2 c om,q1 c om]⟩
theorem awake_spec(H:AHeap):ACalls Tryz.prog natT 12 [] H fun x _=>x=.bool true:=by
 refine acalls_ofN rfl za12 rfl ?_
 simp only[c12,sA,sB,seval]
 refine one_spec.mono ?_
 rintro v1 H1 ⟨A1,E1⟩
 obtain⟨ts,rs,d,G,q,e1,hT,hdl,hts,hrs,hrD⟩:=one_fin
 have dsp:=decode_spec (w:=1) (h:=1) (k:=oneR.length) dD dD dD dD (by rw[← e1]; exact A1) hT hdl hts hrs (by rw[hrD]; rfl)
 rw[hrD]at dsp
 simp only[sA,sB,seval]
 refine dsp.mono ?_
 rintro _ H2 ⟨b,rfl,R2,hb,hb',E2⟩
 have epl:placeK (orderL 1 1) pxB (4*(1*1)) (1*1)=pxB:=by decide
 rw[epl]at R2
 obtain⟨H3,m3,r3,k3,q3⟩:=row_newL H2 [.int .i64 0,.int .i64 0,nilS] (n:=3) rfl
 have m3':oNew H2 [.int .i64 0,.int .i64 0,.slice none 0 (.known 0)]=(cellR H2.next 3 0,H3):=m3
 obtain⟨H4,m4,r4,k4,q4⟩:=row_storeN r3 (n:=3) rfl (xs:=[.int .i64 1,.int .i64 1,slR b 4 (.known 4)]) rfl rfl
 have m4':oStore 3 H3 (cellR H2.next 3 0) (.agg [.int .i64 1,.int .i64 1,slR b (4*(1*1)) (.known (4*(1*1)))])=some H4:=m4
 have R4:Row H4 b (byts pxB):=R2.same (by rw[q4 b om,q3 b om])
 simp only[sA,sB,seval,ext_0,ext_1,m3',m4']
 refine decode_nil.mono ?_
 rintro _ H5 ⟨rfl,E5⟩
 have e5n:=E5.next
 obtain⟨H6,m6,r6,k6,q6⟩:=row_newL H5 [.int .i64 0,.int .i64 0,nilS] (n:=3) rfl
 have m6':oNew H5 [.int .i64 0,.int .i64 0,.slice none 0 (.known 0)]=(cellR H5.next 3 0,H6):=m6
 obtain⟨H7,m7,r7,k7,q7⟩:=row_storeN r6 (n:=3) rfl (xs:=[.int .i64 0,.int .i64 0,nilS]) rfl rfl
 have e57:∀c,c<H5.next→H7.get c=H5.get c:=fun c hc=>by rw[q7 c om,q6 c om]
 have R7:Row H7 b (byts pxB):=(R4.same (E5.old b om)).same (e57 b om)
 have T7:Row H7 H2.next [.int .i64 1,.int .i64 1,slR b 4 (.known 4)]:=(r4.same (E5.old _ om)).same (e57 _ om)
 have l7:oLoad true 3 H7 (cellR H2.next 3 0)=some (.agg [.int .i64 1,.int .i64 1,slR b 4 (.known 4)]):=row_loadN T7 (n:=3) rfl
 have bs4:aBuildSl 4 [.int .u8 0] H7 [(0,1,.int .u8 1),(1,1,.int .u8 2),(2,1,.int .u8 3),(3,1,.int .u8 255)]=some (slR H7.next 4 (.known 4),H7.push (.cells (byts pxB) 0 false)):=_root_.id rfl
 obtain⟨H8,hH8⟩:∃H8,H8=H7.push (.cells (byts pxB) 0 false):=⟨_,rfl⟩
 have C8:Cel (H7.next+1) H8 (slR H7.next 4 (.known 4)) (byts pxB):=by rw[hH8]; exact lit_cel H7 pxB rfl
 have n8:H8.next=H7.next+1:=by rw[hH8,push_next]
 have E8:Ext H7.next H7 H8:=⟨om,fun c hc=>by rw[hH8]; exact get_push_lt hc⟩
 rw[← hH8]at bs4
 have bd:aBuild [.int .i64 0,.int .i64 0,.slice none 0 (.known 0)] [(0,1,.int .i64 1),(1,1,.int .i64 1),(2,1,slR H7.next 4 (.known 4))]=some (.agg [.int .i64 1,.int .i64 1,slR H7.next 4 (.known 4)]):=_root_.id rfl
 have Cb:Cel H8.next H8 (slR b 4 (.known 4)) (byts pxB):=(R7.same (E8.old b om)).cel rfl om
 simp only[sA,sB,seval,ext_0,ext_1,m6',m7,l7,bs4,bd]
 refine (tsame_spec (w:=1) (h:=1) Cb C8 rL om).mono ?_
 rintro _ H9 ⟨rfl,E9⟩
 have e9n:=E9.next
 have l9:oLoad true 3 H9 (cellR H2.next 3 0)=some (.agg [.int .i64 1,.int .i64 1,slR b 4 (.known 4)]):=row_loadN ((T7.same (E8.old _ om)).same (E9.old _ om)) (n:=3) rfl
 simp only[sA,sB,seval,l9]
 refine (Tx.sample_spec (w:=1) (h:=1) (pix:=pxB) ((Cb.ext E9).more e9n) rfl (u:=12345) (v:=-9) dD dD dD dD).mono ?_
 rintro _ Ha ⟨rfl,Ea⟩
 have hcol:Tx.colF 1 1 pxB 12345 (-9)=[Tx.partF 1,Tx.partF 2,Tx.partF 3]:=by decide
 rw[hcol]
 simp only[sA,sB,seval,callvP_func _ _ _ _ _ (show 35<1024 by decide),List.append_nil]
 refine (part_spec (n:=1) dD).mono ?_
 rintro _ _ ⟨rfl,rfl⟩
 simp only[sA,sB,seval,callvP_func _ _ _ _ _ (show 35<1024 by decide),List.append_nil]
 refine (part_spec (n:=2) dD).mono ?_
 rintro _ _ ⟨rfl,rfl⟩
 simp only[sA,sB,seval,callvP_func _ _ _ _ _ (show 35<1024 by decide),List.append_nil]
 refine (part_spec (n:=3) dD).mono ?_
 rintro _ _ ⟨rfl,rfl⟩
 have bv:∀a b c:Int,aBuild [.int .i64 0,.int .i64 0,.int .i64 0] [(0,1,.int .i64 a),(1,1,.int .i64 b),(2,1,.int .i64 c)]=some (.agg [.int .i64 a,.int .i64 b,.int .i64 c]):=fun _ _ _=>rfl
 have eq1:aPf (.eqS false [(0,.int),(1,.int),(2,.int)]) [.agg (Tx.nats [Tx.partF 1,Tx.partF 2,Tx.partF 3]),.agg [.int .i64 (Tx.partF 1:Int),.int .i64 (Tx.partF 2:Int),.int .i64 (Tx.partF 3:Int)]]=some (.bool true):=(eq_vec [Tx.partF 1,Tx.partF 2,Tx.partF 3] rfl).1
 have bz:aBuild [.int .i64 0,.int .i64 0,.slice none 0 (.known 0)] []=some (.agg [.int .i64 0,.int .i64 0,nilS]):=_root_.id rfl
 simp only[sA,sB,seval,bv,eq1,bz]
 refine (Tx.sample_spec (w:=0) (h:=0) (pix:=[]) (s:=nilS) (.inl ⟨rfl,rfl⟩) rfl (u:=0) (v:=0) dD dD dD dD).mono ?_
 rintro _ Hb ⟨rfl,Eb⟩
 have hcol0:Tx.colF 0 0 [] 0 0=[0,0,0]:=by decide
 rw[hcol0]
 have bz3:aBuild [.int .i64 0,.int .i64 0,.int .i64 0] []=some (.agg (Tx.nats [0,0,0])):=_root_.id rfl
 have eq2:=(eq_vec [0,0,0] rfl).1
 simp only[sA,sB,seval,bz3,eq2]
open Go.WideShapes Go.ChangeShapes
theorem rd_same{H H':AHeap}{a:Ad}{k:Nat}(e:H'.get a.b=H.get a.b):rdCells H' a k=rdCells H a k:=by
 unfold rdCells
 rw[e]
theorem arg_pix4{K:Type}{enc:TypeId×Value→K}{P:Program}{W:World}{base:Nat}{t e b:TypeId}{v:Value}{d:DataW K}{p:List MemPlace}(ht:P.underlying t=some (.slice e))(he:P.underlying e=some (.array 4 b))(hb:P.underlying b=some (.int .u8))(c4:P.cellsOf e=4)(c1:P.cellsOf b=1)
  (hok:Value.okWide P W .any base t v) (h:DataW.Trod enc P W 0 (fun _=>true) true t v d p):∃ps:List Bs,Pix4 (heapW W).next (heapW W) (absW W v) ps:=by
 rcases arg_slice ht om hok h with⟨h2,_⟩ | ⟨c,n,off,len,cap,els,sp,h2,h3,h4,h5,h6,h7,h8⟩
 ·exact⟨[],by rw[h2]; rfl,fun i p hp=>by simp at hp⟩
 ·have key:∀i,i<len→∃q:Bs,q.length=4∧rdCells (heapW W) ⟨c,n,off+i*4⟩ 4=some (byts q):=by
   intro i hi
   obtain⟨cs,k,y,g1,g2,g3,g4⟩:=h8 i hi
   rw[c4]at g1 g2
   obtain⟨xs,m,_,hx,hl,hn,hi'⟩:=DataW.trod_array he g3
   have one:∀j,j<4→∃z:Int,(cs.drop j).take 1=[.int .u8 z]∧(Lit.int .u8 z).wf=true:=by
    intro j hj
    have q:=hi' j hj
    rw[c1,Nat.mul_one]at q
    have hxj:xs[j]?=some (xs[j]'om):=List.getElem?_eq_getElem _
    rw[hxj]at q
    obtain⟨z,e1,_,e3⟩:=DataW.trod_int hb q
    exact⟨z,e1,e3⟩
   obtain⟨a0,a1,a2,a3,rfl⟩:∃a b c d,cs=[a,b,c,d]:=by
    match cs,g1 with
    | [a,b,c,d],_=>exact⟨a,b,c,d,rfl⟩
   obtain⟨z0,e0,w0⟩:=one 0 dD
   obtain⟨z1,e1,w1⟩:=one 1 dD
   obtain⟨z2,e2,w2⟩:=one 2 dD
   obtain⟨z3,e3,w3⟩:=one 3 dD
   simp at e0 e1 e2 e3
   subst e0 e1 e2 e3
   refine⟨[UInt8.ofNat z0.toNat,UInt8.ofNat z1.toNat,UInt8.ofNat z2.toNat,UInt8.ofNat z3.toNat],rfl,?_⟩
   rw[g2]
   simp only[byts,List.map_cons,List.map_nil,absW,byte_wf w0,byte_wf w1,byte_wf w2,byte_wf w3]
  have hall:∀k,k≤len→∃l:List Bs,l.length=k∧∀(i:Nat) (q:Bs),l[i]?=some q→q.length=4∧rdCells (heapW W) ⟨c,n,off+i*4⟩ 4=some (byts q):=by
   intro k
   induction k with
   | zero=>intro _; exact⟨[],rfl,by simp⟩
   | succ k ih=>
    intro hk
    obtain⟨l,hl,hq⟩:=ih om
    obtain⟨q,hq1⟩:=key k om
    refine⟨l++[q],by simp[hl],fun i r hr=>?_⟩
    by_cases hi:i<l.length
    ·rw[List.getElem?_append_left hi]at hr
     exact hq i r hr
    ·rw[List.getElem?_append_right om]at hr
     have h0:i-l.length=0:=by
      rcases Nat.eq_zero_or_pos (i-l.length) with h0 | h0
      ·exact h0
      ·rw[List.getElem?_eq_none (by simp; omega)]at hr; simp at hr
     rw[h0]at hr
     simp at hr
     subst hr
     rw[show i=k by omega]
     exact hq1
  obtain⟨l,hl,hq⟩:=hall len rL
  refine⟨l,by rw[h2,hl]; rfl,fun i q hiq=>?_⟩
  obtain⟨q1,q2⟩:=hq i q hiq
  have hil:i<len:=by rw[← hl]; exact (List.getElem?_eq_some_iff.1 hiq).1
  refine⟨q1,c,n,off+i*4,?_,h5,fun H' eH=>?_⟩
  ·rw[h2]
   show (bif Nat.blt i len then some (AVal.ptr (some ⟨c,n,off+i*4⟩)) else none)=_
   rw[show Nat.blt i len=true by simpa[Nat.blt_eq] using hil]; rfl
  ·have q3:rdCells H' ⟨c,n,off+i*4⟩ 4=some (byts q):=by rw[rd_same eH]; exact q2
   simp only[oLoad,cellR,q3]
   rfl
end Go.Proofs.Tb
namespace Go.Abs
open Go.ChangeShapes Go.WideShapes Go.ChangeAt Go.RowKit
section
variable {H:Type} {enc:TypeId×Value→H} {P:Program}
theorem trodAll_below{W W':World}{base:Nat}{sp:Nat→Bool}{held:Bool}(hb:Below W.heap.size W W'):∀{ts:List TypeId} {vs:List Value} {ds:List (DataW H)} {ps:List MemPlace},
  DataW.TrodAll enc P W base sp held ts vs ds ps→DataW.TrodAll enc P W' base sp held ts vs ds ps
 | [],[],[],_,h=>h
 | _::_,_::_,_::_,_,⟨p,q,⟨n,h1⟩,h2,e⟩=>by
  refine⟨p,q,⟨n,DataW.trod_carry n _ _ _ h1 fun x hx=>hb.same (DataW.trod_lt n _ _ _ h1 x hx)⟩,trodAll_below hb h2,e⟩
theorem trodVars_below{W W':World}{sp:Nat→Bool}{gs:List (DataW H)}{q:List MemPlace}(h:DataW.TrodVars enc P W sp [] gs q):DataW.TrodVars enc P W' sp [] gs q:=by
 obtain⟨rfl,rfl⟩:=trodVars_none h
 exact h
theorem law_post{f:Func}{s:ChangeSpec}{apart:Bool}{W W':World}{args:Array Value}{ds gs:List (DataW H)}{before:List MemPlace}{tb:TypeId}
  (hl:laidOutB P=true) (hm:mapsRowed P=true)
  (hz:((List.range P.types.size).all fun t=>match P.underlying t with | some (.slice e)=>decide (0<P.cellsOf e) | _=>true)=true)
  (hts:(f.params.toList.all fun t=>decide (t<P.types.size))=true) (hv:s.vars=[])
  (hW:DataW.Whole enc P f.params.toList s.vars apart W args.toList ds gs before)
  (hfn:s.fn H (ds++gs)={ results:=[.lit (.bool true)],args:=ds }) (hr:f.resultTypes=#[tb]) (ht:P.underlying tb=some .bool) (hb:Below W.heap.size W W') :
  s.post enc P f apart true false false W args (.bool true) W':=by
 have hlt:∀p∈before,p.block<W.heap.size:=fun p hp=>hW.lt p hp
 have hW0:=hW
 obtain⟨p,q,hA,hV,rfl,hfz,hnd⟩:=hW
 rw[hv]at hV
 obtain⟨rfl,rfl⟩:=trodVars_none hV
 have hT:∀t∈f.params.toList,t<P.types.size:=fun t ht=>by simpa using List.all_eq_true.1 hts t ht
 refine⟨ds,[],p++[],[],p,[],hW0,?_,?_,?_,World.keptBut_mono (fun x hx=>⟨hx,by simpa using hx⟩) (hb.frame (·∈p++[])),fun h=>by simp at h⟩
 ·rw[hfn,hr]
  exact trodAll_cons_mk (shut_bool ht _) trodAll_mk0
 ·rw[hfn]
  refine trodAll_below hb (DataW.TrodAll.respare (kids_rows hl hm) (slices_full_of P hz) hT hA fun x hx=>?_)
  simpa using hlt x (by simpa using hx)
 ·rw[hfn,hv]
  exact trodVars_below (W:=W) hV
end
end Go.Abs
