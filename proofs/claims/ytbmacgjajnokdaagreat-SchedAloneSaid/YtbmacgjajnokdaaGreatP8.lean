/- Part of a proof (T24 T25 T26 T27 T28 T29 T30 T31 T32 T57 T70 T71 T72); no condition. -/
import Derived.KernelRfl
import Derived.Test.YtbmacgjajnokdaaGreatP6
import Derived.Test.YtbmacgjajnokdaaGreatP7
set_option linter.unusedSimpArgs false
set_option linter.unusedVariables false
set_option linter.defProp false
set_option linter.unnecessarySimpa false
namespace Go.Proofs.Tb
open Go.Abs Go.Abs.S
variable {sent:Nat}
theorem tokFl_len(t:Tok):(tokFl t).length≤4:=by
 unfold tokFl lenFl disFl
 split
 ·simp
 ·split <;> simp
theorem tokFls_len(l:List Tok):(l.flatMap tokFl).length≤4*l.length:=by
 induction l with
 | nil=>simp
 | cons t r ih=>
  have:=tokFl_len t
  simp only[List.flatMap_cons,lA,List.length_cons]; omega
theorem toksF_end{b:Bs}{to f i:Nat}(h:¬i<to):toksF b to f i=[]:=by
 cases f with
 | zero=>rfl
 | succ f=>simp only[toksF,if_neg h]
def lastN(last:Bool):Nat:=if last then 1 else 0
def restB:List Nat:=[1,1,1,1,1]
theorem block_preT{n0:Nat}{τ:Nat→Nat}{H:AHeap}{ow mb:Nat}{out kept:AVal}{b:Bs}{K0 to:Nat}(P:PW sent n0 τ H ow mb out kept b K0)(hK0:K0≤sent)(hKB:K0=0∨K0+3≤b.length)(hst:sent≤to)(hto:to≤b.length)(hlong:to-sent≤4096)(h6:∀c,c<n0→τ c≠6)(hb:b.length≤20000)(Q:AVal→AHeap→Prop)
  (hrest:∀(T2:Env) (H2:AHeap) (τ2:Nat→Nat) (K q:Nat),T2 0=cellR ow 9 0→T2 1=.int .i64 (to:Int)→T2 6=cellR q 2 0→PW sent n0 τ2 H2 ow mb out kept b K→(K≤to∧(K=0∨K+3≤b.length))→FM τ2 H2 (T2 7) ([(1,1),(1,2)]++(toks b sent to).flatMap tokFl)→Row H2 q (fldC (1,1))→τ2 q=0→n0≤q→q<H2.next→(∀c,c<n0→τ2 c≠6)→(∀c,c<H.next→τ2 c=τ c∧(c≠mb→c≠ow→τ c<100→τ c≠6→H2.get c=H.get c))→H.next≤H2.next→wp (ACalls Tryz.prog noNat) (hold (restP restB c290.body)) (fin c290.res Q) T2 H2) :
  ACalls Tryz.prog noNat 290 [cellR ow 9 0,.int .i64 (to:Int),.bool true] H Q:=by
 refine acalls_ofN rfl za290 rfl ?_
 refine wp_cutP restB ?_
 have o1:=P.own
 have o3:=P.n0n
 obtain⟨H1,m1,r1,k1,q1⟩:=row_newL H [.int .u32 0,.int .i64 0] (n:=2) rfl
 obtain⟨H2,m2,r2,k2',q2⟩:=row_storeN r1 (n:=2) rfl (xs:=[.int .u32 0,.int .i64 1]) rfl rfl
 obtain⟨H3,m3,r3,k3',q3⟩:=row_st r2 (n:=2) rfl (i:=0) om (x:=.int .u32 1) rfl rfl
 have r3':Row H3 H.next (fldC (1,1)):=r3
 have b0:aBuild [.int .u32 0,.int .i64 0] [(0,1,.int .u32 0),(1,1,.int .i64 1)]=some (.agg [.int .u32 0,.int .i64 1]):=rfl
 have b1:aBuild [.int .u32 0,.int .i64 0] [(0,1,.int .u32 1),(1,1,.int .i64 2)]=some (fldV (1,2)):=rfl
 have E3:Ext H.next H H3:=⟨om,fun c hc=>by rw[q3 c om,q2 c om,q1 c om]⟩
 have P3:=P.ext E3
 have ld:oLoad true 2 H3 (cellR H.next 2 0)=some (fldV (1,1)):=row_loadN r3' (n:=2) rfl
 simp only[c290,restB]at hrest
 simp only[c290,restB,sC,sA,sB,seval,b0,m1,m2,fldA,fld0,m3]
 refine (prune_spec P3.row om).mono ?_
 rintro w _ rfl
 have e5:Ext H3.next H3 (H3.push (.cells (flds [(1,1),(1,2)]) 0 false)):=(Ext.refl _ _).push rL _
 have P4:=P3.mark h6 e5.next fun c hc _=>e5.old c hc
 have F4:FM (upT τ H3 (H3.push (.cells (flds [(1,1),(1,2)]) 0 false)) 6) (H3.push (.cells (flds [(1,1),(1,2)]) 0 false)) (.slice (some ⟨H3.next,4,0⟩) 2 (.known 2)) [(1,1),(1,2)]:=⟨LinM.built (m:=2) (k:=2) H3 (xs:=flds [(1,1),(1,2)]) rfl,blk_some (upT_new rL (by rw[push_next]; exact Nat.lt_succ_self _))⟩
 have l5:oLoad false 1 (H3.push (.cells (flds [(1,1),(1,2)]) 0 false)) (cellR ow 9 5)=some (.int .i64 (sent:Int)):=row_load P4.row rfl rfl
 simp only[sA,sB,seval,ld,b1,buildF2,nil_cell,fldA,fld0,l5]
 obtain⟨Hs,hHs⟩:∃G,G=H3.push (.cells (flds [(1,1),(1,2)]) 0 false):=⟨_,rfl⟩
 have ks:Hs.next=H3.next+1:=by rw[hHs]; rfl
 obtain⟨τs,hτs⟩:∃t,t=upT τ H3 Hs 6:=⟨_,rfl⟩
 rw[← hHs]at e5 P4 F4 l5 ⊢
 rw[← hτs]at P4 F4
 have hs6:∀c,c<n0→τs c≠6:=fun c hc=>by rw[hτs,upT_old om]; exact h6 c hc
 have fs0:∀c,c<H3.next→τs c=τ c:=fun c hc=>by rw[hτs,upT_old hc]
 have tz0:=P.tz H.next rL
 refine aw_loop (fun q (T:Env) H'=>∃(i K:Nat) (τ':Nat→Nat) (acc:List Tok),(K≤i∧(K=0∨K+3≤b.length))∧sent≤i∧i≤to∧to-i≤q∧acc++toksF b to q i=toks b sent to∧acc.length+q≤4096∧T 0=cellR ow 9 0∧T 1=.int .i64 (to:Int)∧T 6=cellR H.next 2 0∧T 8=.int .i64 (i:Int)∧PW sent n0 τ' H' ow mb out kept b K∧FM τ' H' (T 7) ([(1,1),(1,2)]++acc.flatMap tokFl)∧Row H' H.next (fldC (1,1))∧τ' H.next=0∧H.next<H'.next∧(∀c,c<n0→τ' c≠6)∧(∀c,c<H.next→τ' c=τ c∧(c≠mb→c≠ow→τ c<100→τ c≠6→H'.get c=H.get c))) (to-sent)
  ⟨sent,K0,τs,[],⟨hK0,hKB⟩,Nat.le_refl _,hst,Nat.le_refl _,rfl,by simp only[List.length_nil]; omega,by simp only[sA,sB,seval]; try rfl,by simp only[sA,sB,seval]; try rfl,by simp only[sA,sB,seval]; try rfl,by simp only[sA,sB,seval]; try rfl,P4,by simp only[sA,sB,seval]; exact F4,r3'.same (e5.old _ om),by rw[fs0 _ om]; exact tz0,om,hs6,fun c hc=>⟨fs0 c om,fun _ _ _ _=>by rw[e5.old c om]; exact E3.old c hc⟩⟩ ?_
 rintro q T H' ⟨i,K,τ',acc,hKi,hsi,hib,hq,htk,hal,g0,g1,g6,g8,P',F',R',tq,hn',h6',fr⟩
 by_cases hlt:i<to
 ·have hlt':(i:Int)<(to:Int):=om
  obtain⟨q,rfl⟩:∃n,q=n+1:=⟨q-1,om⟩
  have hfl:=tokFls_len acc
  simp only[sA,sB,seval,g0,g1,g6,g8,hlt']
  refine (block_step P' F' h6' hKi.1 hlt hto hb).mono ?_
  rintro _ H4 ⟨rfl,τ4,K4,hK4,P4,F4,h64,fm⟩
  have n4:=fm.1
  have o4:=P4.mbn
  have fr4:∀c,c<H.next→τ4 c=τ c∧(c≠mb→c≠ow→τ c<100→τ c≠6→H4.get c=H.get c):=fun c hc=>by
   obtain⟨e1,e2⟩:=fr c hc
   obtain⟨e3,e4⟩:=fm.2 c om
   exact⟨e3.trans e1,fun a1 a2 a3 a4=>(e4 a1 a2 (by rw[e1]; exact a3)).trans (e2 a1 a2 a3 a4)⟩
  have R4:Row H4 H.next (fldC (1,1)):=R'.same ((fm.2 _ hn').2 om om (by rw[tq]; omega))
  have tq4:τ4 H.next=0:=(fm.2 _ hn').1.trans tq
  rcases tok_at (b:=b) (to:=to) (f:=q) hlt hto with⟨h3,et⟩ | ⟨h3,et⟩
  ·obtain⟨x1,x2,x3,x4⟩:=matchG_ok hlt hto hb h3
   generalize matchG b i to=mg at *
   have h3':(3:Int)≤(mg.1:Int):=om
   simp only[sA,sB,seval,g0,g1,g6,g8,ext_0,ext_1,h3']
   refine (matched_spec mg.1 mg.2 F4.1 (by simp only[lA,List.length_cons,List.length_nil]; omega) h3 x1 x2 om).mono ?_
   rintro w H5 ⟨k5,s5⟩
   obtain⟨F5,e5⟩:=F4.stp k5 s5
   have P5:=P4.mark h64 s5.1 e5
   have n5:=s5.1
   have ef:[(1,1),(1,2)]++List.flatMap tokFl acc++(lenFl mg.1++disFl mg.2)=[(1,1),(1,2)]++(acc++[(⟨mg.1,mg.2,0⟩:Tok)]).flatMap tokFl:=by
    simp only[List.flatMap_append,List.flatMap_cons,List.flatMap_nil,List.append_nil,List.append_assoc,tokFl]
    rw[if_neg om]
   rw[ef]at F5; simp only[List.cons_append,List.nil_append]at F5
   simp only[sA,sB,seval,g0,g1,g6,g8,wrapN i mg.1 om]
   exact⟨q,Nat.lt_succ_self _,i+mg.1,K4,_,acc++[⟨mg.1,mg.2,0⟩],om,om,om,om,by rw[← htk,et]; simp,by simp; omega,tt,tt,tt,tt,P5,F5,R4.same (e5 _ om (by rw[tq4]; omega)),by rw[upT_old om]; exact tq4,om,fun c hc=>by rw[upT_old om]; exact h64 c hc,fun c hc=>⟨by rw[upT_old om]; exact (fr4 c hc).1,fun a1 a2 a3 a4=>by rw[e5 c om (by rw[(fr4 c hc).1]; exact a4)]; exact (fr4 c hc).2 a1 a2 a3 a4⟩⟩
  ·generalize matchG b i to=mg at *
   have h3':¬(3:Int)≤(mg.1:Int):=om
   have l3:oLoad false 1 H4 (cellR ow 9 3)=some kept:=row_load P4.row rfl rfl
   have l4:oLoad false 1 H4 (cellR ow 9 4)=some (.int .i64 0):=row_load P4.row rfl rfl
   have e0:(i:Int)-0=(i:Int):=om
   have wi:IntKind.i64.wrap (i:Int)=(i:Int):=wrap64 om om
   obtain⟨c,hc⟩:∃c,b[i]?=some c:=⟨_,List.getElem?_eq_getElem om⟩
   have ck:Cel H4.next H4 kept (byts b):=P4.kp.cel1 P4.kp.blk'
   have ix:=ck.idx .i64 (i:=i) (by rw[byts_len]; omega)
   have lx:=ck.load (byts_get hc)
   have cv:=c.toNat_lt
   have egd:b.getD i 0=c:=by rw[List.getD_eq_getElem?_getD,hc]; rfl
   have wc:IntKind.i64.wrap (c.toNat:Int)=(c.toNat:Int):=wrap64 om om
   simp only[sA,sB,seval,g0,g1,g6,g8,ext_0,ext_1,h3',nil_cell,fldA,fld0,l3,l4,e0,wi,ix,lx,conv_in,wc]
   refine (symbol_spec H4 c.toNat om).mono ?_
   rintro _ H5 ⟨rfl,E5⟩
   have P5:=P4.ext E5
   have F5:FM τ4 H5 (T 7) _:=⟨F4.1.ext E5,F4.2⟩
   have n5:=E5.next
   obtain⟨w,H6,m6,k6,s6⟩:=FL.add F5.1 [symF c.toNat] (by simp only[lA,List.length_cons,List.length_nil]; omega)
   obtain⟨F6,e6⟩:=F5.stp k6 s6
   have P6:=P5.mark h64 s6.1 e6
   have n6:=s6.1
   have m6':aAppend 2 16 (H5.push (.cells (fldC (symF c.toNat)) 0 false)) (T 7) (.slice (some ⟨H5.next,2,0⟩) 1 (.known 1))=some (w,H6):=by simpa[flds] using m6
   have ef:[(1,1),(1,2)]++List.flatMap tokFl acc++[symF c.toNat]=[(1,1),(1,2)]++(acc++[(⟨0,0,b.getD i 0⟩:Tok)]).flatMap tokFl:=by
    simp only[List.flatMap_append,List.flatMap_cons,List.flatMap_nil,List.append_nil,List.append_assoc,tokFl,if_true,egd]
   rw[ef]at F6; simp only[List.cons_append,List.nil_append]at F6
   simp only[sA,sB,seval,g0,g1,g6,g8,buildF1,m6',wrap1 i om]
   exact⟨q,Nat.lt_succ_self _,i+1,K4,_,acc++[⟨0,0,b.getD i 0⟩],om,om,om,om,by rw[← htk,et]; simp,by simp; omega,tt,tt,tt,tt,P6,F6,R4.same (by rw[e6 _ om (by rw[tq4]; omega)]; exact E5.old _ om),by rw[upT_old om]; exact tq4,om,fun c hc=>by rw[upT_old om]; exact h64 c hc,fun c hc=>⟨by rw[upT_old om]; exact (fr4 c hc).1,fun a1 a2 a3 a4=>by rw[e6 c om (by rw[(fr4 c hc).1]; exact a4),E5.old c om]; exact (fr4 c hc).2 a1 a2 a3 a4⟩⟩
 ·have hlt':¬(i:Int)<(to:Int):=om
  simp only[sA,sB,seval,g0,g1,g6,g8,hlt']
  rw[toksF_end hlt,List.append_nil]at htk
  subst htk
  exact hrest _ _ τ' K H.next (by simp only[sA,sB,seval,g0]) (by simp only[sA,sB,seval,g1]) (by simp only[sA,sB,seval,g6]) P' om (by simp only[sA,sB,seval]; exact F') R' tq o3 hn' h6' fr om
theorem block_preF{n0:Nat}{τ:Nat→Nat}{H:AHeap}{ow mb:Nat}{out kept:AVal}{b:Bs}{K0 to:Nat}(P:PW sent n0 τ H ow mb out kept b K0)(hK0:K0≤sent)(hKB:K0=0∨K0+3≤b.length)(hst:sent≤to)(hto:to≤b.length)(hlong:to-sent≤4096)(h6:∀c,c<n0→τ c≠6)(hb:b.length≤20000)(Q:AVal→AHeap→Prop)
  (hrest:∀(T2:Env) (H2:AHeap) (τ2:Nat→Nat) (K q:Nat),T2 0=cellR ow 9 0→T2 1=.int .i64 (to:Int)→T2 6=cellR q 2 0→PW sent n0 τ2 H2 ow mb out kept b K→(K≤to∧(K=0∨K+3≤b.length))→FM τ2 H2 (T2 7) ([(0,1),(1,2)]++(toks b sent to).flatMap tokFl)→Row H2 q (fldC (0,1))→τ2 q=0→n0≤q→q<H2.next→(∀c,c<n0→τ2 c≠6)→(∀c,c<H.next→τ2 c=τ c∧(c≠mb→c≠ow→τ c<100→τ c≠6→H2.get c=H.get c))→H.next≤H2.next→wp (ACalls Tryz.prog noNat) (hold (restP restB c290.body)) (fin c290.res Q) T2 H2) :
  ACalls Tryz.prog noNat 290 [cellR ow 9 0,.int .i64 (to:Int),.bool false] H Q:=by
 refine acalls_ofN rfl za290 rfl ?_
 refine wp_cutP restB ?_
 have o1:=P.own
 have o3:=P.n0n
 obtain⟨H1,m1,r1,k1,q1⟩:=row_newL H [.int .u32 0,.int .i64 0] (n:=2) rfl
 obtain⟨H2,m2,r2,k2',q2⟩:=row_storeN r1 (n:=2) rfl (xs:=[.int .u32 0,.int .i64 1]) rfl rfl
 obtain⟨H3,hH3⟩:∃G,G=H2:=⟨_,rfl⟩
 rw[← hH3]at m2 r2 k2' q2
 have r3':Row H3 H.next (fldC (0,1)):=r2
 have b0:aBuild [.int .u32 0,.int .i64 0] [(0,1,.int .u32 0),(1,1,.int .i64 1)]=some (.agg [.int .u32 0,.int .i64 1]):=rfl
 have b1:aBuild [.int .u32 0,.int .i64 0] [(0,1,.int .u32 1),(1,1,.int .i64 2)]=some (fldV (1,2)):=rfl
 have E3:Ext H.next H H3:=⟨om,fun c hc=>by rw[q2 c om,q1 c om]⟩
 have P3:=P.ext E3
 have ld:oLoad true 2 H3 (cellR H.next 2 0)=some (fldV (0,1)):=row_loadN r3' (n:=2) rfl
 simp only[c290,restB]at hrest
 simp only[c290,restB,sC,sA,sB,seval,b0,m1,m2,fldA,fld0]
 refine (prune_spec P3.row om).mono ?_
 rintro w _ rfl
 have e5:Ext H3.next H3 (H3.push (.cells (flds [(0,1),(1,2)]) 0 false)):=(Ext.refl _ _).push rL _
 have P4:=P3.mark h6 e5.next fun c hc _=>e5.old c hc
 have F4:FM (upT τ H3 (H3.push (.cells (flds [(0,1),(1,2)]) 0 false)) 6) (H3.push (.cells (flds [(0,1),(1,2)]) 0 false)) (.slice (some ⟨H3.next,4,0⟩) 2 (.known 2)) [(0,1),(1,2)]:=⟨LinM.built (m:=2) (k:=2) H3 (xs:=flds [(0,1),(1,2)]) rfl,blk_some (upT_new rL (by rw[push_next]; exact Nat.lt_succ_self _))⟩
 have l5:oLoad false 1 (H3.push (.cells (flds [(0,1),(1,2)]) 0 false)) (cellR ow 9 5)=some (.int .i64 (sent:Int)):=row_load P4.row rfl rfl
 simp only[sA,sB,seval,ld,b1,buildF2,nil_cell,fldA,fld0,l5]
 obtain⟨Hs,hHs⟩:∃G,G=H3.push (.cells (flds [(0,1),(1,2)]) 0 false):=⟨_,rfl⟩
 have ks:Hs.next=H3.next+1:=by rw[hHs]; rfl
 obtain⟨τs,hτs⟩:∃t,t=upT τ H3 Hs 6:=⟨_,rfl⟩
 rw[← hHs]at e5 P4 F4 l5 ⊢
 rw[← hτs]at P4 F4
 have hs6:∀c,c<n0→τs c≠6:=fun c hc=>by rw[hτs,upT_old om]; exact h6 c hc
 have fs0:∀c,c<H3.next→τs c=τ c:=fun c hc=>by rw[hτs,upT_old hc]
 have tz0:=P.tz H.next rL
 refine aw_loop (fun q (T:Env) H'=>∃(i K:Nat) (τ':Nat→Nat) (acc:List Tok),(K≤i∧(K=0∨K+3≤b.length))∧sent≤i∧i≤to∧to-i≤q∧acc++toksF b to q i=toks b sent to∧acc.length+q≤4096∧T 0=cellR ow 9 0∧T 1=.int .i64 (to:Int)∧T 6=cellR H.next 2 0∧T 8=.int .i64 (i:Int)∧PW sent n0 τ' H' ow mb out kept b K∧FM τ' H' (T 7) ([(0,1),(1,2)]++acc.flatMap tokFl)∧Row H' H.next (fldC (0,1))∧τ' H.next=0∧H.next<H'.next∧(∀c,c<n0→τ' c≠6)∧(∀c,c<H.next→τ' c=τ c∧(c≠mb→c≠ow→τ c<100→τ c≠6→H'.get c=H.get c))) (to-sent)
  ⟨sent,K0,τs,[],⟨hK0,hKB⟩,Nat.le_refl _,hst,Nat.le_refl _,rfl,by simp only[List.length_nil]; omega,by simp only[sA,sB,seval]; try rfl,by simp only[sA,sB,seval]; try rfl,by simp only[sA,sB,seval]; try rfl,by simp only[sA,sB,seval]; try rfl,P4,by simp only[sA,sB,seval]; exact F4,r3'.same (e5.old _ om),by rw[fs0 _ om]; exact tz0,om,hs6,fun c hc=>⟨fs0 c om,fun _ _ _ _=>by rw[e5.old c om]; exact E3.old c hc⟩⟩ ?_
 rintro q T H' ⟨i,K,τ',acc,hKi,hsi,hib,hq,htk,hal,g0,g1,g6,g8,P',F',R',tq,hn',h6',fr⟩
 by_cases hlt:i<to
 ·have hlt':(i:Int)<(to:Int):=om
  obtain⟨q,rfl⟩:∃n,q=n+1:=⟨q-1,om⟩
  have hfl:=tokFls_len acc
  simp only[sA,sB,seval,g0,g1,g6,g8,hlt']
  refine (block_step P' F' h6' hKi.1 hlt hto hb).mono ?_
  rintro _ H4 ⟨rfl,τ4,K4,hK4,P4,F4,h64,fm⟩
  have n4:=fm.1
  have o4:=P4.mbn
  have fr4:∀c,c<H.next→τ4 c=τ c∧(c≠mb→c≠ow→τ c<100→τ c≠6→H4.get c=H.get c):=fun c hc=>by
   obtain⟨e1,e2⟩:=fr c hc
   obtain⟨e3,e4⟩:=fm.2 c om
   exact⟨e3.trans e1,fun a1 a2 a3 a4=>(e4 a1 a2 (by rw[e1]; exact a3)).trans (e2 a1 a2 a3 a4)⟩
  have R4:Row H4 H.next (fldC (0,1)):=R'.same ((fm.2 _ hn').2 om om (by rw[tq]; omega))
  have tq4:τ4 H.next=0:=(fm.2 _ hn').1.trans tq
  rcases tok_at (b:=b) (to:=to) (f:=q) hlt hto with⟨h3,et⟩ | ⟨h3,et⟩
  ·obtain⟨x1,x2,x3,x4⟩:=matchG_ok hlt hto hb h3
   generalize matchG b i to=mg at *
   have h3':(3:Int)≤(mg.1:Int):=om
   simp only[sA,sB,seval,g0,g1,g6,g8,ext_0,ext_1,h3']
   refine (matched_spec mg.1 mg.2 F4.1 (by simp only[lA,List.length_cons,List.length_nil]; omega) h3 x1 x2 om).mono ?_
   rintro w H5 ⟨k5,s5⟩
   obtain⟨F5,e5⟩:=F4.stp k5 s5
   have P5:=P4.mark h64 s5.1 e5
   have n5:=s5.1
   have ef:[(0,1),(1,2)]++List.flatMap tokFl acc++(lenFl mg.1++disFl mg.2)=[(0,1),(1,2)]++(acc++[(⟨mg.1,mg.2,0⟩:Tok)]).flatMap tokFl:=by
    simp only[List.flatMap_append,List.flatMap_cons,List.flatMap_nil,List.append_nil,List.append_assoc,tokFl]
    rw[if_neg om]
   rw[ef]at F5; simp only[List.cons_append,List.nil_append]at F5
   simp only[sA,sB,seval,g0,g1,g6,g8,wrapN i mg.1 om]
   exact⟨q,Nat.lt_succ_self _,i+mg.1,K4,_,acc++[⟨mg.1,mg.2,0⟩],om,om,om,om,by rw[← htk,et]; simp,by simp; omega,tt,tt,tt,tt,P5,F5,R4.same (e5 _ om (by rw[tq4]; omega)),by rw[upT_old om]; exact tq4,om,fun c hc=>by rw[upT_old om]; exact h64 c hc,fun c hc=>⟨by rw[upT_old om]; exact (fr4 c hc).1,fun a1 a2 a3 a4=>by rw[e5 c om (by rw[(fr4 c hc).1]; exact a4)]; exact (fr4 c hc).2 a1 a2 a3 a4⟩⟩
  ·generalize matchG b i to=mg at *
   have h3':¬(3:Int)≤(mg.1:Int):=om
   have l3:oLoad false 1 H4 (cellR ow 9 3)=some kept:=row_load P4.row rfl rfl
   have l4:oLoad false 1 H4 (cellR ow 9 4)=some (.int .i64 0):=row_load P4.row rfl rfl
   have e0:(i:Int)-0=(i:Int):=om
   have wi:IntKind.i64.wrap (i:Int)=(i:Int):=wrap64 om om
   obtain⟨c,hc⟩:∃c,b[i]?=some c:=⟨_,List.getElem?_eq_getElem om⟩
   have ck:Cel H4.next H4 kept (byts b):=P4.kp.cel1 P4.kp.blk'
   have ix:=ck.idx .i64 (i:=i) (by rw[byts_len]; omega)
   have lx:=ck.load (byts_get hc)
   have cv:=c.toNat_lt
   have egd:b.getD i 0=c:=by rw[List.getD_eq_getElem?_getD,hc]; rfl
   have wc:IntKind.i64.wrap (c.toNat:Int)=(c.toNat:Int):=wrap64 om om
   simp only[sA,sB,seval,g0,g1,g6,g8,ext_0,ext_1,h3',nil_cell,fldA,fld0,l3,l4,e0,wi,ix,lx,conv_in,wc]
   refine (symbol_spec H4 c.toNat om).mono ?_
   rintro _ H5 ⟨rfl,E5⟩
   have P5:=P4.ext E5
   have F5:FM τ4 H5 (T 7) _:=⟨F4.1.ext E5,F4.2⟩
   have n5:=E5.next
   obtain⟨w,H6,m6,k6,s6⟩:=FL.add F5.1 [symF c.toNat] (by simp only[lA,List.length_cons,List.length_nil]; omega)
   obtain⟨F6,e6⟩:=F5.stp k6 s6
   have P6:=P5.mark h64 s6.1 e6
   have n6:=s6.1
   have m6':aAppend 2 16 (H5.push (.cells (fldC (symF c.toNat)) 0 false)) (T 7) (.slice (some ⟨H5.next,2,0⟩) 1 (.known 1))=some (w,H6):=by simpa[flds] using m6
   have ef:[(0,1),(1,2)]++List.flatMap tokFl acc++[symF c.toNat]=[(0,1),(1,2)]++(acc++[(⟨0,0,b.getD i 0⟩:Tok)]).flatMap tokFl:=by
    simp only[List.flatMap_append,List.flatMap_cons,List.flatMap_nil,List.append_nil,List.append_assoc,tokFl,if_true,egd]
   rw[ef]at F6; simp only[List.cons_append,List.nil_append]at F6
   simp only[sA,sB,seval,g0,g1,g6,g8,buildF1,m6',wrap1 i om]
   exact⟨q,Nat.lt_succ_self _,i+1,K4,_,acc++[⟨0,0,b.getD i 0⟩],om,om,om,om,by rw[← htk,et]; simp,by simp; omega,tt,tt,tt,tt,P6,F6,R4.same (by rw[e6 _ om (by rw[tq4]; omega)]; exact E5.old _ om),by rw[upT_old om]; exact tq4,om,fun c hc=>by rw[upT_old om]; exact h64 c hc,fun c hc=>⟨by rw[upT_old om]; exact (fr4 c hc).1,fun a1 a2 a3 a4=>by rw[e6 c om (by rw[(fr4 c hc).1]; exact a4),E5.old c om]; exact (fr4 c hc).2 a1 a2 a3 a4⟩⟩
 ·have hlt':¬(i:Int)<(to:Int):=om
  simp only[sA,sB,seval,g0,g1,g6,g8,hlt']
  rw[toksF_end hlt,List.append_nil]at htk
  subst htk
  exact hrest _ _ τ' K H.next (by simp only[sA,sB,seval,g0]) (by simp only[sA,sB,seval,g1]) (by simp only[sA,sB,seval,g6]) P' om (by simp only[sA,sB,seval]; exact F') R' tq o3 hn' h6' fr om
open Go.Abs Go.Abs.S
variable {sent:Nat}
theorem flds_at{fs:List (Nat×Nat)}{i:Nat}{f:Nat×Nat}(h:fs[i]?=some f):((flds fs).drop (i*2)).take 2=fldC f:=by
 induction fs generalizing i with
 | nil=>simp at h
 | cons g r ih=>
  cases i with
  | zero=>simp at h; subst h; simp[flds,fldC]
  | succ i=>
   have:=ih (by simpa using h)
   have e:(i+1)*2=i*2+2:=om
   rw[e]
   simpa[flds,fldC] using this
theorem FL.at{H:AHeap}{v:AVal}{fs:List (Nat×Nat)}(h:FL H v fs){i:Nat}{f:Nat×Nat}(hf:fs[i]?=some f):∃a,aIdxA 2 v (.int .i64 (i:Int))=some a∧oLoad true 2 H a=some (.agg (fldC f)):=by
 obtain⟨b,lim,h1,h2,_⟩:=LinM.at h (i:=i) (List.getElem?_eq_some_iff.1 hf).1
 exact⟨_,h1,by rw[h2,flds_at hf]⟩
theorem fldOk_lt{f:Nat×Nat}(h:fldOk f=true):f.1<2 ^ f.2∧f.2≤16:=by
 simp only[fldOk,Bool.and_eq_true,Nat.blt_eq,Nat.ble_eq]at h
 exact⟨of_decide_eq_true (by simpa[Nat.blt] using h.1),h.2⟩
theorem fldBits_snoc(fs:List (Nat×Nat))(f:Nat×Nat):fldBits (fs++[f])=fldBits fs++bitsN f.1 f.2:=by simp[fldBits]
theorem wideF_le{fs:List (Nat×Nat)}(h:∀f∈fs,fldOk f=true):wideF fs≤16*fs.length:=by
 induction fs with
 | nil=>simp[wideF]
 | cons f r ih=>
  have h1:=(fldOk_lt (h f (by simp))).2
  have h2:=ih fun g hg=>h g (by simp[hg])
  simp only[wideF,List.map_cons,List.sum_cons,List.length_cons]at h2 ⊢; omega
def kB(k:Nat):Prop:=k=1∨k=2∨k=4∨k=6
structure BR(sent ln:Nat)(τ:Nat→Nat)(H:AHeap)(ow o K q:Nat)(mv kept:AVal)(b:Bs):Prop where
 row:Row H ow (dC sent (cellR o 3 0) kept K mv)
 tow:τ ow=1
 own:ow<H.next
 kp:AppN 1 0 H kept (byts b) b.length
 kb:Blk kept (τ ·=5)
 fst:Row H q (fldC (ln,1))
 tq:τ q=0
 qn:q<H.next
theorem BR.fr{ln:Nat}{S:Nat→Prop}{τ τ':Nat→Nat}{H H':AHeap}{ow o K q:Nat}{mv kept:AVal}{b:Bs}(B:BR sent ln τ H ow o K q mv kept b)(f:FrS S τ H τ' H')(h0:¬S 0)(h1:¬S 1)(h5:¬S 5):BR sent ln τ' H' ow o K q mv kept b:=
 have hk:Blk kept fun c=>c<H.next∧τ c=5:=B.kp.blk'.and B.kb
 ⟨B.row.same ((f.2 _ B.own).2 (by rw[B.tow]; exact h1)),(f.2 _ B.own).1.trans B.tow,Nat.lt_of_lt_of_le B.own f.1,B.kp.same f.1 (hk.mono fun c hc=>(f.2 c hc.1).2 (by rw[hc.2]; exact h5)),hk.mono fun c hc=>(f.2 c hc.1).1.trans hc.2,B.fst.same ((f.2 _ B.qn).2 (by rw[B.tq]; exact h0)),(f.2 _ B.qn).1.trans B.tq,Nat.lt_of_lt_of_le B.qn f.1⟩
theorem FM.fr{S:Nat→Prop}{τ τ':Nat→Nat}{H H':AHeap}{v:AVal}{fs:List (Nat×Nat)}(h:FM τ H v fs)(f:FrS S τ H τ' H')(h6:¬S 6):FM τ' H' v fs:=
 have hb:Blk v fun c=>c<H.next∧τ c=6:=(LinM.blk h.1).and h.2
 ⟨LinM.same h.1 f.1 (hb.mono fun c hc=>(f.2 c hc.1).2 (by rw[hc.2]; exact h6)),hb.mono fun c hc=>(f.2 c hc.1).1.trans hc.2⟩
theorem OW.ext'{τ:Nat→Nat}{H H':AHeap}{o:Nat}{M:List Bool}{pl:Nat}(h:OW H.next τ H o M pl)(e:Ext H.next H H'):OW H'.next τ H' o M pl:=(OW.ext h e.next fun c hc=>e.old c hc).more e.next rL
theorem OW.tz{n:Nat}{τ:Nat→Nat}{H:AHeap}{o:Nat}{M:List Bool}{pl:Nat}(h:OW n τ H o M pl):∀c,n≤c→τ c=0:=by
 obtain⟨vb,h1,h2,h3,h4,h5,h6,h7,h8⟩:=h
 exact h5
def restC:List Nat:=[1,1,1,1,1,1,1,1,1,1]
theorem put_loop{to ln:Nat}{τ:Nat→Nat}{H:AHeap}{T:Env}{Q:AVal→AHeap→Prop}{ow o K q:Nat}{mv kept:AVal}{b:Bs}{fs:List (Nat×Nat)}{M:List Bool}{pl:Nat}(g0:T 0=cellR ow 9 0)(g1:T 1=.int .i64 (to:Int))(B:BR sent ln τ H ow o K q mv kept b)(W:OW H.next τ H o M pl)(F:FM τ H (T 7) fs)
  (hf:∀f∈fs,fldOk f=true) (hl:fs.length≤20000) (hpl:pl≤1000000) (hM:M.length≤1000000) (hto:to≤20000)
  (hQ:∀w H2 τ2,OW H2.next τ2 H2 o (M++fldBits fs) (pl+wideF fs)→Row H2 ow (dC to (cellR o 3 0) kept K mv)→τ2 ow=1→ow<H2.next→FrS (kB) τ H τ2 H2→Q w H2) :
  wp (ACalls Tryz.prog noNat) (hold (restP restC c290.body)) (fin c290.res Q) T H:=by
 have hlen:aLenK false (T 7)=some (.int .i64 (fs.length:Int)):=LinM.len F.1
 obtain⟨fv,hfv⟩:∃fv,fv=T 7:=⟨_,rfl⟩
 rw[← hfv]at hlen F
 simp only[c290,restP,restC,hold_eq,sA,sB,seval,g0,g1,← hfv,hlen]
 refine aw_loop (fun m (T:Env) H'=>∃(i:Nat) (τ':Nat→Nat),i≤fs.length∧m=fs.length-i∧T 0=cellR ow 9 0∧T 1=.int .i64 (to:Int)∧T 174=fv∧T 175=.int .i64 (fs.length:Int)∧T 176=.int .i64 (i:Int)∧BR sent ln τ' H' ow o K q mv kept b∧FM τ' H' fv fs∧OW H'.next τ' H' o (M++fldBits (fs.take i)) (pl+wideF (fs.take i))∧FrS (kB) τ H τ' H') fs.length
  ⟨0,τ,Nat.zero_le _,rfl,by simp only[sA,sB,seval,g0],by simp only[sA,sB,seval,g1],by simp only[sA,sB,seval],by simp only[sA,sB,seval]; try rfl,by simp only[sA,sB,seval]; try rfl,B,F,by simpa[fldBits,wideF] using W,FrS.refl _ _ _⟩ ?_
 rintro m T H' ⟨i,τ',hi,rfl,k0,k1,k74,k75,k76,B',F',W',fr⟩
 have hwl:wideF (fs.take i)≤16*fs.length:=by
  have:=wideF_le (fs:=fs.take i) fun f hf'=>hf f (List.mem_of_mem_take hf')
  rw[List.length_take]at this; omega
 have hbl:(fldBits (fs.take i)).length≤12000000:=by rw[← wideF_bits]; omega
 by_cases hlt:i<fs.length
 ·have hlt':(i:Int)<(fs.length:Int):=om
  obtain⟨f,hfi⟩:∃f,fs[i]?=some f:=⟨_,List.getElem?_eq_getElem hlt⟩
  obtain⟨a,ma,la⟩:=FL.at F'.1 hfi
  obtain⟨hf1,hf2⟩:=fldOk_lt (hf f (List.mem_of_getElem? hfi))
  obtain⟨H1,m1,r1,k1',q1⟩:=row_newL H' [.int .u32 0,.int .i64 0] (n:=2) rfl
  obtain⟨H2,m2,r2,k2',q2⟩:=row_storeN r1 (n:=2) rfl (xs:=fldC f) rfl rfl
  have E:Ext H'.next H' H2:=⟨om,fun c hc=>by rw[q2 c om,q1 c om]⟩
  have B2:=B'.fr (FrS.of_ext (S:=fun _=>False) E) (by simp) (by simp) (by simp)
  have F2:=F'.fr (FrS.of_ext (S:=fun _=>False) E) (by simp)
  have W2:=W'.ext' E
  have l2:oLoad false 1 H2 (cellR ow 9 2)=some (cellR o 3 0):=row_load B2.row rfl rfl
  have lf0:oLoad false 1 H2 (cellR H'.next 2 0)=some (.int .u32 (f.1:Int)):=row_load r2 rfl rfl
  have lf1:oLoad false 1 H2 (cellR H'.next 2 1)=some (.int .i64 (f.2:Int)):=row_load r2 rfl rfl
  simp only[sA,sB,seval,k0,k1,k74,k75,k76,hlt',ma,la,m1,m2,nil_cell,fldA,fld0,l2,lf0,lf1]
  refine (put_spec W2 f.1 f.2 om hf1 om (by rw[lA]; omega)).mono ?_
  rintro _ H3 ⟨rfl,τ3,W3,fr3⟩
  have ns:∀k,k2 k→kB k:=fun k hk=>by unfold kB; unfold k2 at hk; omega
  have n1:¬k2 1:=by unfold k2; omega
  have n5:¬k2 5:=by unfold k2; omega
  have n6:¬k2 6:=by unfold k2; omega
  have n0:¬k2 0:=by unfold k2; omega
  simp only[sA,sB,seval,k0,k1,k74,k75,k76,wrap1 i om]
  refine⟨_,om,i+1,τ3,om,rfl,tt,tt,tt,tt,tt,B2.fr fr3 n0 n1 n5,F2.fr fr3 n6,?_,fr.trans ((FrS.of_ext E).trans (fr3.wide ns))⟩
  rw[take_snoc hfi,fldBits_snoc,wideF_bits,fldBits_snoc,← List.append_assoc,lA,bitsN_len,← wideF_bits,← Nat.add_assoc]
  exact W3
 ·have hlt':¬(i:Int)<(fs.length:Int):=om
  obtain rfl:i=fs.length:=om
  rw[List.take_length]at W'
  obtain⟨H3,m3,r3,k3,q3⟩:=row_st B'.row (n:=9) rfl (i:=5) om (x:=.int .i64 (to:Int)) rfl (l':=dC to (cellR o 3 0) kept K mv) rfl
  simp only[sA,sB,seval,k0,k1,k74,k75,k76,hlt',nil_cell,fldA,fld0,m3]
  have hB:=B'.own
  have fz:FrS (fun k=>k=1) τ' H' τ' H3:=⟨om,fun c hc=>⟨rfl,fun h=>q3 c (by rintro rfl; exact h B'.tow)⟩⟩
  have W3:OW H3.next τ' H3 o (M++fldBits fs) (pl+wideF fs):=by
   rw[k3]
   exact W'.fr rL om om W'.tz (fun _ _ _=>rfl) fun c hc hk=>q3 c (by rintro rfl; rw[B'.tow]at hk; unfold k2 at hk; omega)
  simp only[fin,wRes,OptP_some]
  exact hQ _ _ τ' W3 r3 B'.tow om (fr.trans (fz.wide fun k hk=>.inl hk))
open Go.Abs Go.Abs.S
variable {sent:Nat}
theorem xor_16{a:Nat}(h:a<65536):a ^^^ 65535=65535-a:=by
 apply Nat.eq_of_testBit_eq
 intro i
 rw[Nat.testBit_xor,show (65535:Nat)=2 ^ 16-1 from rfl,Nat.testBit_two_pow_sub_one,show 2 ^ 16-1-a=2 ^ 16-(a+1) by omega,Nat.testBit_two_pow_sub_succ om]
 by_cases hi:i<16
 ·simp[hi]
 ·have:a.testBit i=false:=Nat.testBit_lt_two_pow (Nat.lt_of_lt_of_le h (by have:=Nat.pow_le_pow_right (n:=2) om (show 16≤i by omega); omega))
  simp[hi,this]
theorem OW.frS{S:Nat→Prop}{τ τ':Nat→Nat}{H H':AHeap}{o:Nat}{M:List Bool}{pl:Nat}(h:OW H.next τ H o M pl)(f:FrS S τ H τ' H')(h2:¬S 2)(h4:¬S 4)(tz:∀c,H'.next≤c→τ' c=0):OW H'.next τ' H' o M pl:=
 h.fr f.1 rL f.1 tz (fun c hc _=>(f.2 c hc).1) fun c hc hk=>(f.2 c hc).2 (by rcases hk with e | e <;> rw[e] <;> assumption)
theorem FM.stpS{τ:Nat→Nat}{H H':AHeap}{v w:AVal}{fs gs:List (Nat×Nat)}(h:FM τ H v fs)(k:FL H' w gs)(s:Stp v H w H'):FM (upT τ H H' 6) H' w gs∧FrS (·=6) τ H (upT τ H H' 6) H':=by
 obtain⟨a,e⟩:=h.stp k s
 exact⟨a,s.1,fun c hc=>⟨upT_old hc,fun h6=>e c hc h6⟩⟩
theorem fldV_one(x:Nat):aBuild [.int .u32 0,.int .i64 0] [(0,1,.int .u32 (x:Int)),(1,1,.int .i64 8)]=some (fldV (x,8)):=rfl
def byFl(b:Bs):List (Nat×Nat):=b.map fun x=>(x.toNat,8)
theorem byFl_ok(b:Bs):∀f∈byFl b,fldOk f=true:=by
 intro f hf
 simp only[byFl,List.mem_map]at hf
 obtain⟨x,_,rfl⟩:=hf
 have:=x.toNat_lt
 simp only[fldOk,Bool.and_eq_true,Nat.blt_eq,Nat.ble_eq]
 exact⟨by simpa using this,om⟩
def segB(b:Bs)(sent to:Nat):Bs:=(b.drop sent).take (to-sent)
theorem segB_len{b:Bs}{to:Nat}(h1:sent≤to)(h2:to≤b.length):(segB b sent to).length=to-sent:=by
 simp only[segB,List.length_take,List.length_drop]; omega
theorem segB_byts(b:Bs)(to:Nat):((byts b).drop sent).take (to-sent)=byts (segB b sent to):=by
 simp only[segB,byts,List.map_take,List.map_drop]
def stoH(ln m n:Nat):List Bool:=bitsN ln 1++bitsN 0 2++List.replicate (fillN (m+3)) false++bitsN n 16++bitsN (65535-n) 16
def restD:List Nat:=[1,1,1,1,1,1,1,1,1,0,1,1,4]
theorem stored_branch{to ln:Nat}{M:List Bool}{pl:Nat}{τ:Nat→Nat}{H:AHeap}{T:Env}{Q':Post}{ow o K q:Nat}{mv kept:AVal}{b:Bs}{fs:List (Nat×Nat)}(hln:ln≤1)(hst:sent≤to)(hto:to≤b.length)(hlong:to-sent≤4096)(hpl:pl≤1000000)(hMl:M.length≤1000000)(g0:T 0=cellR ow 9 0)(g1:T 1=.int .i64 (to:Int))(g6:T 6=cellR q 2 0)(g15:T 15=.int .i64 ((to-sent:Nat):Int))(B:BR sent ln τ H ow o K q mv kept b)(W:OW H.next τ H o M pl)(F:FM τ H (T 7) fs)(hb:b.length≤20000)
  (hQ:∀(T2:Env) (H2:AHeap) (τ2:Nat→Nat),T2 0=cellR ow 9 0→T2 1=.int .i64 (to:Int)→BR sent ln τ2 H2 ow o K q mv kept b→FM τ2 H2 (T2 7) (byFl (segB b sent to))→OW H2.next τ2 H2 o (M++stoH ln M.length (to-sent)) (pl+(stoH ln M.length (to-sent)).length)→FrS kB τ H τ2 H2→Q' .normal T2 H2) :
  wp (ACalls Tryz.prog noNat) (restP restD c290.body) Q' T H:=by
 have ns:∀k,k2 k→kB k:=fun k hk=>by unfold kB; unfold k2 at hk; omega
 obtain⟨n,hn⟩:∃n,n=to-sent:=⟨_,rfl⟩
 have hsl:=segB_len hst hto
 rw[← hn]at g15 hlong hsl hQ
 have n1:¬k2 1:=by unfold k2; omega
 have n5:¬k2 5:=by unfold k2; omega
 have n6:¬k2 6:=by unfold k2; omega
 have n0:¬k2 0:=by unfold k2; omega
 have l2:oLoad false 1 H (cellR ow 9 2)=some (cellR o 3 0):=row_load B.row rfl rfl
 have lq:oLoad false 1 H (cellR q 2 0)=some (.int .u32 (ln:Int)):=row_load B.fst rfl rfl
 simp only[c290,restP,restD,sA,sB,seval,g0,g1,g6,nil_cell,fldA,fld0,l2,lq]
 refine (put_spec W ln 1 om om om om).mono ?_
 rintro _ H1 ⟨rfl,τ1,W1,f1⟩
 have B1:=B.fr f1 n0 n1 n5
 have F1:=F.fr f1 n6
 have l21:oLoad false 1 H1 (cellR ow 9 2)=some (cellR o 3 0):=row_load B1.row rfl rfl
 simp only[sA,sB,seval,g0,g1,g15,nil_cell,fldA,fld0,l21]
 refine (put_spec W1 0 2 om om om (by rw[lA,bitsN_len]; omega)).mono ?_
 rintro _ H2 ⟨rfl,τ2,W2,f2⟩
 have B2:=B1.fr f2 n0 n1 n5
 have F2:=F1.fr f2 n6
 have l22:oLoad false 1 H2 (cellR ow 9 2)=some (cellR o 3 0):=row_load B2.row rfl rfl
 simp only[sA,sB,seval,g0,g1,g15,nil_cell,fldA,fld0,l22]
 refine (align_spec W2 om (by simp only[lA,bitsN_len]; omega)).mono ?_
 rintro _ H3 ⟨rfl,τ3,W3,f3⟩
 have B3:=B2.fr f3 n0 n1 n5
 have F3:=F2.fr f3 n6
 have l23:oLoad false 1 H3 (cellR ow 9 2)=some (cellR o 3 0):=row_load B3.row rfl rfl
 have eM:(M++bitsN ln 1++bitsN 0 2:List Bool).length=M.length+3:=by simp only[lA,bitsN_len]
 rw[eM]at W3
 have wl:IntKind.u32.wrap (n:Int)=(n:Int):=wrap_u .u32 (by simp) (by simp only[IntKind.bits]; omega)
 simp only[sA,sB,seval,g0,g1,g15,nil_cell,fldA,fld0,l23,conv_in,wl]
 refine (put_spec W3 n 16 om om (by unfold fillN; omega) (by simp only[lA,bitsN_len,List.length_replicate]; unfold fillN; omega)).mono ?_
 rintro _ H4 ⟨rfl,τ4,W4,f4⟩
 have B4:=B3.fr f4 n0 n1 n5
 have F4:=F3.fr f4 n6
 have l24:oLoad false 1 H4 (cellR ow 9 2)=some (cellR o 3 0):=row_load B4.row rfl rfl
 have xo:aBin .xor (.int .u32 (n:Int)) (.int .u32 65535)=some (.int .u32 ((65535-n:Nat):Int)):=by
  have:=bin_xorU .u32 (by simp) (a:=n) (b:=65535) (by simp only[IntKind.bits]; omega) (by simp only[IntKind.bits]; omega)
  rw[xor_16 om]at this
  exact this
 simp only[sA,sB,seval,g0,g1,g15,nil_cell,fldA,fld0,l24,conv_in,wl,xo]
 refine (put_spec W4 (65535-n) 16 om om (by unfold fillN; omega) (by simp only[lA,bitsN_len,List.length_replicate]; unfold fillN; omega)).mono ?_
 rintro _ H5 ⟨rfl,τ5,W5,f5⟩
 have B5:=B4.fr f5 n0 n1 n5
 have F5:=F4.fr f5 n6
 have fA:FrS kB τ H τ5 H5:=(f1.trans (f2.trans (f3.trans (f4.trans f5)))).wide ns
 clear f1 f2 f3 f4 f5 B1 B2 B3 B4 F1 F2 F3 F4 W1 W2 W3 W4
 obtain⟨s,ms,Ls,Bs⟩:=LinM.zero F5.1 om
 have F6:FM τ5 H5 s []:=⟨Ls,Bs _ F5.2⟩
 obtain⟨sk,mk,ck,bk⟩:=B5.kp.slice (lo:=sent) (hi:=to) hst hto
 rw[segB_byts]at ck
 have k5:=bk _ B5.kb
 have l3:oLoad false 1 H5 (cellR ow 9 3)=some kept:=row_load B5.row rfl rfl
 have l4:oLoad false 1 H5 (cellR ow 9 4)=some (.int .i64 0):=row_load B5.row rfl rfl
 have l5:oLoad false 1 H5 (cellR ow 9 5)=some (.int .i64 (sent:Int)):=row_load B5.row rfl rfl
 have e0:(to:Int)-0=(to:Int):=om
 have e1:(sent:Int)-0=(sent:Int):=om
 have wb:IntKind.i64.wrap (to:Int)=(to:Int):=wrap64 om om
 have wc:IntKind.i64.wrap (sent:Int)=(sent:Int):=wrap64 om om
 have hlen:=ck.len
 rw[byts_len,hsl]at hlen
 have mk':aSl 1 kept (some (.int .i64 (sent:Int))) (some (.int .i64 (to:Int))) none=some sk:=mk
 simp only[sA,sB,seval,g0,g1,g15,nil_cell,fldA,fld0,l3,l4,l5,ms,e0,e1,wb,wc,mk',hlen]
 have hW:M++bitsN ln 1++bitsN 0 2++List.replicate (fillN (M.length+3)) false++bitsN n 16++bitsN (65535-n) 16=M++stoH ln M.length n:=by simp only[stoH,List.append_assoc]
 have hpl5:pl+1+2+fillN (M.length+3)+16+16=pl+(stoH ln M.length n).length:=by simp only[stoH,lA,bitsN_len,List.length_replicate]; omega
 rw[hW,hpl5]at W5
 generalize M++stoH ln M.length n=MM at *
 generalize pl+(stoH ln M.length n).length=pp at *
 generalize segB b sent to=sg at *
 refine aw_loop (fun m (T:Env) H'=>∃(j:Nat) (τ':Nat→Nat),j≤n∧m=n-j∧T 0=cellR ow 9 0∧T 1=.int .i64 (to:Int)∧T 161=sk∧T 162=.int .i64 (n:Int)∧T 163=.int .i64 (j:Int)∧BR sent ln τ' H' ow o K q mv kept b∧FM τ' H' (T 7) (byFl (sg.take j))∧OW H'.next τ' H' o MM pp∧FrS kB τ H τ' H'∧Cel H'.next H' sk (byts sg)∧Blk sk (τ' ·=5)) n
  ⟨0,τ5,Nat.zero_le _,rfl,by simp only[sA,sB,seval,g0],by simp only[sA,sB,seval,g1],by simp only[sA,sB,seval],by simp only[sA,sB,seval]; try rfl,by simp only[sA,sB,seval]; try rfl,B5,by simp only[sA,sB,seval]; exact F6,W5,fA,ck,k5⟩ ?_
 rintro m T H' ⟨j,τ',hj,rfl,k0,k1,k161,k162,k163,B',F',W',fr,ck',kb'⟩
 by_cases hlt:j<n
 ·have hlt':(j:Int)<(n:Int):=om
  obtain⟨x,hx⟩:∃x,sg[j]?=some x:=⟨_,List.getElem?_eq_getElem om⟩
  have hidx:=ck'.idx .i64 (i:=j) (by rw[byts_len]; omega)
  have hld:=ck'.load (byts_get hx)
  have hxl:=x.toNat_lt
  have wx:IntKind.u32.wrap (x.toNat:Int)=(x.toNat:Int):=b_u32 x
  have hlb:(byFl (sg.take j)).length=j:=by simp[byFl]; omega
  obtain⟨w,H6,m6,k6,s6⟩:=FL.add F'.1 [(x.toNat,8)] (by simp only[hlb,List.length_cons,List.length_nil]; omega)
  obtain⟨F6,f6⟩:=F'.stpS k6 s6
  have m6':aAppend 2 16 (H'.push (.cells (fldC (x.toNat,8)) 0 false)) (T 7) (.slice (some ⟨H'.next,2,0⟩) 1 (.known 1))=some (w,H6):=by simpa[flds] using m6
  have ef:byFl (sg.take j)++[(x.toNat,8)]=byFl (sg.take (j+1)):=by rw[take_snoc hx]; simp[byFl]
  rw[ef]at F6
  have z6:∀c,H6.next≤c→upT τ' H' H6 6 c=0:=fun c hc=>upT_z f6.1 hc
  have hb6:Blk sk fun c=>c<H'.next∧τ' c=5:=(cel_blk ck').and kb'
  simp only[sA,sB,seval,k0,k1,k161,k162,k163,hlt',hidx,hld,conv_in,wx,fldV_one,buildF1,m6',wrap1 j om]
  exact⟨_,om,j+1,_,om,rfl,tt,tt,tt,tt,tt,B'.fr f6 om om om,F6,W'.frS f6 om om z6,fr.trans (f6.wide fun k hk=>.inr (.inr (.inr hk))),cel_same ck' f6.1 (hb6.mono fun c hc=>(f6.2 c hc.1).2 om),hb6.mono fun c hc=>by rw[(f6.2 c hc.1).1]; exact hc.2⟩
 ·have hlt':¬(j:Int)<(n:Int):=om
  have hj2:j=sg.length:=om
  rw[hj2,List.take_length]at F'
  simp only[sA,sB,seval,k0,k1,k161,k162,k163,hlt']
  exact hQ _ _ τ' (by simp only[sA,sB,seval,k0]) (by simp only[sA,sB,seval,k1]) B' (by simp only[sA,sB,seval]; exact F') W' fr
open Go.Abs Go.Abs.S
variable {sent:Nat}
def blkB(ln m:Nat)(b:Bs)(sent to:Nat):List Bool:=if 3+fillN (m+3)+32+8*(to-sent)<wideF (blockFl ln (toks b sent to)) then stoH ln m (to-sent)++fldBits (byFl (segB b sent to)) else fldBits (blockFl ln (toks b sent to))
theorem OW.mod{n:Nat}{τ:Nat→Nat}{H:AHeap}{o:Nat}{M:List Bool}{pl:Nat}(h:OW n τ H o M pl):pl % 8=M.length % 8:=by
 obtain⟨vb,_,_,_,_,_,_,_,h8⟩:=h
 exact h8
theorem block_rest{to ln:Nat}{M:List Bool}{pl:Nat}{τ:Nat→Nat}{H:AHeap}{T:Env}{Q:AVal→AHeap→Prop}{ow o K q:Nat}{mv kept:AVal}{b:Bs}(hln:ln≤1)(hst:sent≤to)(hto:to≤b.length)(hlong:to-sent≤4096)(hpl:pl≤300000)(hMl:M.length≤300000)(g0:T 0=cellR ow 9 0)(g1:T 1=.int .i64 (to:Int))(g6:T 6=cellR q 2 0)(B:BR sent ln τ H ow o K q mv kept b)(W:OW H.next τ H o M pl)(F:FM τ H (T 7) ([(ln,1),(1,2)]++(toks b sent to).flatMap tokFl))(hb:b.length≤20000)
  (hQ:∀w H2 τ2,OW H2.next τ2 H2 o (M++blkB ln M.length b sent to) (pl+(blkB ln M.length b sent to).length)→Row H2 ow (dC to (cellR o 3 0) kept K mv)→τ2 ow=1→ow<H2.next→FrS kB τ H τ2 H2→Q w H2) :
  wp (ACalls Tryz.prog noNat) (hold (restP restB c290.body)) (fin c290.res Q) T H:=by
 rw[hold_eq]
 refine wp_cutP [1,1,1,1,0,1,1,4] ?_
 refine wp_cutP [1,1,1,1,1] ?_
 simp only[c290,restP,restB,sC,sA,sB,seval,g0,g1,g6]
 refine (symbol_spec H 256 om).mono ?_
 rintro _ H1 ⟨rfl,E1⟩
 have B1:=B.fr (FrS.of_ext (S:=fun _=>False) E1) (by simp) (by simp) (by simp)
 have F1:FM τ H1 (T 7) _:=⟨F.1.ext E1,F.2⟩
 have W1:=W.ext' E1
 have hfl:=tokFls_len (toks b sent to)
 have htl:(toks b sent to).length≤to-sent:=toks_length b to (to-sent) sent
 obtain⟨fv,H2,m2,k2',s2⟩:=FL.add F1.1 [symF 256] (by simp only[lA,List.length_cons,List.length_nil]; omega)
 obtain⟨F2,f2⟩:=F1.stpS k2' s2
 have m2':aAppend 2 16 (H1.push (.cells (fldC (symF 256)) 0 false)) (T 7) (.slice (some ⟨H1.next,2,0⟩) 1 (.known 1))=some (fv,H2):=by simpa[flds] using m2
 have z2:∀c,H2.next≤c→upT τ H1 H2 6 c=0:=fun c hc=>upT_z f2.1 hc
 have B2:=B1.fr f2 om om om
 have W2:=W1.frS f2 om om z2
 have fr2:FrS kB τ H (upT τ H1 H2 6) H2:=(FrS.of_ext E1).trans (f2.wide fun k hk=>.inr (.inr (.inr hk)))
 obtain⟨fs,hfs⟩:∃fs,fs=blockFl ln (toks b sent to):=⟨_,rfl⟩
 have ef:[(ln,1),(1,2)]++(toks b sent to).flatMap tokFl++[symF 256]=fs:=by rw[hfs]; rfl
 rw[ef]at F2
 have hok:∀f∈fs,fldOk f=true:=by rw[hfs]; exact (blockFl_ok (last:=ln) hln (toks_ok b to om (to-sent) sent)).2
 have hbl:blkB ln M.length b sent to=if 3+fillN (M.length+3)+32+8*(to-sent)<wideF (blockFl ln (toks b sent to)) then stoH ln M.length (to-sent)++fldBits (byFl (segB b sent to)) else fldBits (blockFl ln (toks b sent to)):=rfl
 rw[← hfs]at hbl
 have hfsl:fs.length≤17000:=by rw[← ef]; simp only[lA,List.length_cons,List.length_nil]; omega
 have hlen:aLenK false fv=some (.int .i64 (fs.length:Int)):=LinM.len F2.1
 generalize upT τ H1 H2 6=τ2 at *
 simp only[sA,sB,seval,g0,g1,g6,buildF1,m2',hlen]
 clear F1 k2' s2 f2 m2 m2' B1 W1 ef hfs
 refine aw_loop (fun m (T:Env) H'=>∃i:Nat,i≤fs.length∧m=fs.length-i∧T 0=cellR ow 9 0∧T 1=.int .i64 (to:Int)∧T 6=cellR q 2 0∧T 7=fv∧T 11=.int .i64 ((wideF (fs.take i):Nat):Int)∧T 74=fv∧T 75=.int .i64 (fs.length:Int)∧T 76=.int .i64 (i:Int)∧Ext H2.next H2 H') fs.length
  ⟨0,Nat.zero_le _,rfl,by simp only[sA,sB,seval,g0],by simp only[sA,sB,seval,g1],by simp only[sA,sB,seval,g6],by simp only[sA,sB,seval],by simp only[sA,sB,seval]; try rfl,by simp only[sA,sB,seval]; try rfl,by simp only[sA,sB,seval]; try rfl,by simp only[sA,sB,seval]; try rfl,Ext.refl _ _⟩ ?_
 rintro m T H' ⟨i,hi,rfl,k0,k1,k6,k7,k11,k74,k75,k76,E⟩
 have hwl:wideF (fs.take i)≤16*fs.length:=by
  have:=wideF_le (fs:=fs.take i) fun f hf'=>hok f (List.mem_of_mem_take hf')
  rw[List.length_take]at this; omega
 have F':FM τ2 H' fv fs:=⟨F2.1.ext E,F2.2⟩
 by_cases hlt:i<fs.length
 ·have hlt':(i:Int)<(fs.length:Int):=om
  obtain⟨f,hfi⟩:∃f,fs[i]?=some f:=⟨_,List.getElem?_eq_getElem hlt⟩
  obtain⟨a,ma,la⟩:=FL.at F'.1 hfi
  obtain⟨hf1,hf2⟩:=fldOk_lt (hok f (List.mem_of_getElem? hfi))
  obtain⟨H3,m3,r3,k3,q3⟩:=row_newL H' [.int .u32 0,.int .i64 0] (n:=2) rfl
  obtain⟨H4,m4,r4,k4,q4⟩:=row_storeN r3 (n:=2) rfl (xs:=fldC f) rfl rfl
  have E4:Ext H'.next H' H4:=⟨om,fun c hc=>by rw[q4 c om,q3 c om]⟩
  have lf1:oLoad false 1 H4 (cellR H'.next 2 1)=some (.int .i64 (f.2:Int)):=row_load r4 rfl rfl
  simp only[sA,sB,seval,k0,k1,k6,k7,k11,k74,k75,k76,hlt',ma,la,m3,m4,fldA,fld0,lf1,wrapN (wideF (fs.take i)) f.2 om,wrap1 i om]
  have ew:wideF (fs.take (i+1))=wideF (fs.take i)+f.2:=by rw[take_snoc hfi]; simp[wideF]
  exact⟨_,om,i+1,om,rfl,tt,tt,tt,tt,by rw[ew],tt,tt,tt,E.trans (E4.less E.next)⟩
 ·have hlt':¬(i:Int)<(fs.length:Int):=om
  obtain rfl:i=fs.length:=om
  rw[List.take_length]at k11 hwl
  have B':=B2.fr (FrS.of_ext (S:=fun _=>False) E) (by simp) (by simp) (by simp)
  have W':=W2.ext' E
  have fr':=fr2.trans (FrS.of_ext E)
  have l2:oLoad false 1 H' (cellR ow 9 2)=some (cellR o 3 0):=row_load B'.row rfl rfl
  have l5:oLoad false 1 H' (cellR ow 9 5)=some (.int .i64 (sent:Int)):=row_load B'.row rfl rfl
  simp only[sA,sB,seval,k0,k1,k6,k7,k11,k74,k75,k76,hlt',nil_cell,fldA,fld0,l2]
  refine (bits_spec W').mono ?_
  rintro _ _ ⟨rfl,rfl⟩
  obtain⟨F,hF⟩:∃F,F=fillN (pl+3):=⟨_,rfl⟩
  have hF7:F≤7:=by rw[hF]; unfold fillN; omega
  have hFM:fillN (M.length+3)=F:=by
   have:=W'.mod
   rw[hF]; unfold fillN; omega
  obtain⟨n,hn⟩:∃n,n=to-sent:=⟨_,rfl⟩
  have w3:IntKind.i64.wrap ((pl:Int)+3)=((pl+3:Nat):Int):=wrapN pl 3 om
  have r3:aBin .rem (.int .i64 ((pl+3:Nat):Int)) (.int .i64 8)=some (.int .i64 (((pl+3) % 8:Nat):Int)):=bin_remN (pl+3) 8 om
  have w5:IntKind.i64.wrap (8-(((pl+3) % 8:Nat):Int))=((8-(pl+3) % 8:Nat):Int):=w64
  have r5:aBin .rem (.int .i64 ((8-(pl+3) % 8:Nat):Int)) (.int .i64 8)=some (.int .i64 (F:Int)):=by
   have:=bin_remN (8-(pl+3) % 8) 8 om
   rw[hF]; exact this
  have e0:IntKind.i64.wrap ((to:Int)-(sent:Int))=(n:Int):=w64
  have w8:IntKind.i64.wrap (3+(F:Int))=((3+F:Nat):Int):=wrapN 3 F om
  have w40:IntKind.i64.wrap (((3+F:Nat):Int)+32)=((3+F+32:Nat):Int):=wrapN (3+F) 32 om
  have wm:IntKind.i64.wrap (8*(n:Int))=((8*n:Nat):Int):=w64
  have ws:IntKind.i64.wrap (((3+F+32:Nat):Int)+((8*n:Nat):Int))=((3+F+32+8*n:Nat):Int):=wrapN _ _ om
  simp only[sA,sB,seval,k0,k1,k6,k7,k11,nil_cell,fldA,fld0,w3,r3,w5,r5,l5,e0,w8,w40,wm,ws]
  rw[hFM,← hn]at hbl
  by_cases hcmp:3+F+32+8*n<wideF fs
  ·have hcmp':((3+F+32+8*n:Nat):Int)<((wideF fs:Nat):Int):=om
   rw[if_pos hcmp]at hbl
   simp only[hcmp',sA,sB,seval]
   refine stored_branch (q:=q) (fs:=fs) (kept:=kept) (b:=b) (mv:=mv) (o:=o) (K:=K) (ow:=ow) (τ:=τ2) hln hst hto hlong om om (by simp only[sA,sB,seval,k0]) (by simp only[sA,sB,seval,k1]) (by simp only[sA,sB,seval,k6]) (by simp only[sA,sB,seval]; rw[hn]) B' W' (by simp only[sA,sB,seval,k7]; exact F') hb ?_
   intro T3 H3 τ3 h0 h1 B3 F3 W3 f3
   rw[← hn]at W3
   have hsl:=segB_len hst hto
   have hlen2:(stoH ln M.length n).length≤60:=by simp only[stoH,lA,bitsN_len,List.length_replicate,hFM]; omega
   have PL:=put_loop h0 h1 B3 W3 F3 (byFl_ok _) (by simp[byFl]; omega) om (by rw[lA]; omega) om (Q:=Q) fun w H4 τ4 W4 r4 t4 o4 f4=>hQ w H4 τ4 (by
    rw[hbl,lA,← List.append_assoc,← Nat.add_assoc,← wideF_bits]; exact W4) r4 t4 o4 (fr'.trans (f3.trans f4))
   simp only[c290,restP,restC]at PL
   simp only[sA,sB,seval]
   exact PL
  ·have hcmp':¬((3+F+32+8*n:Nat):Int)<((wideF fs:Nat):Int):=om
   rw[if_neg hcmp]at hbl
   simp only[hcmp',sA,sB,seval]
   have PL:=fun T2 h0 h1 h7=>put_loop (T:=T2) (fs:=fs) h0 h1 B' W' h7 hok om om om om (Q:=Q) fun w H4 τ4 W4 r4 t4 o4 f4=>hQ w H4 τ4 (by
    rw[hbl,← wideF_bits]; exact W4) r4 t4 o4 (fr'.trans f4)
   simp only[c290,restP,restC]at PL
   exact PL _ (by simp only[sA,sB,seval,k0]) (by simp only[sA,sB,seval,k1]) (by simp only[sA,sB,seval,k7]; exact F')
open Go.Abs Go.Abs.S
structure DB(n0:Nat)(τ:Nat→Nat)(H:AHeap)(ow o mb:Nat)(kept:AVal)(b:Bs)(sent K:Nat)(M:List Bool)(pl:Nat):Prop where
 pw:PW sent n0 τ H ow mb (cellR o 3 0) kept b K
 w:OW H.next τ H o M pl
 k5:Blk kept (τ ·=5)
 t1:τ ow=1
 t3:τ mb=3
 h6:∀c,c<n0→τ c≠6
 Ks:K≤sent∧(K=0∨K+3≤b.length)
theorem PW.frB{sent to n0:Nat}{τ τ':Nat→Nat}{H H':AHeap}{ow mb:Nat}{out kept:AVal}{b:Bs}{K:Nat}(P:PW sent n0 τ H ow mb out kept b K)(f:FrS kB τ H τ' H')(k5:Blk kept (τ ·=5))(t3:τ mb=3)(t1:τ' ow=1)(r:Row H' ow (dC to out kept K (.map (some mb))))(tz:∀c,H'.next≤c→τ' c=0):PW to n0 τ' H' ow mb out kept b K∧Blk kept (τ' ·=5):=by
 have o1:=P.own
 have o2:=P.mbn
 have o3:=P.n0n
 have fn:=f.1
 have kb:Blk kept fun c=>(c<H.next∧(τ c<100∧τ c≠6)∧c≠mb∧c≠ow)∧τ c=5:=P.kb.and k5
 have kk:Blk kept fun c=>H'.get c=H.get c∧τ' c=5∧c<H.next∧c≠mb∧c≠ow:=kb.mono fun c hc=>by
  obtain⟨e1,e2⟩:=f.2 c hc.1.1
  exact⟨e2 (by unfold kB; omega),e1.trans hc.2,hc.1.1,hc.1.2.2.1,hc.1.2.2.2⟩
 refine⟨⟨r,P.kp.same fn (kk.mono fun c hc=>hc.1),kk.mono fun c hc=>⟨om,⟨om,om⟩,hc.2.2.2.1,hc.2.2.2.2⟩,?_,o1,o2,P.ne,om,om,tz⟩,kk.mono fun c hc=>hc.2.1⟩
 obtain⟨es,h1,h2⟩:=MR.iff.1 P.map
 refine MR.iff.2 ⟨es,((f.2 mb om).2 (by rw[t3]; unfold kB; omega)).trans h1,h2.same fn fun c hc ht=>?_⟩
 obtain⟨e1,e2⟩:=f.2 c hc
 exact⟨e2 (by unfold kB; omega),e1⟩
theorem block_spec{n0:Nat}{τ:Nat→Nat}{H:AHeap}{ow o mb:Nat}{kept:AVal}{b:Bs}{sent K:Nat}{M:List Bool}{pl to:Nat}(D:DB n0 τ H ow o mb kept b sent K M pl)(last:Bool)(hst:sent≤to)(hto:to≤b.length)(hlong:to-sent≤4096)(hb:b.length≤20000)(hpl:pl≤300000)(hMl:M.length≤300000) :
  ACalls Tryz.prog noNat 290 [cellR ow 9 0,.int .i64 (to:Int),.bool last] H fun _ H'=>∃τ' K',DB n0 τ' H' ow o mb kept b to K' (M++blkB (lastN last) M.length b sent to) (pl+(blkB (lastN last) M.length b sent to).length)∧FrS (fun k=>k≠0∧k≠7) τ H τ' H':=by
 have o1:=D.pw.own
 have o2:=D.pw.mbn
 have o3:=D.pw.n0n
 have t1:=D.t1
 have t3:=D.t3
 have main:∀(ln:Nat),ln≤1→∀(T2:Env) (H2:AHeap) (τ2:Nat→Nat) (K2 q:Nat),T2 0=cellR ow 9 0→T2 1=.int .i64 (to:Int)→T2 6=cellR q 2 0→PW sent n0 τ2 H2 ow mb (cellR o 3 0) kept b K2→(K2≤to∧(K2=0∨K2+3≤b.length))→FM τ2 H2 (T2 7) ([(ln,1),(1,2)]++(toks b sent to).flatMap tokFl)→Row H2 q (fldC (ln,1))→τ2 q=0→n0≤q→q<H2.next→(∀c,c<n0→τ2 c≠6)→(∀c,c<H.next→τ2 c=τ c∧(c≠mb→c≠ow→τ c<100→τ c≠6→H2.get c=H.get c))→H.next≤H2.next →
   wp (ACalls Tryz.prog noNat) (hold (restP restB c290.body)) (fin c290.res fun _ H'=>∃τ' K',DB n0 τ' H' ow o mb kept b to K' (M++blkB ln M.length b sent to) (pl+(blkB ln M.length b sent to).length)∧FrS (fun k=>k≠0∧k≠7) τ H τ' H') T2 H2:=by
  intro ln hln T2 H2 τ2 K2 q g0 g1 g6 P2 hK2 F2 R2 tq hq hq2 h62 fr hn
  have f2:FrS (fun k=>k≠0∧k≠7) τ H τ2 H2:=⟨hn,fun c hc=>⟨(fr c hc).1,fun h=>by
   have h0:τ c=0∨τ c=7:=om
   exact (fr c hc).2 (by rintro rfl; omega) (by rintro rfl; omega) om om⟩⟩
  have kb:Blk kept fun c=>c<H.next∧τ c=5:=(D.pw.kb.mono fun c hc=>hc.1).and D.k5
  have k52:Blk kept (τ2 ·=5):=kb.mono fun c hc=>(fr c hc.1).1.trans hc.2
  have t12:τ2 ow=1:=(fr _ om).1.trans t1
  have t32:τ2 mb=3:=(fr _ om).1.trans t3
  have B:BR sent ln τ2 H2 ow o K2 q (.map (some mb)) kept b:=⟨P2.row,t12,om,P2.kp,k52,R2,tq,hq2⟩
  have W2:OW H2.next τ2 H2 o M pl:=D.w.fr hn rL hn P2.tz (fun c hc _=>(fr c hc).1) fun c hc hk=>(fr c hc).2 (by rintro rfl; unfold k2 at hk; omega) (by rintro rfl; unfold k2 at hk; omega) (by unfold k2 at hk; omega) (by unfold k2 at hk; omega)
  refine block_rest hln hst hto hlong hpl hMl g0 g1 g6 B W2 F2 hb fun w H3 τ3 W3 r3 t13 o33 f3=>?_
  obtain⟨P3,k53⟩:=P2.frB f3 k52 t32 t13 r3 W3.tz
  have n2:=P2.n0n
  exact⟨τ3,K2,⟨P3,W3,k53,t13,(f3.2 _ om).1.trans t32,fun c hc=>by rw[(f3.2 c om).1]; exact h62 c hc,hK2⟩,f2.trans (f3.wide fun k hk=>by unfold kB at hk; omega)⟩
 cases last with
 | true=>exact block_preT D.pw D.Ks.1 D.Ks.2 hst hto hlong D.h6 hb _ (main 1 om)
 | false=>exact block_preF D.pw D.Ks.1 D.Ks.2 hst hto hlong D.h6 hb _ (main 0 om)
open Go.Abs Go.Abs.S
theorem pack_take{M:List Bool}{w:Nat}(h:8*w≤M.length):(pack M).take w=pack (M.take (8*w)):=by
 apply List.ext_getElem?
 intro j
 have hl:(M.take (8*w)).length=8*w:=by rw[List.length_take]; omega
 by_cases hj:j<w
 ·rw[List.getElem?_take_of_lt hj,pack_get om,pack_get om]
  unfold byteAt
  rw[List.drop_take,List.take_take,show min 8 (8*w-8*j)=8 by omega]
 ·rw[List.getElem?_eq_none (by rw[List.length_take]; omega),List.getElem?_eq_none (by rw[pack_len]; omega)]
theorem pack_drop{M:List Bool}{w:Nat}(h:8*w≤M.length):(pack M).drop w=pack (M.drop (8*w)):=by
 apply List.ext_getElem?
 intro j
 have hl:(M.drop (8*w)).length=M.length-8*w:=by rw[List.length_drop]
 rw[List.getElem?_drop]
 by_cases hj:w+j<(M.length+7) / 8
 ·rw[pack_get hj,pack_get om]
  unfold byteAt
  rw[List.drop_drop,show 8*w+8*j=8*(w+j) by omega]
 ·rw[List.getElem?_eq_none (by rw[pack_len]; omega),List.getElem?_eq_none (by rw[pack_len]; omega)]
def FT(τ:Nat→Nat)(H:AHeap)(τ':Nat→Nat)(H':AHeap):Prop:=H.next≤H'.next∧∀c,c<H.next→(τ c≠4→τ' c=τ c)∧(τ c=4→τ' c=4∨τ' c=7)∧(¬k2 (τ c)→H'.get c=H.get c)
theorem take_spec{τ:Nat→Nat}{H:AHeap}{o:Nat}{M:List Bool}{pl:Nat}(h:OW H.next τ H o M pl)(hb:M.length≤1000000) :
  ACalls Tryz.prog noNat 292 [cellR o 3 0] H fun w H'=>Cel H'.next H' w (u8s (pack (M.take (8*(M.length / 8)))))∧∃τ',Blk w (τ' ·=7)∧OW H'.next τ' H' o (M.drop (8*(M.length / 8))) pl∧FT τ H τ' H':=by
 have hOW:=h
 obtain⟨vb,h1,h2,h3,h4,h5,h6,h7,h8⟩:=h
 obtain⟨k,hk⟩:∃k,k=(pack M).length:=⟨_,rfl⟩
 have hkl:k=(M.length+7) / 8:=by rw[hk,pack_len]
 have hul:(u8s (pack M)).length=k:=by rw[hk]; simp[u8s]
 rw[← hk]at h6
 obtain⟨w,hw⟩:∃w,w=M.length / 8:=⟨_,rfl⟩
 rw[← hw]
 refine acalls_ofN rfl za292 rfl ?_
 have l0:oLoad false 1 H (cellR o 3 0)=some (.bool true):=row_load h1 rfl rfl
 have l1:oLoad false 1 H (cellR o 3 1)=some vb:=row_load h1 rfl rfl
 have hlen:aLenK false vb=some (.int .i64 (k:Int)):=h6.len
 have hw8:8*w≤M.length:=om
 have ud:(u8s (pack M)).drop w=u8s (pack (M.drop (8*w))):=by rw[← pack_drop hw8]; simp only[u8s,List.map_drop]
 have ut:(u8s (pack M)).take w=u8s (pack (M.take (8*w))):=by rw[← pack_take hw8]; simp only[u8s,List.map_take]
 have hdl:(M.drop (8*w)).length=M.length-8*w:=List.length_drop
 have hudl:(u8s (pack (M.drop (8*w)))).length=k-w:=by rw[← ud,List.length_drop,hul]
 have big:0<w→∃s' s2 v2 H2 H3,aSl 1 vb none (some (.int .i64 (w:Int))) (some (.int .i64 (w:Int)))=some s'∧aSl 1 vb (some (.int .i64 (w:Int))) none none=some s2∧aAppend 1 1 H (.slice none 0 (.known 0)) s2=some (v2,H2)∧oStore 1 H2 (cellR o 3 1) v2=some H3 ∧
   Cel H3.next H3 s' (u8s (pack (M.take (8*w))))∧∃τ',Blk s' (τ' ·=7)∧OW H3.next τ' H3 o (M.drop (8*w)) pl∧FT τ H τ' H3:=by
  intro hw0
  obtain⟨s',m1,C1,B1⟩:=h6.take3 (show w≤k by omega) hw0
  obtain⟨s2,m2,C2,B2⟩:=h6.from_ (show w≤k by omega)
  rw[ut]at C1
  rw[ud]at C2
  have hs2:=C2.src
  rw[hudl]at hs2
  obtain⟨v2,H2,m3,A2,n2,b2,o2⟩:=(AppN.nil 1 0 H).many hs2 (by rw[hudl]; omega) (ones_u8 _) om (bytes:=1) om om
  have vb2:Blk v2 (H.next≤·):=(b2 (fun _=>False) (blk_nil _)).mono fun b hb=>hb.resolve_left id
  have r2:Row H2 o [.bool true,vb,.int .i64 (pl:Int)]:=h1.same (o2 o h2 (blk_nil _))
  obtain⟨H3,m4,r3,k3,o3⟩:=row_st r2 (n:=3) rfl (i:=1) om (x:=v2) (app_one A2) rfl
  have gone:∀c,c<H.next→c≠o→H3.get c=H.get c:=fun c hc hne=>(o3 c hne).trans (o2 c hc (blk_nil _))
  refine⟨s',s2,v2,H2,H3,m1,m2,m3,m4,?_,fun c=>if c<H.next then (if τ c=4 then 7 else τ c) else if c<H2.next then 4 else 0,?_,?_,?_⟩
  ·exact cel_same C1 om ((B1 _ h7).mono fun b hb=>gone b hb.1 (by rintro rfl; omega))
  ·exact (B1 _ h7).mono fun b hb=>by simp only[if_pos hb.1,if_pos hb.2]
  ·have A3:=A2.same (H':=H3) om (vb2.mono fun c hc=>o3 c om)
   rw[List.nil_append,Nat.zero_add]at A3
   have bb:=vb2.and A2.blk'
   have e7:(pack (M.drop (8*w))).length=k-w:=by rw[← hudl]; simp[u8s]
   refine⟨v2,r3,om,Nat.le_refl _,?_,fun c hc=>?_,by rw[e7]; exact A3,bb.mono fun c hc=>⟨om,?_⟩,by rw[hdl]; omega⟩
   ·simp only[if_pos h2,h4,show ¬(2:Nat)=4 by omega,if_false]
   ·simp only[if_neg (show ¬c<H.next by omega),if_neg (show ¬c<H2.next by omega)]
   ·simp only[if_neg (show ¬c<H.next by omega),if_pos (show c<H2.next by omega)]
  ·refine⟨om,fun c hc=>⟨fun h=>by simp only[if_pos hc,if_neg h],fun h=>.inr (by simp only[if_pos hc,if_pos h]),fun h=>gone c hc (by rintro rfl; exact h (.inl h4))⟩⟩
 have none:w=0→Cel H.next H nilS (u8s (pack (M.take (8*w))))∧∃τ',Blk nilS (τ' ·=7)∧OW H.next τ' H o (M.drop (8*w)) pl∧FT τ H τ' H:=by
  intro h0
  rw[h0]
  exact⟨.inl ⟨rfl,by simp[u8s,pack]⟩,τ,blk_nil _,hOW,Nat.le_refl _,fun c _=>⟨fun _=>rfl,fun h=>.inl h,fun _=>rfl⟩⟩
 simp only[c292,sA,sB,seval,eq_ptr_nil,nil_cell,fldA,l0,l1,hlen]
 refine (inside_spec h1).mono ?_
 rintro _ _ ⟨rfl,rfl⟩
 by_cases hp:pl % 8=0
 ·have hkw:k=w:=om
  rw[hp]
  by_cases hw0:w=0
  ·have ek:(k:Int)=0:=om
   simp only[sA,sB,seval,Int.natCast_zero,ek]
   exact none hw0
  ·have ek:¬(k:Int)=0:=om
   obtain⟨s',s2,v2,H2,H3,m1,m2,m3,m4,q⟩:=big om
   rw[← hkw]at m1 m2
   simp only[sA,sB,seval,Int.natCast_zero,ek,nil_cell,fldA,l1,m1,m2,m3,m4]
   exact q
 ·have hkw:k=w+1:=om
  have ep:¬((pl % 8:Nat):Int)=0:=om
  have ws:IntKind.i64.wrap ((k:Int)-1)=(w:Int):=w64
  by_cases hw0:w=0
  ·have ek:(w:Int)=0:=om
   simp only[sA,sB,seval,ep,ws,ek]
   exact none hw0
  ·have ek:¬(w:Int)=0:=om
   obtain⟨s',s2,v2,H2,H3,m1,m2,m3,m4,q⟩:=big om
   simp only[sA,sB,seval,ep,ws,ek,nil_cell,fldA,l1,m1,m2,m3,m4]
   exact q
open Go.Abs Go.Abs.S
theorem k3_app{b p:Bs}{i:Nat}(h:i+3≤b.length):k3 (b++p) i=k3 b i:=by
 have e:∀j,j<b.length→(b++p).getD j 0=b.getD j 0:=fun j hj=>by rw[List.getD_eq_getElem?_getD,List.getD_eq_getElem?_getD,List.getElem?_append_left hj]
 simp only[k3,e i om,e (i+1) om,e (i+2) om]
theorem posL_app{b p:Bs}{k:List Nat}:∀{K:Nat},(K=0∨K+2≤b.length)→posL (b++p) k K=posL b k K
 | 0,_=>rfl
 | K+1,h=>by
  unfold posL
  rw[k3_app om,posL_app (K:=K) om]
theorem MR.app{n0:Nat}{τ:Nat→Nat}{H:AHeap}{mb:Nat}{b:Bs}{K:Nat}(h:MR n0 τ H mb b K)(p:Bs)(hK:K=0∨K+3≤b.length):MR n0 τ H mb (b++p) K:=by
 have e:∀k,posL (b++p) k K=posL b k K:=fun k=>posL_app om
 obtain⟨es,h1,h2,h3,h4⟩:=h
 refine⟨es,h1,fun i x hx=>?_,h3,fun k hk=>h4 k (by rwa [e]at hk)⟩
 obtain⟨q1,k,q2,q3,q4,q5⟩:=h2 i x hx
 exact⟨q1,k,q2,q3,by rw[e]; exact q4,q5⟩
theorem blkB_len(ln m:Nat){b:Bs}{sent to:Nat}(hst:sent≤to)(hto:to≤b.length):(blkB ln m b sent to).length≤42+8*(to-sent):=by
 have hf:fillN (m+3)≤7:=by unfold fillN; omega
 have hsl:=segB_len hst hto
 unfold blkB
 split
 ·rw[lA,← wideF_bits]
  have:wideF (byFl (segB b sent to))=8*(to-sent):=by
   rw[← hsl,byFl]
   generalize segB b sent to=l
   induction l with
   | nil=>rfl
   | cons x l ih=>simp only[wideF,List.map_cons,List.sum_cons,List.length_cons]at ih ⊢; omega
  simp only[stoH,lA,bitsN_len,List.length_replicate]; omega
 ·rw[← wideF_bits]; omega
inductive Blks:Nat→Bs→List Bool→Bs→Prop where
 | nil (t:Nat) (c:Bs):Blks t c [] c
 | more {t:Nat} {c c':Bs} {X:List Bool} {b:Bs} {sent to:Nat} (h:Blks t c X c') (e:c'=b.take sent) (h1:sent≤to) (h2:to≤b.length) (h3:b.length≤20000):Blks t c (X++blkB 0 (t+X.length) b sent to) (b.take to)
def FW(τ:Nat→Nat)(H:AHeap)(τ':Nat→Nat)(H':AHeap):Prop:=H.next≤H'.next∧∀c,c<H.next→(τ c=0∨τ c=7)→τ' c=τ c∧H'.get c=H.get c
theorem FW.refl(τ:Nat→Nat)(H:AHeap):FW τ H τ H:=⟨Nat.le_refl _,fun _ _ _=>⟨rfl,rfl⟩⟩
theorem FW.trans{τ τ' τ'':Nat→Nat}{H H' H'':AHeap}(h:FW τ H τ' H')(k:FW τ' H' τ'' H''):FW τ H τ'' H'':=
 ⟨Nat.le_trans h.1 k.1,fun c hc ht=>by
  obtain⟨e1,e2⟩:=h.2 c hc ht
  obtain⟨e3,e4⟩:=k.2 c (Nat.lt_of_lt_of_le hc h.1) (by rw[e1]; exact ht)
  exact⟨e3.trans e1,e4.trans e2⟩⟩
theorem FW.of_fr{S:Nat→Prop}{τ τ':Nat→Nat}{H H':AHeap}(f:FrS S τ H τ' H')(h0:¬S 0)(h7:¬S 7):FW τ H τ' H':=
 ⟨f.1,fun c hc ht=>⟨(f.2 c hc).1,(f.2 c hc).2 (by rcases ht with e | e <;> rw[e] <;> assumption)⟩⟩
theorem FW.of_ft{τ τ':Nat→Nat}{H H':AHeap}(f:FT τ H τ' H'):FW τ H τ' H':=
 ⟨f.1,fun c hc ht=>⟨(f.2 c hc).1 om,(f.2 c hc).2.2 (by unfold k2; omega)⟩⟩
theorem DB.take{n0:Nat}{τ τ':Nat→Nat}{H H':AHeap}{ow o mb:Nat}{kept:AVal}{b:Bs}{sent K:Nat}{M M':List Bool}{pl:Nat}(D:DB n0 τ H ow o mb kept b sent K M pl)(w:OW H'.next τ' H' o M' pl)(f:FT τ H τ' H'):DB n0 τ' H' ow o mb kept b sent K M' pl:=by
 have P:=D.pw
 have o1:=P.own
 have o2:=P.mbn
 have o3:=P.n0n
 have t1:=D.t1
 have t3:=D.t3
 have fn:=f.1
 have kb:Blk kept fun c=>(c<H.next∧(τ c<100∧τ c≠6)∧c≠mb∧c≠ow)∧τ c=5:=P.kb.and D.k5
 have kk:Blk kept fun c=>H'.get c=H.get c∧τ' c=5∧c<H.next∧c≠mb∧c≠ow:=kb.mono fun c hc=>by
  obtain⟨e1,_,e3⟩:=f.2 c hc.1.1
  exact⟨e3 (by unfold k2; omega),(e1 om).trans hc.2,hc.1.1,hc.1.2.2.1,hc.1.2.2.2⟩
 have eow:τ' ow=1:=((f.2 ow om).1 om).trans t1
 refine⟨⟨P.row.same ((f.2 ow om).2.2 (by rw[t1]; unfold k2; omega)),P.kp.same fn (kk.mono fun c hc=>hc.1),kk.mono fun c hc=>⟨om,⟨om,om⟩,hc.2.2.2.1,hc.2.2.2.2⟩,?_,o1,o2,P.ne,om,om,w.tz⟩,w,kk.mono fun c hc=>hc.2.1,eow,((f.2 mb om).1 om).trans t3,fun c hc=>?_,D.Ks⟩
 ·obtain⟨es,h1,h2⟩:=MR.iff.1 P.map
  refine MR.iff.2 ⟨es,((f.2 mb om).2.2 (by rw[t3]; unfold k2; omega)).trans h1,h2.same fn fun c hc ht=>?_⟩
  obtain⟨e1,_,e3⟩:=f.2 c hc
  exact⟨e3 (by unfold k2; omega),e1 om⟩
 ·have:=D.h6 c hc
  obtain⟨e1,e2,_⟩:=f.2 c om
  by_cases h4:τ c=4
  ·rcases e2 h4 with e | e <;> omega
  ·rw[e1 h4]; exact this
theorem DB.push{n0:Nat}{τ:Nat→Nat}{H H2:AHeap}{ow o mb:Nat}{kept s:AVal}{b p:Bs}{sent K:Nat}{M:List Bool}{pl:Nat}(D:DB n0 τ H ow o mb kept b sent K M pl)(r2:Row H2 ow (dC sent (cellR o 3 0) s K (.map (some mb))))(A2:AppN 1 0 H2 s (byts (b++p)) (b++p).length)
  (f2:FrS (fun k=>k=1∨k=5) τ H (upT τ H H2 5) H2) (sb:Blk s fun c=>upT τ H H2 5 c=5∧c<H2.next∧c≠mb∧c≠ow):DB n0 (upT τ H H2 5) H2 ow o mb s (b++p) sent K M pl:=by
 have P:=D.pw
 have o1:=P.own
 have o2:=P.mbn
 have o3:=P.n0n
 have fn:=f2.1
 have z2:∀c,H2.next≤c→upT τ H H2 5 c=0:=fun c hc=>upT_z fn hc
 refine⟨⟨r2,A2,sb.mono fun c hc=>⟨hc.2.1,⟨om,om⟩,hc.2.2.1,hc.2.2.2⟩,?_,o1,o2,P.ne,by rw[upT_old om]; exact P.tow,om,z2⟩,D.w.frS f2 om om z2,sb.mono fun c hc=>hc.1,by rw[upT_old om]; exact D.t1,by rw[upT_old om]; exact D.t3,fun c hc=>by rw[upT_old om]; exact D.h6 c hc,⟨D.Ks.1,by have:=D.Ks.2; rw[lA]; omega⟩⟩
 refine MR.app ?_ p D.Ks.2
 obtain⟨es,h1,h2⟩:=MR.iff.1 P.map
 have t3:=D.t3
 refine MR.iff.2 ⟨es,((f2.2 mb om).2 om).trans h1,h2.same fn fun c hc ht=>?_⟩
 obtain⟨e1,e2⟩:=f2.2 c hc
 exact⟨e2 om,e1⟩
open Go.Abs Go.Abs.S
theorem dwrite_spec{n n0:Nat}{τ:Nat→Nat}{H:AHeap}{ow o mb:Nat}{kept bv:AVal}{b p:Bs}{sent K:Nat}{M:List Bool}{pl:Nat}(D:DB n0 τ H ow o mb kept b sent K M pl)(hp:Cel n H bv (byts p))(hl:b.length+p.length≤20000)(hs:sent≤b.length)(hpl:pl≤9*sent)(hM:M.length≤pl) :
  ACalls Tryz.prog noNat 245 [cellR ow 9 0,bv] H fun w H'=>∃s X sent' pl' M' T,w=.tuple [s,.int .i64 0]∧Cel H'.next H' s (u8s (pack T))∧T++M'=M++X∧T.length % 8=0∧M'.length<8∧pl'=pl+X.length∧sent≤sent'∧sent'≤(b++p).length∧(b++p).length-sent'≤4096∧pl'≤9*sent'∧Blks M.length (b.take sent) X ((b++p).take sent')∧∃τ' K' kept',DB n0 τ' H' ow o mb kept' (b++p) sent' K' M' pl'∧Blk s (τ' ·=7)∧FW τ H τ' H'∧((b++p).length-sent≤4096→sent'=sent∧X=[]):=by
 refine acalls_ofN rfl za245 rfl ?_
 have P:=D.pw
 obtain⟨s,H1,m1,A1,n1,b1,o1⟩:=app_bytes P.kp (src_cel hp) om
 have l0:oLoad false 1 H (cellR ow 9 0)=some (.bool true):=row_load P.row rfl rfl
 have l1:oLoad false 1 H (cellR ow 9 1)=some (.bool false):=row_load P.row rfl rfl
 have l3:oLoad false 1 H (cellR ow 9 3)=some kept:=row_load P.row rfl rfl
 have t1:=D.t1
 have t3:=D.t3
 have o9:=P.own
 have omb:=P.mbn
 have o3:=P.n0n
 have kb:Blk kept fun c=>c<H.next∧τ c=5:=(P.kb.mono fun c hc=>hc.1).and D.k5
 have row1:Row H1 ow (dC sent (cellR o 3 0) kept K (.map (some mb))):=P.row.same (o1 ow om (kb.mono fun c hc=>by rintro rfl; omega))
 have s1:s.one=true:=app_one A1
 obtain⟨H2,m2,r2,k2',q2⟩:=row_st row1 (n:=9) rfl (i:=3) om (x:=s) s1 (l':=dC sent (cellR o 3 0) s K (.map (some mb))) rfl
 have f2:FrS (fun k=>k=1∨k=5) τ H (upT τ H H2 5) H2:=⟨om,fun c hc=>⟨upT_old hc,fun h=>by rw[q2 c (by rintro rfl; exact h (.inl t1)),o1 c hc (kb.mono fun d hd=>by rintro rfl; exact h (.inr hd.2))]⟩⟩
 have sb:Blk s fun c=>upT τ H H2 5 c=5∧c<H2.next∧c≠mb∧c≠ow:=((b1 _ kb).and A1.blk').mono fun c hc=>by
  rcases hc.1 with h | h
  ·exact⟨by rw[upT_old h.1]; exact h.2,om,by rintro rfl; omega,by rintro rfl; omega⟩
  ·exact⟨upT_new h om,om,om,om⟩
 have A2:AppN 1 0 H2 s (byts (b++p)) (b++p).length:=A1.same om (sb.mono fun c hc=>q2 c hc.2.2.2)
 have D2:=D.push r2 A2 f2 sb
 have fw2:FW τ H (upT τ H H2 5) H2:=FW.of_fr f2 om om
 have hbl:(b++p).length=b.length+p.length:=lA
 have hts:(b++p).take sent=b.take sent:=by rw[List.take_append_of_le_length hs]
 simp only[c245,sA,sB,seval,eq_ptr_nil,nil_cell,fldA,fld0,l0,l1,l3,m1,m2]
 obtain⟨τ2,hτ2⟩:∃t,t=upT τ H H2 5:=⟨_,rfl⟩
 rw[← hτ2]at D2 fw2
 obtain⟨bb,hbb⟩:∃l,l=b++p:=⟨_,rfl⟩
 rw[← hbb]at D2 A2 hbl hts ⊢
 refine aw_loop (fun m (T:Env) H'=>∃τ' K' sent' pl' M' X,m=bb.length-sent'∧T 0=cellR ow 9 0∧DB n0 τ' H' ow o mb s bb sent' K' M' pl'∧M'=M++X∧pl'=pl+X.length∧sent≤sent'∧sent'≤bb.length∧pl'≤9*sent'∧Blks M.length (b.take sent) X (bb.take sent')∧FW τ2 H2 τ' H'∧(bb.length-sent≤4096→sent'=sent∧X=[])) (bb.length-sent)
  ⟨τ2,K,sent,pl,M,[],rfl,by simp only[sA,sB,seval],D2,by simp,by simp,Nat.le_refl _,om,hpl,by rw[hts]; exact Blks.nil _ _,FW.refl _ _,fun _=>⟨rfl,rfl⟩⟩ ?_
 rintro m T H' ⟨τ',K',sent',pl',M',X,rfl,g0,D',rfl,rfl,hss,hsl,hpl',hB,fw,sm⟩
 have P':=D'.pw
 have l42:oLoad false 1 H' (cellR ow 9 4)=some (.int .i64 0):=row_load P'.row rfl rfl
 have l52:oLoad false 1 H' (cellR ow 9 5)=some (.int .i64 (sent':Int)):=row_load P'.row rfl rfl
 have l32:oLoad false 1 H' (cellR ow 9 3)=some s:=row_load P'.row rfl rfl
 have l22:oLoad false 1 H' (cellR ow 9 2)=some (cellR o 3 0):=row_load P'.row rfl rfl
 have hlen:=P'.kp.len
 have wl:IntKind.i64.wrap (bb.length:Int)=(bb.length:Int):=wrap64 om om
 have e0:0+(bb.length:Int)=(bb.length:Int):=om
 have e1:IntKind.i64.wrap ((bb.length:Int)-(sent':Int))=((bb.length-sent':Nat):Int):=w64
 by_cases hgt:4096<bb.length-sent'
 ·have hgt':4096<((bb.length-sent':Nat):Int):=om
  have e2:IntKind.i64.wrap ((sent':Int)+4096)=((sent'+4096:Nat):Int):=wrapN sent' 4096 om
  simp only[sA,sB,seval,g0,nil_cell,fldA,fld0,l42,l32,l52,hlen,e0,wl,e1,hgt',e2]
  refine (block_spec D' false (to:=sent'+4096) om om om om om (by rw[lA]; omega)).mono ?_
  rintro _ H4 ⟨τ4,K4,D4,f4⟩
  have hb:=blkB_len (lastN false) (M++X).length (b:=bb) (sent:=sent') (to:=sent'+4096) om om
  have hB2:=Blks.more (to:=sent'+4096) hB rfl om om om
  have el:M.length+X.length=(M++X).length:=by rw[lA]
  rw[el]at hB2
  simp only[sA,sB,seval,g0]
  refine⟨_,?_,τ4,K4,sent'+4096,_,_,X++blkB (lastN false) (M++X).length bb sent' (sent'+4096),rfl,tt,D4,by rw[List.append_assoc],by simp only[lA]; omega,om,om,om,hB2,fw.trans (FW.of_fr f4 om om),fun h=>om⟩
  omega
 ·have hgt':¬4096<((bb.length-sent':Nat):Int):=om
  simp only[sA,sB,seval,g0,nil_cell,fldA,fld0,l42,l32,l52,hlen,e0,wl,e1,hgt']
  refine (trim_spec P'.row om).mono ?_
  rintro w _ rfl
  simp only[sA,sB,seval,g0,nil_cell,fldA,fld0,l22]
  refine (take_spec D'.w (by rw[lA]; omega)).mono ?_
  rintro sv H4 ⟨C4,τ4,B4,W4,f4⟩
  simp only[sA,sB,seval]
  refine⟨sv,X,sent',_,_,_,tt,C4,List.take_append_drop _ _,by rw[List.length_take]; omega,by rw[List.length_drop]; omega,rfl,hss,hsl,om,hpl',hB,τ4,K',s,D'.take W4 f4,B4,fw2.trans (fw.trans (FW.of_ft f4)),sm⟩
open Go.Abs Go.Abs.S
def endX(m:Nat)(b:Bs)(sent:Nat):List Bool:=blkB 1 m b sent b.length++List.replicate (fillN (m+(blkB 1 m b sent b.length).length)) false
theorem dend_spec{n0:Nat}{τ:Nat→Nat}{H:AHeap}{ow o mb:Nat}{kept:AVal}{b:Bs}{sent K:Nat}{M:List Bool}{pl:Nat}(D:DB n0 τ H ow o mb kept b sent K M pl)(hl:b.length≤20000)(hs:sent≤b.length)(hlong:b.length-sent≤4096)(hpl:pl≤9*sent)(hM:M.length<8) :
  ACalls Tryz.prog noNat 248 [cellR ow 9 0] H fun w H'=>∃s,w=.tuple [s,.int .i64 0]∧Cel H'.next H' s (u8s (pack (M++endX M.length b sent)))∧∃τ',Blk s (τ' ·=7)∧FW τ H τ' H':=by
 refine acalls_ofN rfl za248 rfl ?_
 have P:=D.pw
 have l0:oLoad false 1 H (cellR ow 9 0)=some (.bool true):=row_load P.row rfl rfl
 have l1:oLoad false 1 H (cellR ow 9 1)=some (.bool false):=row_load P.row rfl rfl
 have l3:oLoad false 1 H (cellR ow 9 3)=some kept:=row_load P.row rfl rfl
 have l4:oLoad false 1 H (cellR ow 9 4)=some (.int .i64 0):=row_load P.row rfl rfl
 have hlen:=P.kp.len
 have e0:0+(b.length:Int)=(b.length:Int):=om
 have wl:IntKind.i64.wrap (b.length:Int)=(b.length:Int):=wrap64 om om
 simp only[c248,sA,sB,seval,eq_ptr_nil,nil_cell,fldA,fld0,l0,l1,l3,l4,hlen,e0,wl]
 refine (block_spec D true hs rL hlong hl om om).mono ?_
 rintro w H1 ⟨τ1,K1,D1,f1⟩
 have hb:=blkB_len (lastN true) M.length (b:=b) (sent:=sent) (to:=b.length) hs rL
 have P1:=D1.pw
 have t1:=D1.t1
 have l2:oLoad false 1 H1 (cellR ow 9 2)=some (cellR o 3 0):=row_load P1.row rfl rfl
 have o1:=P1.own
 have o3:=P1.n0n
 simp only[sA,sB,seval,nil_cell,fldA,fld0,l2]
 refine (align_spec D1.w om (by rw[lA]; omega)).mono ?_
 rintro _ H2 ⟨rfl,τ2,W2,f2⟩
 have r2:Row H2 ow (dC b.length (cellR o 3 0) kept K1 (.map (some mb))):=P1.row.same ((f2.2 ow om).2 (by rw[t1]; unfold k2; omega))
 have t2:τ2 ow=1:=(f2.2 ow om).1.trans t1
 have n2:=f2.1
 obtain⟨H3,m3,r3,k3,q3⟩:=row_st r2 (n:=9) rfl (i:=1) om (x:=.bool true) rfl rfl
 obtain⟨H4,m4,r4,k4,q4⟩:=row_st r3 (n:=9) rfl (i:=3) dD (x:=.slice none 0 (.known 0)) rfl rfl
 obtain⟨H5,m5,r5,k5,q5⟩:=row_st r4 (n:=9) rfl (i:=7) dD (x:=.map none) rfl rfl
 have f5:FrS (fun k=>k=1) τ2 H2 τ2 H5:=⟨om,fun c hc=>⟨rfl,fun h=>by
  have hne:c≠ow:=by rintro rfl; exact h t2
  rw[q5 c hne,q4 c hne,q3 c hne]⟩⟩
 have W5:=W2.frS f5 om om fun c hc=>W2.tz c om
 have l25:oLoad false 1 H5 (cellR ow 9 2)=some (cellR o 3 0):=row_load r5 rfl rfl
 have eM:M++blkB (lastN true) M.length b sent b.length++List.replicate (fillN (M++blkB (lastN true) M.length b sent b.length).length) false=M++endX M.length b sent:=by
  simp only[endX,List.append_assoc,lA]; rfl
 rw[eM]at W5
 have h8:(M++endX M.length b sent).length % 8=0:=by
  rw[← eM,lA,List.length_replicate]; exact fill_ok _
 have hle:(M++endX M.length b sent).length≤100000:=by
  rw[← eM,lA,List.length_replicate,lA]; unfold fillN; omega
 simp only[sA,sB,seval,nil_cell,fldA,fld0,m3,m4,m5,l25]
 refine (take_spec W5 om).mono ?_
 rintro s H6 ⟨C6,τ6,B6,_,f6⟩
 rw[List.take_of_length_le om]at C6
 simp only[sA,sB,seval]
 refine⟨s,tt,C6,τ6,B6,(FW.of_fr f1 om om).trans ((FW.of_fr f2 (by unfold k2; omega) (by unfold k2; omega)).trans ((FW.of_fr f5 om om).trans (FW.of_ft f6)))⟩
open Go.Abs Go.Abs.S
theorem adler_spec{n:Nat}{H:AHeap}{v:AVal}{s:Bs}(h:Cel n H v (byts s))(sum:Nat)(hs:sum<2 ^ 32)(hl:s.length≤1000000000) :
  ACalls Tryz.prog noNat 244 [.int .u32 (sum:Int),v] H fun w H'=>w=.int .u32 ((adler sum s:Nat):Int)∧H=H':=by
 refine acalls_ofN rfl za244 rfl ?_
 have ha:aBin .and (.int .u32 (sum:Int)) (.int .u32 65535)=some (.int .u32 ((sum % 65536:Nat):Int)):=by
  have:=bin_andU .u32 (.inr (.inr (.inl rfl))) (a:=sum) (b:=65535) hs (by simp[IntKind.bits])
  rw[Nat.and_two_pow_sub_one_eq_mod sum 16]at this
  exact this
 have hr:aBin .rem (.int .u32 ((sum % 65536:Nat):Int)) (.int .u32 65521)=some (.int .u32 ((sum % 65536 % 65521:Nat):Int)):=remU32 65521 om
 have hsh:aBin .shr (.int .u32 (sum:Int)) (.int .u64 16)=some (.int .u32 ((sum / 65536:Nat):Int)):=shrN .u32 .u64 sum (b:=16) (by simp[IntKind.bits])
 have hr2:aBin .rem (.int .u32 ((sum / 65536:Nat):Int)) (.int .u32 65521)=some (.int .u32 ((sum / 65536 % 65521:Nat):Int)):=remU32 65521 om
 have hlen:aLenK false v=some (.int .i64 (s.length:Int)):=by have:=h.len; rwa [byts_len]at this
 simp only[c244,sA,sB,seval,ha,hr,hsh,hr2,hlen]
 refine aw_loop (fun q (T:Env) H'=>∃j:Nat,j≤s.length∧q=s.length-j∧T 5=.int .u32 (((adlerF (adlerS sum) (s.take j)).1:Nat):Int)∧T 6=.int .u32 (((adlerF (adlerS sum) (s.take j)).2:Nat):Int)∧T 15=v∧T 16=.int .i64 (s.length:Int)∧T 17=.int .i64 (j:Int)∧H=H') s.length
  ⟨0,Nat.zero_le _,rfl,by simp only[sA,sB,seval]; rfl,by simp only[sA,sB,seval]; rfl,by simp only[sA,sB,seval]; try rfl,by simp only[sA,sB,seval]; try rfl,by simp only[sA,sB,seval]; try rfl,rfl⟩ ?_
 rintro q T _ ⟨j,hj,rfl,g5,g6,g15,g16,g17,rfl⟩
 have hx:=adlerS_lt sum (s.take j)
 by_cases hlt:j<s.length
 ·have hlt':(j:Int)<(s.length:Int):=om
  obtain⟨b,hb⟩:∃b,s[j]?=some b:=⟨_,List.getElem?_eq_getElem hlt⟩
  have hidx:=h.idx .i64 (i:=j) (by rw[byts_len]; exact hlt)
  have hld:=h.load (byts_get hb)
  have hbl:=b.toNat_lt
  have hsn:=adlerF_snoc (adlerS sum) (s.take j) b
  rw[← take_snoc hb]at hsn
  generalize (adlerF (adlerS sum) (s.take j)).1=x at *
  generalize (adlerF (adlerS sum) (s.take j)).2=y at *
  have w1:IntKind.u32.wrap ((x:Int)+(b.toNat:Int))=((x+b.toNat:Nat):Int):=by rw[wrapU32 om om]; omega
  have q1:aBin .rem (.int .u32 ((x+b.toNat:Nat):Int)) (.int .u32 65521)=some (.int .u32 (((x+b.toNat) % 65521:Nat):Int)):=remU32 65521 om
  have hm:(x+b.toNat) % 65521<65521:=Nat.mod_lt _ om
  have w2:IntKind.u32.wrap ((y:Int)+(((x+b.toNat) % 65521:Nat):Int))=((y+(x+b.toNat) % 65521:Nat):Int):=by rw[wrapU32 om om]; omega
  have q2:aBin .rem (.int .u32 ((y+(x+b.toNat) % 65521:Nat):Int)) (.int .u32 65521)=some (.int .u32 (((y+(x+b.toNat) % 65521) % 65521:Nat):Int)):=remU32 65521 om
  simp only[sA,sB,seval,g5,g6,g15,g16,g17,hlt',hidx,hld,b_u32,w1,q1,w2,q2,wrap1 j om]
  exact⟨_,om,j+1,om,rfl,by rw[hsn],by rw[hsn],tt,tt,tt,tt⟩
 ·have hlt':¬(j:Int)<(s.length:Int):=om
  obtain rfl:j=s.length:=om
  rw[List.take_length]at g5 g6 hx
  have hae:=adler_eq sum s
  generalize (adlerF (adlerS sum) s).1=x at *
  generalize (adlerF (adlerS sum) s).2=y at *
  have s1:aBin .shl (.int .u32 (y:Int)) (.int .u64 16)=some (.int .u32 ((y*65536:Nat):Int)):=by
   have:=bin_shlU .u32 .u64 (.inr (.inr (.inl rfl))) y (b:=16) (by simp[IntKind.bits])
   rw[show y*2 ^ 16 % 2 ^ IntKind.u32.bits=y*65536 by simp only[IntKind.bits]; omega]at this
   exact this
  have s2:aBin .or (.int .u32 ((y*65536:Nat):Int)) (.int .u32 (x:Int))=some (.int .u32 ((y*65536+x:Nat):Int)):=by
   have:=bin_orU .u32 (.inr (.inr (.inl rfl))) (a:=y*65536) (b:=x) (by simp only[IntKind.bits]; omega) (by simp only[IntKind.bits]; omega)
   rw[show y*65536 ||| x=y*65536+x from or_low 16 y om]at this
   exact this
  simp only[sA,sB,seval,g5,g6,g15,g16,g17,hlt',s1,s2,← hae]
  exact⟨tt,tt⟩
theorem zstate_spec{H:AHeap}{z:Nat}{bg:Bool}{dw:AVal}{sum:Nat}(h:Row H z (zC bg dw sum)):ACalls Tryz.prog noNat 243 [cellR z 5 0] H fun w H'=>w=.int .i64 0∧H=H':=by
 refine acalls_ofN rfl za243 rfl ?_
 have l0:oLoad false 1 H (cellR z 5 0)=some (.bool true):=row_load h rfl rfl
 have l2:oLoad false 1 H (cellR z 5 2)=some (.bool false):=row_load h rfl rfl
 simp only[c243,sA,sB,seval,eq_ptr_nil,nil_cell,fldA,fld0,l0,l2]
 exact⟨tt,tt⟩
theorem told_spec{H:AHeap}{z g:Nat}{bg:Bool}{dw:AVal}{sum:Nat}{rs cs:List AVal}{Q:AVal→AHeap→Prop}(Z:Row H z (zC bg dw sum))(hz:z<H.next)(hg:g<1024)
  (hcall:∀H1 s0,AppN 1 0 H1 s0 (u8s (hd bg)) (hd bg).length→Blk s0 (H.next≤·)→Row H1 z (zC true dw sum)→H.next≤H1.next→(∀c,c<H.next→c≠z→H1.get c=H.get c)→ACalls Tryz.prog noNat g (rs++cs) H1 fun w H2=>∃s e,w=.tuple [s,e]∧∃s' H3,aAppend 1 1 H2 s0 s=some (s',H3)∧Q s' H3) :
  ACalls Tryz.prog noNat 246 [cellR z 5 0,.func (.func g) rs cs] H Q:=by
 refine acalls_ofN rfl za246 rfl ?_
 have l1:oLoad false 1 H (cellR z 5 1)=some (.bool bg):=row_load Z rfl rfl
 cases bg with
 | true=>
  simp only[c246,sA,sB,seval,nil_cell,fldA,fld0,l1,hg]
  refine (hcall H nilS (AppN.nil _ _ _) (blk_nil _) Z rL fun _ _ _=>rfl).mono ?_
  rintro _ H2 ⟨s,e,rfl,s',H3,m,q⟩
  have m':aAppend 1 1 H2 (.slice none 0 (.known 0)) s=some (s',H3):=m
  simp only[sA,sB,seval,ext_0,ext_1,m']
  exact q
 | false=>
  have c2:Cel (H.next+1) (H.push (.cells (u8s [120,1]) 0 false)) (slR H.next 2 (.known 2)) (u8s [120,1]):=(row_push H (u8s [120,1])).cel rfl (Nat.lt_succ_self _)
  obtain⟨s3,H3,m3,A3,n3,b3,o3⟩:=app_u8 (a:=[]) (AppN.nil 1 0 (H.push (.cells (u8s [120,1]) 0 false))) c2 (by simp)
  rw[push_next]at n3 b3 o3
  have m3':aAppend 1 1 (H.push (.cells (u8s [120,1]) 0 false)) (.slice none 0 (.known 0)) (slR H.next 2 (.known 2))=some (s3,H3):=m3
  have g3:∀c,c<H.next→H3.get c=H.get c:=fun c hc=>(o3 c om (blk_nil _)).trans (get_push_lt hc)
  have B3:Blk s3 (H.next≤·):=(b3 (fun _=>False) (blk_nil _)).mono fun b hb=>hb.elim (fun q=>q.elim) fun q=>om
  obtain⟨H4,m4,r4,k4,q4⟩:=row_st (Z.same (g3 z hz)) (n:=5) rfl (i:=1) om (x:=.bool true) rfl (l':=zC true dw sum) rfl
  simp only[c246,sA,sB,seval,nil_cell,fldA,fld0,l1,build21,m3',m4,hg]
  refine (hcall H4 s3 (A3.same om (B3.mono fun b hb=>q4 b om)) B3 r4 om fun c hc hne=>by rw[q4 c hne]; exact g3 c hc).mono ?_
  rintro _ H5 ⟨s,e,rfl,s',H6,m,q⟩
  simp only[sA,sB,seval,ext_0,ext_1,m]
  exact q
theorem znew_spec(H:AHeap):ACalls Tryz.prog noNat 97 [] H fun w H'=>w=cellR (H.next+3) 5 0∧Row H' (H.next+3) (zC false (cellR (H.next+2) 9 0) 1)∧Row H' (H.next+2) (dC 0 (cellR H.next 3 0) nilS 0 (.map (some (H.next+1))))∧Row H' H.next [.bool true,nilS,.int .i64 0]∧H'.get (H.next+1)=some (.map [] 0)∧H'.next=H.next+4∧Ext H.next H H':=by
 refine acalls_ofN rfl za97 rfl ?_
 simp only[c97,sA,sB,seval]
 refine (dnew_spec H).mono ?_
 rintro _ H1 ⟨rfl,r1,r2,g1,k1,E1⟩
 obtain⟨H3,m3,r3,k3,o3⟩:=row_newL H1 (zC false (cellR (H.next+2) 9 0) 1) (n:=5) rfl
 have bd:aBuild [.bool false,.bool false,.bool false,.ptr none,.int .u32 0] [(0,1,.bool true),(3,1,cellR (H.next+2) 9 0),(4,1,.int .u32 1)]=some (.agg (zC false (cellR (H.next+2) 9 0) 1)):=rfl
 simp only[sA,sB,seval,bd,cells_agg,m3]
 rw[k1]at r3 k3 o3 ⊢
 exact⟨tt,r3,r1.same (o3 _ om),r2.same (o3 _ om),by rw[o3 _ om]; exact g1,om,⟨om,fun c hc=>by rw[o3 c om]; exact E1.old c hc⟩⟩
theorem DB.fr0{n0:Nat}{τ:Nat→Nat}{H H':AHeap}{ow o mb:Nat}{kept:AVal}{b:Bs}{sent K:Nat}{M:List Bool}{pl:Nat}(D:DB n0 τ H ow o mb kept b sent K M pl)(hn:H.next≤H'.next)(e:∀c,c<H.next→τ c≠0→H'.get c=H.get c):DB n0 τ H' ow o mb kept b sent K M pl:=by
 have P:=D.pw
 have o1:=P.own
 have o2:=P.mbn
 have o3:=P.n0n
 have t1:=D.t1
 have t3:=D.t3
 have f:FrS (·=0) τ H τ H':=⟨hn,fun c hc=>⟨rfl,fun h=>e c hc h⟩⟩
 have kb:Blk kept fun c=>(c<H.next∧(τ c<100∧τ c≠6)∧c≠mb∧c≠ow)∧τ c=5:=P.kb.and D.k5
 refine⟨⟨P.row.same (e ow om om),P.kp.same hn (kb.mono fun c hc=>e c hc.1.1 om),kb.mono fun c hc=>⟨om,hc.1.2⟩,?_,o1,o2,P.ne,P.tow,om,fun c hc=>P.tz c om⟩,D.w.frS f om om fun c hc=>P.tz c om,D.k5,t1,t3,D.h6,D.Ks⟩
 obtain⟨es,h1,h2⟩:=MR.iff.1 P.map
 exact MR.iff.2 ⟨es,(e mb om om).trans h1,h2.same hn fun c hc ht=>⟨e c hc om,rfl⟩⟩
def ZW(n0:Nat)(τ:Nat→Nat)(H:AHeap)(z:Nat)(bg:Bool)(b:Bs)(sent K:Nat)(M:List Bool)(pl:Nat):Prop:=
 ∃ow o mb kept,DB n0 τ H ow o mb kept b sent K M pl∧Row H z (zC bg (cellR ow 9 0) (adler 1 b))∧z<H.next∧τ z=0
def FZ(z:Nat)(τ:Nat→Nat)(H:AHeap)(τ':Nat→Nat)(H':AHeap):Prop:=H.next≤H'.next∧∀c,c<H.next→τ c=0→τ' c=0∧(c≠z→H'.get c=H.get c)
theorem zwrite_spec{n n0:Nat}{τ:Nat→Nat}{H:AHeap}{z:Nat}{bg:Bool}{bv:AVal}{b p:Bs}{sent K:Nat}{M:List Bool}{pl:Nat}(h:ZW n0 τ H z bg b sent K M pl)(hp:Cel n H bv (byts p))(hn:n≤H.next)(hbz:Blk bv (·≠z))(hl:b.length+p.length≤20000)(hs:sent≤b.length)(hpl:pl≤9*sent)(hM:M.length≤pl) :
  ACalls Tryz.prog noNat 180 [cellR z 5 0,bv] H fun w H'=>∃s X sent' pl' M' T,w=.tuple [s,.int .i64 0]∧AppN 1 0 H' s (u8s (hd bg++pack T)) (hd bg++pack T).length∧T++M'=M++X∧T.length % 8=0∧M'.length<8∧pl'=pl+X.length∧sent'≤(b++p).length∧(b++p).length-sent'≤4096∧pl'≤9*sent'∧Blks M.length (b.take sent) X ((b++p).take sent')∧(∃τ' K',ZW n0 τ' H' z true (b++p) sent' K' M' pl'∧Blk s (fun c=>τ' c=0∧H.next≤c)∧FZ z τ H τ' H')∧((b++p).length-sent≤4096→sent'=sent∧X=[]):=by
 obtain⟨ow,o,mb,kept,D,R,hz,tz⟩:=h
 refine acalls_ofN rfl za180 rfl ?_
 have b1:bv.one=true:=cel_one hp
 obtain⟨H1,m1,r1,k1,q1⟩:=row_newL H [bv] (n:=1) rfl
 have E1:Ext H.next H H1:=⟨om,fun c hc=>q1 c om⟩
 have R1:=R.same (E1.old z hz)
 have l4:oLoad false 1 H1 (cellR z 5 4)=some (.int .u32 ((adler 1 b:Nat):Int)):=row_load R1 rfl rfl
 have lb:oLoad false 1 H1 (cellR H.next 1 0)=some bv:=row_load r1 rfl rfl
 have hp1:=hp.ext (E1.less hn)
 simp only[c180,sA,sB,seval,cells_one b1,m1]
 refine (zstate_spec R1).mono ?_
 rintro _ _ ⟨rfl,rfl⟩
 simp only[sA,sB,seval,nil_cell,fldA,fld0,l4,lb]
 refine (adler_spec hp1 (adler 1 b) (adler_lt 1 b) om).mono ?_
 rintro _ _ ⟨rfl,rfl⟩
 rw[adler_append]
 obtain⟨H2,m2,r2,k2',q2⟩:=row_st R1 (n:=5) rfl (i:=4) om (x:=.int .u32 ((adler 1 (b++p):Nat):Int)) rfl (l':=zC bg (cellR ow 9 0) (adler 1 (b++p))) rfl
 have l3:oLoad false 1 H2 (cellR z 5 3)=some (cellR ow 9 0):=row_load r2 rfl rfl
 obtain⟨H3,m3,r3,k3,q3⟩:=row_newL H2 [.nilFunc] (n:=1) rfl
 obtain⟨H4,m4,r4,k4,q4⟩:=row_st r3 (n:=1) rfl (i:=0) om (x:=.func (.func 245) [cellR ow 9 0] []) rfl (l':=[.func (.func 245) [cellR ow 9 0] []]) rfl
 have g4:∀c,c<H2.next→H4.get c=H2.get c:=fun c hc=>by rw[q4 c om,q3 c om]
 have R4:=r2.same (g4 z om)
 simp only[sA,sB,seval,nil_cell,fldA,fld0,m2,l3,m3,m4]
 refine told_spec R4 om om fun H5 s0 A0 B0 R5 n5 e5=>?_
 have e05:∀c,c<H.next→c≠z→H5.get c=H.get c:=fun c hc hne=>by rw[e5 c om hne,g4 c om,q2 c hne,q1 c om]
 have D5:=D.fr0 (H':=H5) om fun c hc h0=>e05 c hc (by rintro rfl; exact h0 tz)
 have hp5:Cel H5.next H5 bv (byts p):=cel_same hp om (((cel_blk hp).and hbz).mono fun c hc=>e05 c om hc.2)
 have r5:Row H5 H2.next [.func (.func 245) [cellR ow 9 0] []]:=r4.same (e5 _ om om)
 have rb5:Row H5 H.next [bv]:=r1.same (by rw[e5 _ om om,g4 _ om,q2 _ om])
 have lf:oLoad false 1 H5 (cellR H2.next 1 0)=some (.func (.func 245) [cellR ow 9 0] []):=row_load r5 rfl rfl
 have lb5:oLoad false 1 H5 (cellR H.next 1 0)=some bv:=row_load rb5 rfl rfl
 have tz0:=D.pw.tz
 simp only[List.nil_append]
 refine acalls_ofN rfl za247 rfl ?_
 simp only[c247,sA,sB,seval,lf,lb5]
 refine (dwrite_spec D5 hp5 hl hs hpl hM).mono ?_
 rintro _ H6 ⟨s,X,sent',pl',M',T,rfl,cs,eT,tT,hM',hpl',-,hs',hlong,h9,hB,τ6,K6,kept6,D6,bs,f6,sm⟩
 have f6n:=f6.1
 have b0:Blk s0 fun c=>H.next≤c∧c<H5.next:=((B0.mono fun c hc=>om).and A0.blk')
 have A6:AppN 1 0 H6 s0 (u8s (hd bg)) (hd bg).length:=A0.same f6n (b0.mono fun c hc=>(f6.2 c hc.2 (.inl (tz0 c hc.1))).2)
 have hz5:z<H5.next:=om
 have R6:=R5.same (f6.2 z hz5 (.inl tz)).2
 have hdl:(hd bg).length≤2:=by cases bg <;> simp[hd]
 have eTl:=congrArg List.length eT
 rw[lA,lA]at eTl
 have hbp:(b++p).length=b.length+p.length:=lA
 have hpk:(pack T).length≤50000:=by rw[pack_len]; omega
 obtain⟨s7,H7,m7,A7,n7,b7,o7⟩:=app_u8 A6 cs om
 have s7b:Blk s7 fun c=>(H.next≤c∧c<H5.next)∨H6.next≤c:=b7 _ b0
 have tz6:=D6.pw.tz
 have kp7:∀c,c<H6.next→(c<H.next∨H5.next≤c∨τ6 c≠0)→H7.get c=H6.get c:=fun c hc hx=>o7 c hc (b0.mono fun d hd=>by
  rintro rfl
  have:=(f6.2 c hd.2 (.inl (tz0 c hd.1))).1
  have:=tz0 c hd.1
  omega)
 have D7:=D6.fr0 (H':=H7) n7 fun c hc h0=>kp7 c hc (.inr (.inr h0))
 have R7:=R6.same (kp7 z om (.inl hz))
 simp only[sA,sB,seval,ext_0,ext_1]
 refine⟨s,.int .i64 0,tt,s7,H7,m7,?_⟩
 refine⟨s7,X,sent',pl',M',T,tt,A7,eT,tT,hM',hpl',hs',hlong,h9,hB,⟨τ6,K6,⟨ow,o,mb,kept6,D7,R7,om,(f6.2 z hz5 (.inl tz)).1.trans tz⟩,s7b.mono fun c hc=>?_,om,fun c hc h0=>?_⟩,sm⟩
 ·rcases hc with hc | hc
  ·exact⟨(f6.2 c hc.2 (.inl (tz0 c hc.1))).1.trans (tz0 c hc.1),hc.1⟩
  ·exact⟨tz6 c hc,om⟩
 ·obtain⟨e1,e2⟩:=f6.2 c om (.inl h0)
  exact⟨e1.trans h0,fun hne=>by rw[kp7 c om (.inl hc),e2,e05 c hc hne]⟩
theorem zend_spec{n0:Nat}{τ:Nat→Nat}{H:AHeap}{z:Nat}{bg:Bool}{b:Bs}{sent K:Nat}{M:List Bool}{pl:Nat}(h:ZW n0 τ H z bg b sent K M pl)(hl:b.length≤20000)(hs:sent≤b.length)(hlong:b.length-sent≤4096)(hpl:pl≤9*sent)(hM:M.length<8) :
  ACalls Tryz.prog noNat 181 [cellR z 5 0] H fun w H'=>∃s,w=.tuple [s,.int .i64 0]∧Cel H'.next H' s (u8s (hd bg++pack (M++endX M.length b sent)++fourL (adler 1 b)))∧H.next≤H'.next∧∀c,c<H.next→τ c=0→c≠z→H'.get c=H.get c:=by
 obtain⟨ow,o,mb,kept,D,R,hz,tz⟩:=h
 refine acalls_ofN rfl za181 rfl ?_
 have l3:oLoad false 1 H (cellR z 5 3)=some (cellR ow 9 0):=row_load R rfl rfl
 have tz0:=D.pw.tz
 simp only[c181,sA,sB,seval]
 refine (zstate_spec R).mono ?_
 rintro _ _ ⟨rfl,rfl⟩
 simp only[sA,sB,seval,nil_cell,fldA,fld0,l3]
 refine told_spec R hz om fun H1 s0 A0 B0 R1 n1 e1=>?_
 have D1:=D.fr0 (H':=H1) n1 fun c hc h0=>e1 c hc (by rintro rfl; exact h0 tz)
 refine (dend_spec D1 hl hs hlong hpl hM).mono ?_
 rintro _ H2 ⟨s,rfl,C2,τ2,bs2,f2⟩
 have b0:Blk s0 fun c=>H.next≤c∧c<H1.next:=B0.and A0.blk'
 have n2:=f2.1
 have A2:AppN 1 0 H2 s0 (u8s (hd bg)) (hd bg).length:=A0.same n2 (b0.mono fun c hc=>(f2.2 c hc.2 (.inl (tz0 c hc.1))).2)
 have hbl:=blkB_len 1 M.length (b:=b) (sent:=sent) (to:=b.length) hs rL
 have el:(M++endX M.length b sent).length≤40000:=by
  have hf:fillN (M.length+(blkB 1 M.length b sent b.length).length)≤7:=by unfold fillN; omega
  unfold endX
  simp only[lA,List.length_replicate]; omega
 have pl':(pack (M++endX M.length b sent)).length≤10000:=by rw[pack_len]; omega
 generalize pack (M++endX M.length b sent)=pk at *
 have hdl:(hd bg).length≤2:=by cases bg <;> simp[hd]
 obtain⟨s3,H3,m3,A3,n3,b3,o3⟩:=app_u8 A2 C2 om
 refine⟨s,.int .i64 0,rfl,s3,H3,m3,?_⟩
 have hz1:z<H1.next:=om
 have g3:∀c,c<H.next→H3.get c=H2.get c:=fun c hc=>o3 c om (b0.mono fun d hd=>om)
 have R3:Row H3 z (zC true (cellR ow 9 0) (adler 1 b)):=R1.same (by rw[g3 z hz,(f2.2 z hz1 (.inl tz)).2])
 have B3:Blk s3 (H.next≤·):=(b3 _ B0).mono fun c hc=>om
 obtain⟨H4,m4,r4,k4,q4⟩:=row_st R3 (n:=5) rfl (i:=2) om (x:=.bool true) rfl rfl
 obtain⟨H5,m5,r5,k5,q5⟩:=row_st r4 (n:=5) rfl (i:=3) dD (x:=.ptr none) rfl rfl
 have A5:AppN 1 0 H5 s3 (u8s (hd bg++pk)) (hd bg++pk).length:=A3.same om (B3.mono fun c hc=>by rw[q5 c om,q4 c om])
 have l4:oLoad false 1 H5 (cellR z 5 4)=some (.int .u32 ((adler 1 b:Nat):Int)):=row_load r5 rfl rfl
 have ha:=adler_lt 1 b
 have hsr:∀k:Nat,k≤32→aBin .shr (.int .u32 ((adler 1 b:Nat):Int)) (.int .u64 (k:Int))=some (.int .u32 ((adler 1 b / 2 ^ k:Nat):Int)):=fun k hk=>shrN .u32 .u64 (adler 1 b) hk
 have h24:aBin .shr (.int .u32 ((adler 1 b:Nat):Int)) (.int .u64 24)=some (.int .u32 ((adler 1 b / 16777216:Nat):Int)):=hsr 24 om
 have h16:aBin .shr (.int .u32 ((adler 1 b:Nat):Int)) (.int .u64 16)=some (.int .u32 ((adler 1 b / 65536:Nat):Int)):=hsr 16 om
 have h08:aBin .shr (.int .u32 ((adler 1 b:Nat):Int)) (.int .u64 8)=some (.int .u32 ((adler 1 b / 256:Nat):Int)):=hsr 8 om
 have wu:∀a:Nat,IntKind.u8.wrap (a:Int)=((a % 256:Nat):Int):=fun a=>wrap_um .u8 (.inl rfl) a
 have A6:=A5.same (H':=H5.push (.cells (u8s (fourL (adler 1 b))) 0 false)) (by rw[push_next]; omega) (A5.blk'.mono fun c hc=>get_push_lt hc)
 have C6:Cel (H5.next+1) (H5.push (.cells (u8s (fourL (adler 1 b))) 0 false)) (slR H5.next 4 (.known 4)) (u8s (fourL (adler 1 b))):=(row_push H5 (u8s (fourL (adler 1 b)))).cel rfl (Nat.lt_succ_self _)
 obtain⟨s7,H7,m7,A7,n7,b7,o7⟩:=app_u8 A6 C6 (by simp only[lA,fourL,List.length_cons,List.length_nil]; omega)
 rw[push_next]at n7 o7
 have bs:aBuildSl 4 [.int .u8 0] H5 [(0,1,.int .u8 ((adler 1 b / 16777216 % 256:Nat):Int)),(1,1,.int .u8 ((adler 1 b / 65536 % 256:Nat):Int)),(2,1,.int .u8 ((adler 1 b / 256 % 256:Nat):Int)),(3,1,.int .u8 ((adler 1 b % 256:Nat):Int))]=some (slR H5.next 4 (.known 4),H5.push (.cells (u8s (fourL (adler 1 b))) 0 false)):=build4 _ _ _ _ _
 simp only[sA,sB,seval,nil_cell,fldA,fld0,m4,m5,l4,h24,h16,h08,conv_in,wu,bs,m7]
 refine⟨s7,tt,A7.cel1 A7.blk',om,fun c hc h0 hne=>?_⟩
 rw[o7 c om (B3.mono fun d hd=>om),get_push_lt om,q5 c hne,q4 c hne,g3 c hc,(f2.2 c om (.inl h0)).2]
 exact e1 c hc hne
open Go.Abs Go.Abs.S
def passesL:List (Nat×Nat×Nat×Nat):=[(0,0,8,8),(4,0,8,8),(0,4,4,8),(2,0,4,4),(0,2,2,4),(1,0,2,2),(0,1,1,2)]
def colsP(w:Nat)(p:Nat×Nat×Nat×Nat):Nat:=(w+p.2.2.1-1-p.1) / p.2.2.1
def rowsN(h:Nat)(p:Nat×Nat×Nat×Nat):Nat:=(h+p.2.2.2-1-p.2.1) / p.2.2.2
def rowP(w:Nat)(p:Nat×Nat×Nat×Nat)(k:Nat):Nat×Nat×Nat:=((p.2.1+k*p.2.2.2)*w+p.1,p.2.2.1,colsP w p)
def rowsP(w h:Nat)(p:Nat×Nat×Nat×Nat):List (Nat×Nat×Nat):=if colsP w p<1 then [] else (List.range (rowsN h p)).map (rowP w p)
def rowsL(w h:Nat):List (Nat×Nat×Nat):=passesL.flatMap (rowsP w h)
def manyL(w h:Nat):List Nat:=(rowsL w h).map fun r=>r.2.2
def orderR(r:Nat×Nat×Nat):List Nat:=(List.range r.2.2).map fun i=>r.1+i*r.2.1
def orderL(w h:Nat):List Nat:=(rowsL w h).flatMap orderR
def eachL(w h:Nat):List (Nat×Nat):=passesL.filterMap fun p=>if 0<colsP w p∧0<rowsN h p then some (colsP w p,rowsN h p) else none
def okWH(w h:Nat):Bool:=
 Nat.beq (orderL w h).length (w*h)&&(orderL w h).all (fun n=>Nat.blt n (w*h))&&decide (manyL w h=(eachL w h).flatMap fun e=>List.replicate e.2 e.1)&&(manyL w h).all (fun m=>Nat.ble 1 m&&Nat.ble m 20)&&Nat.ble (manyL w h).length 60
 && (rowsL w h).all (fun r=>Nat.blt r.1 100000&&Nat.blt r.2.1 9)&&passesL.all fun p=>(List.range (rowsN h p)).all (fun k=>Nat.blt (p.2.1+k*p.2.2.2) h)&&Nat.ble h (p.2.1+rowsN h p*p.2.2.2)
def okAll:Bool:=(List.range 20).all fun w=>(List.range 20).all fun h=>okWH (w+1) (h+1)
theorem ok_all:okAll=true:=by kernel_rfl
theorem ok_wh{w h:Nat}(h1:1≤w)(h2:w≤20)(h3:1≤h)(h4:h≤20):okWH w h=true:=by
 have a:=List.all_eq_true.1 ok_all (w-1) (List.mem_range.2 om)
 have b:=List.all_eq_true.1 a (h-1) (List.mem_range.2 om)
 rwa [Nat.sub_add_cancel h1,Nat.sub_add_cancel h3]at b
structure OkP(w h:Nat):Prop where
 len:(orderL w h).length=w*h
 lt:∀n∈orderL w h,n<w*h
 same:manyL w h=(eachL w h).flatMap fun e=>List.replicate e.2 e.1
 many:∀m∈manyL w h,1≤m∧m≤20
 few:(manyL w h).length≤60
 row:∀r∈rowsL w h,r.1<100000∧r.2.1<9
 in_:∀p∈passesL,∀k,k<rowsN h p→p.2.1+k*p.2.2.2<h
 out:∀p∈passesL,h≤p.2.1+rowsN h p*p.2.2.2
theorem okP{w h:Nat}(h1:1≤w)(h2:w≤20)(h3:1≤h)(h4:h≤20):OkP w h:=by
 have a:=ok_wh h1 h2 h3 h4
 simp only[okWH,Bool.and_eq_true,List.all_eq_true,Nat.beq_eq,Nat.blt_eq,Nat.ble_eq,decide_eq_true_eq,List.mem_range]at a
 obtain⟨⟨⟨⟨⟨⟨a1,a2⟩,a3⟩,a4⟩,a5⟩,a6⟩,a7⟩:=a
 exact⟨a1,a2,a3,a4,a5,a6,fun p hp k hk=>(a7 p hp).1 k hk,fun p hp=>(a7 p hp).2⟩
def crc1(c:Nat):Nat:=if c % 2=1 then (c / 2) ^^^ 3988292384 else c / 2
def crcT(i:Nat):Nat:=crc1 (crc1 (crc1 (crc1 (crc1 (crc1 (crc1 (crc1 i)))))))
def crcS(c:Nat)(x:UInt8):Nat:=(c / 256) ^^^ crcT ((c % 256) ^^^ x.toNat)
def crcF(b:Bs):Nat:=4294967295-b.foldl crcS 4294967295
theorem xor_lt32{a b:Nat}(ha:a<4294967296)(hb:b<4294967296):a ^^^ b<4294967296:=Nat.xor_lt_two_pow (n:=32) ha hb
theorem crc1_lt{c:Nat}(h:c<4294967296):crc1 c<4294967296:=by
 unfold crc1
 split
 ·exact xor_lt32 om om
 ·omega
theorem crcT_lt{i:Nat}(h:i<256):crcT i<4294967296:=by
 unfold crcT
 exact crc1_lt (crc1_lt (crc1_lt (crc1_lt (crc1_lt (crc1_lt (crc1_lt (crc1_lt om)))))))
theorem xor_byte{a:Nat}(ha:a<256)(x:UInt8):a ^^^ x.toNat<256:=Nat.xor_lt_two_pow (n:=8) ha (by have:=x.toNat_lt; omega)
theorem crcS_lt{c:Nat}(h:c<4294967296)(x:UInt8):crcS c x<4294967296:=xor_lt32 om (crcT_lt (xor_byte om x))
theorem crcs_lt{c:Nat}(h:c<4294967296)(b:Bs):b.foldl crcS c<4294967296:=by
 induction b generalizing c with
 | nil=>exact h
 | cons x b ih=>exact ih (crcS_lt h x)
theorem crcF_lt(b:Bs):crcF b<4294967296:=by
 unfold crcF
 omega
def be4(n:Nat):Bs:=[UInt8.ofNat (n / 16777216 % 256),UInt8.ofNat (n / 65536 % 256),UInt8.ofNat (n / 256 % 256),UInt8.ofNat (n % 256)]
theorem be4_len(n:Nat):(be4 n).length=4:=rfl
def chunkF(kind body:Bs):Bs:=be4 body.length++(kind++body)++be4 (crcF (kind++body))
theorem chunkF_len{kind:Bs}(h:kind.length=4)(body:Bs):(chunkF kind body).length=body.length+12:=by simp only[chunkF,lA,be4_len,h]; omega
def sigB:Bs:=[137,80,78,71,13,10,26,10]
def kIHDR:Bs:=[73,72,68,82]
def kIDAT:Bs:=[73,68,65,84]
def kIEND:Bs:=[73,69,78,68]
def headB(w h:Nat):Bs:=be4 w++be4 h++[8,6,0,0,1]
def headF(w h:Nat):Bs:=sigB++chunkF kIHDR (headB w h)
open Go.Abs Go.Abs.S
def pcell(p:Nat×Nat×Nat×Nat):List AVal:=[.int .i64 (p.1:Int),.int .i64 (p.2.1:Int),.int .i64 (p.2.2.1:Int),.int .i64 (p.2.2.2:Int)]
def pcells:List AVal:=passesL.flatMap pcell
def i0:AVal:=.int .i64 0
def z28:List AVal:=[i0,i0,i0,i0,i0,i0,i0,i0,i0,i0,i0,i0,i0,i0,i0,i0,i0,i0,i0,i0,i0,i0,i0,i0,i0,i0,i0,i0]
theorem bld0:aBuild [i0,i0,i0,i0] [(0,1,.int .i64 0),(1,1,.int .i64 0),(2,1,.int .i64 8),(3,1,.int .i64 8)]=some (.agg (pcell (0,0,8,8))):=_root_.id rfl
theorem bld1:aBuild [i0,i0,i0,i0] [(0,1,.int .i64 4),(1,1,.int .i64 0),(2,1,.int .i64 8),(3,1,.int .i64 8)]=some (.agg (pcell (4,0,8,8))):=_root_.id rfl
theorem bld2:aBuild [i0,i0,i0,i0] [(0,1,.int .i64 0),(1,1,.int .i64 4),(2,1,.int .i64 4),(3,1,.int .i64 8)]=some (.agg (pcell (0,4,4,8))):=_root_.id rfl
theorem bld3:aBuild [i0,i0,i0,i0] [(0,1,.int .i64 2),(1,1,.int .i64 0),(2,1,.int .i64 4),(3,1,.int .i64 4)]=some (.agg (pcell (2,0,4,4))):=_root_.id rfl
theorem bld4:aBuild [i0,i0,i0,i0] [(0,1,.int .i64 0),(1,1,.int .i64 2),(2,1,.int .i64 2),(3,1,.int .i64 4)]=some (.agg (pcell (0,2,2,4))):=_root_.id rfl
theorem bld5:aBuild [i0,i0,i0,i0] [(0,1,.int .i64 1),(1,1,.int .i64 0),(2,1,.int .i64 2),(3,1,.int .i64 2)]=some (.agg (pcell (1,0,2,2))):=_root_.id rfl
theorem bld6:aBuild [i0,i0,i0,i0] [(0,1,.int .i64 0),(1,1,.int .i64 1),(2,1,.int .i64 1),(3,1,.int .i64 2)]=some (.agg (pcell (0,1,1,2))):=_root_.id rfl
theorem passes_spec(H:AHeap):ACalls Tryz.prog noNat 150 [] H fun v H'=>v=.agg pcells∧Ext H.next H H':=by
 refine acalls_ofN rfl za150 rfl ?_
 obtain⟨H1,m1,r1,k1,q1⟩:=row_newL H z28 (n:=28) rfl
 obtain⟨H2,m2,r2,k2,q2⟩:=row_storeK r1 (n:=28) rfl (i:=0) (k:=28) om (xs:=pcells) rfl rfl
 have bd:aBuild z28 [(0,4,.agg (pcell (0,0,8,8))),(4,4,.agg (pcell (4,0,8,8))),(8,4,.agg (pcell (0,4,4,8))),(12,4,.agg (pcell (2,0,4,4))),(16,4,.agg (pcell (0,2,2,4))),(20,4,.agg (pcell (1,0,2,2))),(24,4,.agg (pcell (0,1,1,2)))]=some (.agg pcells):=_root_.id rfl
 have r2':Row H2 H.next pcells:=by
  have e:z28.take 0++(pcells++z28.drop (0+28))=pcells:=rfl
  rwa [e]at r2
 have l2:oLoad true 28 H2 (cellR H.next 28 0)=some (.agg pcells):=row_loadK r2' (n:=28) rfl (i:=0) (k:=28) om
 have b0:=bld0
 have b1:=bld1
 have b2:=bld2
 have b3:=bld3
 have b4:=bld4
 have b5:=bld5
 have b6:=bld6
 simp only[z28,i0]at m1 bd b0 b1 b2 b3 b4 b5 b6
 simp only[c150,sA,sB,seval,m1,b0,b1,b2,b3,b4,b5,b6,bd,m2]
 exact fin_c1 _ _ _ _ (by simp only[sA,sB,seval]; exact l2) ⟨rfl,⟨om,fun c hc=>by rw[q2 c om,q1 c om]⟩⟩
structure Clo(g:Nat)(cs:List AVal)(R:List (Nat×Nat×Nat))(I:Nat→(Nat→Prop)→AHeap→Prop):Prop where
 own:∀k O H,I k O H→∀c,O c→c<H.next
 keep:∀k O H H',I k O H→H.next≤H'.next→(∀c,O c→H'.get c=H.get c)→I k O H'
 step:∀k r O H,R[k]?=some r→I k O H→ACalls Tryz.prog noNat g ([.int .i64 (r.1:Int),.int .i64 (r.2.1:Int),.int .i64 (r.2.2:Int)]++cs) H fun _ H'=>∃O',I (k+1) O' H'∧H.next≤H'.next∧(∀c,c<H.next→¬O c→H'.get c=H.get c)∧∀c,O' c→O c∨H.next≤c
theorem passes_ok:∀p∈passesL,p.1<p.2.2.1∧p.2.2.1≤8∧p.2.1≤4∧0<p.2.2.2∧p.2.2.2≤8:=by decide
theorem pcells_at{k:Nat}{p:Nat×Nat×Nat×Nat}(h:passesL[k]?=some p):aIdx 7 4 true (.agg pcells) (.int .i64 (k:Int))=some (.agg (pcell p)):=by
 have hk:k<7:=(List.getElem?_eq_some_iff.1 h).1
 match k,hk with
 | 0,_ | 1,_ | 2,_ | 3,_ | 4,_ | 5,_ | 6,_=>cases h; rfl
theorem ia0(b:Nat):aIdxArr 4 1 (cellR b 4 0) (.int .i64 0)=some (cellR b 4 0):=_root_.id rfl
theorem ia1(b:Nat):aIdxArr 4 1 (cellR b 4 0) (.int .i64 1)=some (cellR b 4 1):=_root_.id rfl
theorem ia2(b:Nat):aIdxArr 4 1 (cellR b 4 0) (.int .i64 2)=some (cellR b 4 2):=_root_.id rfl
theorem ia3(b:Nat):aIdxArr 4 1 (cellR b 4 0) (.int .i64 3)=some (cellR b 4 3):=_root_.id rfl
def preN(w h k:Nat):Nat:=((passesL.take k).flatMap (rowsP w h)).length
theorem rows_at{w h k:Nat}{p:Nat×Nat×Nat×Nat}(hp:passesL[k]?=some p){j:Nat}{r:Nat×Nat×Nat}(hj:(rowsP w h p)[j]?=some r):(rowsL w h)[preN w h k+j]?=some r:=by
 have hk:=(List.getElem?_eq_some_iff.1 hp).1
 have e:passesL=passesL.take k++p::passesL.drop (k+1):=by
  rw[← (List.getElem?_eq_some_iff.1 hp).2,← List.drop_eq_getElem_cons hk,List.take_append_drop]
 have:rowsL w h=(passesL.take k).flatMap (rowsP w h)++(rowsP w h p++(passesL.drop (k+1)).flatMap (rowsP w h)):=by
  unfold rowsL
  conv=>lhs; rw[e]
  rw[List.flatMap_append,List.flatMap_cons]
 rw[this,List.getElem?_append_right (by unfold preN; omega)]
 unfold preN
 rw[Nat.add_sub_cancel_left,List.getElem?_append_left (List.getElem?_eq_some_iff.1 hj).1]
 exact hj
theorem preN_succ{w h k:Nat}{p:Nat×Nat×Nat×Nat}(hp:passesL[k]?=some p):preN w h (k+1)=preN w h k+(rowsP w h p).length:=by
 unfold preN
 rw[List.take_add_one,hp]
 simp only[Option.toList_some,List.flatMap_append,List.flatMap_cons,List.flatMap_nil,List.append_nil,lA]
theorem rows_spec{g:Nat}{cs:List AVal}{w h:Nat}{I:Nat→(Nat→Prop)→AHeap→Prop}(C:Clo g cs (rowsL w h) I)(hg:g<1024)(hw:1≤w)(hw2:w≤20)(hh:1≤h)(hh2:h≤20){O:Nat→Prop}{H:AHeap}(h0:I 0 O H) :
  ACalls Tryz.prog noNat 98 [.int .i64 (w:Int),.int .i64 (h:Int),.func (.func g) [] cs] H fun _ H'=>∃O',I (rowsL w h).length O' H'∧H.next≤H'.next∧(∀c,c<H.next→¬O c→H'.get c=H.get c)∧∀c,O' c→O c∨H.next≤c:=by
 have OK:=okP hw hw2 hh hh2
 refine acalls_ofN rfl za98 rfl ?_
 simp only[c98,sA,sB,seval]
 refine (passes_spec H).mono ?_
 rintro _ H1 ⟨rfl,E1⟩
 have e1n:=E1.next
 have i1:=C.keep 0 O H H1 h0 E1.next fun c hc=>E1.old c (C.own _ _ _ h0 c hc)
 simp only[sA,sB,seval]
 refine aw_loop (fun m (T:Env) H'=>∃k O',m=7-k∧k≤7∧T 0=.int .i64 (w:Int)∧T 1=.int .i64 (h:Int)∧T 2=.func (.func g) [] cs∧T 10=.agg pcells∧T 11=.int .i64 (k:Int)∧I (preN w h k) O' H'∧H.next≤H'.next∧(∀c,c<H.next→¬O c→H'.get c=H.get c)∧∀c,O' c→O c∨H.next≤c) 7
  ⟨0,O,rfl,om,by simp only[sA,sB,seval],by simp only[sA,sB,seval],by simp only[sA,sB,seval],by simp only[sA,sB,seval],by simp only[sA,sB,seval]; try rfl,i1,e1n,fun c hc _=>E1.old c hc,fun c hc=>.inl hc⟩ ?_
 rintro m T H2 ⟨k,O2,rfl,hk,t0,t1,t2,t10,t11,i2,n2,f2,o2⟩
 by_cases hlt:k<7
 case neg=>
  obtain rfl:k=7:=om
  simp only[sA,sB,seval,t11]
  have e:preN w h 7=(rowsL w h).length:=by unfold preN rowsL; rfl
  rw[e]at i2
  exact⟨[],rfl,O2,i2,n2,f2,o2⟩
 have hlt':(k:Int)<7:=om
 obtain⟨p,hp⟩:∃p,passesL[k]?=some p:=⟨_,List.getElem?_eq_getElem hlt⟩
 obtain⟨p1,p2,p3,p4,p5⟩:=passes_ok p (List.mem_of_getElem? hp)
 have wk:IntKind.i64.wrap ((k:Int)+1)=((k+1:Nat):Int):=w64
 obtain⟨H3,m3,r3,k3,q3⟩:=row_newL H2 [i0,i0,i0,i0] (n:=4) rfl
 obtain⟨H4,m4,r4',k4,q4⟩:=row_storeK r3 (n:=4) rfl (i:=0) (k:=4) om (xs:=pcell p) rfl rfl
 have r4:Row H4 H2.next (pcell p):=r4'
 have E4:Ext H2.next H2 H4:=⟨om,fun c hc=>by rw[q4 c om,q3 c om]⟩
 have i4:=C.keep _ _ _ H4 i2 E4.next fun c hc=>E4.old c (C.own _ _ _ i2 c hc)
 have l0:∀{H},Row H H2.next (pcell p)→oLoad false 1 H (cellR H2.next 4 0)=some (.int .i64 (p.1:Int)):=fun h=>row_load h rfl rfl
 have l1:∀{H},Row H H2.next (pcell p)→oLoad false 1 H (cellR H2.next 4 1)=some (.int .i64 (p.2.1:Int)):=fun h=>row_load h rfl rfl
 have l2:∀{H},Row H H2.next (pcell p)→oLoad false 1 H (cellR H2.next 4 2)=some (.int .i64 (p.2.2.1:Int)):=fun h=>row_load h rfl rfl
 have l3:∀{H},Row H H2.next (pcell p)→oLoad false 1 H (cellR H2.next 4 3)=some (.int .i64 (p.2.2.2:Int)):=fun h=>row_load h rfl rfl
 have x0:=ia0 H2.next
 have x1:=ia1 H2.next
 have x2:=ia2 H2.next
 have x3:=ia3 H2.next
 simp only[i0]at m3
 have w1:IntKind.i64.wrap ((w:Int)-(p.1:Int))=(w:Int)-(p.1:Int):=wrap64 om om
 have w2:IntKind.i64.wrap ((w:Int)-(p.1:Int)+(p.2.2.1:Int))=(w:Int)-(p.1:Int)+(p.2.2.1:Int):=wrap64 om om
 have w3:IntKind.i64.wrap ((w:Int)-(p.1:Int)+(p.2.2.1:Int)-1)=((w+p.2.2.1-1-p.1:Nat):Int):=by rw[wrap64 om om]; omega
 have hc8:colsP w p≤30:=by
  unfold colsP
  exact Nat.le_trans (Nat.div_le_self _ _) om
 have w4:IntKind.i64.wrap (((w+p.2.2.1-1-p.1:Nat):Int).tdiv (p.2.2.1:Int))=(colsP w p:Int):=by
  have e:((w+p.2.2.1-1-p.1:Nat):Int).tdiv (p.2.2.1:Int)=(colsP w p:Int):=rfl
  rw[e,wrap64 om om]
 have bq:=bin_quo .i64 ((w+p.2.2.1-1-p.1:Nat):Int) (p.2.2.1:Int) om
 have el:(rowsP w h p).length=if colsP w p<1 then 0 else rowsN h p:=by
  unfold rowsP; split <;> simp
 have es:=preN_succ (w:=w) (h:=h) hp
 by_cases hc:colsP w p<1
 ·have hc':(colsP w p:Int)<1:=om
  rw[if_pos hc]at el
  rw[el]at es
  simp only[sA,sB,seval,t0,t1,t2,t10,t11,hlt',pcells_at hp,m3,m4,x0,x1,x2,x3,l0 r4,l1 r4,l2 r4,l3 r4,w1,w2,w3,bq,w4,hc',wk]
  exact⟨7-(k+1),om,k+1,O2,rfl,om,tt,tt,tt,tt,tt,by rw[es]; exact i4,om,fun c hc h=>by rw[E4.old c om,f2 c hc h],o2⟩
 ·have hc':¬(colsP w p:Int)<1:=om
  rw[if_neg hc]at el
  rw[el]at es
  simp only[sA,sB,seval,t0,t1,t2,t10,t11,hlt',pcells_at hp,m3,m4,x0,x1,x2,x3,l0 r4,l1 r4,l2 r4,l3 r4,w1,w2,w3,bq,w4,hc',wk]
  refine aw_loop (fun m (T:Env) H'=>∃j O',m=rowsN h p-j∧j≤rowsN h p∧T 0=.int .i64 (w:Int)∧T 1=.int .i64 (h:Int)∧T 2=.func (.func g) [] cs∧T 7=cellR H2.next 4 0∧T 8=.int .i64 (colsP w p:Int)∧T 9=.int .i64 ((p.2.1+j*p.2.2.2:Nat):Int)∧T 10=.agg pcells∧T 11=.int .i64 (k:Int)∧Row H' H2.next (pcell p)∧¬O' H2.next∧I (preN w h k+j) O' H'∧H2.next<H'.next∧(∀c,c<H.next→¬O c→H'.get c=H.get c)∧∀c,O' c→O c∨H.next≤c) (rowsN h p)
   ⟨0,O2,rfl,om,by simp only[sA,sB,seval,t0],by simp only[sA,sB,seval,t1],by simp only[sA,sB,seval,t2],by simp only[sA,sB,seval],by simp only[sA,sB,seval],by simp only[sA,sB,seval,Nat.zero_mul,Nat.add_zero],by simp only[sA,sB,seval,t10],by simp only[sA,sB,seval,t11],r4,fun h=>by have:=C.own _ _ _ i2 _ h; omega,i4,om,fun c hc h=>by rw[E4.old c om,f2 c hc h],o2⟩ ?_
  rintro m T H5 ⟨j,O5,rfl,hj,u0,u1,u2,u7,u8,u9,u10,u11,r5,no5,i5,n5,f5,o5⟩
  by_cases hjl:j<rowsN h p
  case neg=>
   obtain rfl:j=rowsN h p:=om
   have ho:=OK.out p (List.mem_of_getElem? hp)
   have ho':¬((p.2.1+rowsN h p*p.2.2.2:Nat):Int)<(h:Int):=om
   simp only[sA,sB,seval,u0,u1,u9,u11,ho',wk]
   exact⟨7-(k+1),om,k+1,O5,rfl,om,tt,tt,by simp only[u2],by simp only[u10],tt,by rw[es]; exact i5,om,f5,o5⟩
  have hi:=OK.in_ p (List.mem_of_getElem? hp) j hjl
  have hi':((p.2.1+j*p.2.2.2:Nat):Int)<(h:Int):=om
  have hr:(rowsP w h p)[j]?=some (rowP w p j):=by
   unfold rowsP
   rw[if_neg hc,List.getElem?_map,List.getElem?_range hjl]
   rfl
  have hr2:=rows_at hp hr
  have hm:(p.2.1+j*p.2.2.2)*w≤20*20:=Nat.mul_le_mul om hw2
  have v1:IntKind.i64.wrap (((p.2.1+j*p.2.2.2:Nat):Int)*(w:Int))=(((p.2.1+j*p.2.2.2)*w:Nat):Int):=by
   rw[← Int.natCast_mul,wrap64 om om]
  have v2:IntKind.i64.wrap ((((p.2.1+j*p.2.2.2)*w:Nat):Int)+(p.1:Int))=(((p.2.1+j*p.2.2.2)*w+p.1:Nat):Int):=w64
  have v3:IntKind.i64.wrap (((p.2.1+j*p.2.2.2:Nat):Int)+(p.2.2.2:Int))=((p.2.1+(j+1)*p.2.2.2:Nat):Int):=by
   rw[Nat.add_mul,Nat.one_mul,IntKind.wrap_i64]; omega
  simp only[sA,sB,seval,u0,u1,u2,u7,u8,u9,hi',x0,x2,l0 r5,l2 r5,v1,v2,callvP_func _ _ _ _ _ hg]
  refine (C.step _ _ _ _ hr2 i5).mono ?_
  rintro v6 H6 ⟨O6,i6,n6,f6,o6⟩
  have r6:=r5.same (f6 _ n5 no5)
  simp only[sA,sB,seval,u0,u1,u2,u7,u8,u9,x3,l3 r6,v3]
  exact⟨rowsN h p-(j+1),om,j+1,O6,rfl,om,tt,tt,tt,tt,tt,tt,by simp only[u10],by simp only[u11],r6,fun h=>(o6 _ h).elim no5 fun q=>om,i6,om,fun c hc h=>by
   rw[f6 c om fun q=>(o5 c q).elim h fun q=>om,f5 c hc h],fun c hc=>(o6 c hc).elim (o5 c) fun q=>.inr om⟩
open Go.Abs Go.Abs.S
def Op(n:Nat)(H:AHeap)(s:AVal)(L:List AVal):Prop:=
 (s=nilS∧L=[])∨∃b o low C,s=.slice (some ⟨b,C.length,o⟩) L.length (.open_ 1)∧H.get b=some (.cells C low false)∧low≤C.length∧o+L.length≤C.length∧(C.drop o).take L.length=L∧b<n
theorem AppN.op{n k:Nat}{H:AHeap}{s:AVal}{L:List AVal}(h:AppN 1 0 H s L k)(hb:Blk s (·<n)):Op n H s L:=by
 rcases h with⟨rfl,rfl,_⟩ | ⟨b,low,rfl,h2,_,h4,h5,h6,_⟩
 ·exact .inl ⟨rfl,rfl⟩
 ·obtain rfl:k=L.length:=om
  exact .inr ⟨b,0,low,L,rfl,h5,h6,om,by simp,hb _ _ _ rfl⟩
theorem Op.cel{n:Nat}{H:AHeap}{s:AVal}{L:List AVal}(h:Op n H s L):Cel n H s L:=by
 rcases h with⟨rfl,rfl⟩ | ⟨b,o,low,C,rfl,h1,h2,h3,h4,h5⟩
 ·exact .inl ⟨rfl,rfl⟩
 ·refine .inr ⟨_,_,rfl,h5,?_⟩
  rw[rd_row (H:=H) (b:=b) ⟨low,h1,h2⟩ rfl (i:=o) (k:=L.length) h3,h4]
theorem Op.same{n m:Nat}{H H':AHeap}{s:AVal}{L:List AVal}(h:Op n H s L)(hm:n≤m)(e:Blk s fun c=>H'.get c=H.get c):Op m H' s L:=by
 rcases h with⟨rfl,rfl⟩ | ⟨b,o,low,C,rfl,h1,h2,h3,h4,h5⟩
 ·exact .inl ⟨rfl,rfl⟩
 ·exact .inr ⟨b,o,low,C,rfl,(e _ _ _ rfl).trans h1,h2,h3,h4,om⟩
theorem Op.blk{n:Nat}{H:AHeap}{s:AVal}{L:List AVal}(h:Op n H s L):Blk s (·<n):=by
 rcases h with⟨rfl,rfl⟩ | ⟨b,o,low,C,rfl,h1,h2,h3,h4,h5⟩
 ·exact blk_nil _
 ·exact blk_some h5
theorem Op.sub{n:Nat}{H:AHeap}{s:AVal}{L:List AVal}(h:Op n H s L){lo hi:Nat}(h1:lo≤hi)(h2:hi≤L.length) :
  ∃s',aSl 1 s (some (.int .i64 (lo:Int))) (some (.int .i64 (hi:Int))) none=some s'∧Op n H s' ((L.drop lo).take (hi-lo))∧∀P,Blk s P→Blk s' P:=by
 rcases h with⟨rfl,rfl⟩ | ⟨b,o,low,C,rfl,g1,g2,g3,g4,g5⟩
 ·have:hi=0:=by simpa using h2
  subst this
  obtain rfl:lo=0:=om
  exact⟨nilS,rfl,.inl ⟨rfl,by simp⟩,fun P hP=>hP⟩
 ·have hl:((L.drop lo).take (hi-lo)).length=hi-lo:=by simp; omega
  refine⟨.slice (some ⟨b,C.length,o+lo⟩) (hi-lo) (.open_ 1),?_,.inr ⟨b,o+lo,low,C,by rw[hl],g1,g2,by rw[hl]; omega,?_,g5⟩,fun P hP=>(have q:P b:=hP _ _ _ rfl; blk_some q)⟩
  ·simp only[aSl,Nat.beq_refl,cond_true,Nat.div_one,bnd_lh h1 (show hi≤C.length-o by omega),Nat.mul_one,Nat.ble_eq_true_of_le (show o+hi≤C.length by omega)]
  ·rw[hl]
   conv=>rhs; rw[← g4]
   rw[List.drop_take,List.drop_drop,List.take_take,Nat.min_eq_left om]
theorem Op.from_{n:Nat}{H:AHeap}{s:AVal}{L:List AVal}(h:Op n H s L){lo:Nat}(h1:lo≤L.length) :
  ∃s',aSl 1 s (some (.int .i64 (lo:Int))) none none=some s'∧Op n H s' (L.drop lo)∧∀P,Blk s P→Blk s' P:=by
 obtain⟨s',e,h2,h3⟩:=h.sub h1 rL
 refine⟨s',?_,by rwa [List.take_of_length_le (by simp)]at h2,h3⟩
 rw[← e]
 rcases h with⟨rfl,rfl⟩ | ⟨b,o,low,C,rfl,g1,g2,g3,g4,g5⟩
 ·obtain rfl:lo=0:=by simpa using h1
  rfl
 ·simp only[aSl,bnd_l h1,bnd_lh h1 (show L.length≤(C.length-o) / 1 by omega)]
theorem Op.idx{n:Nat}{H:AHeap}{s:AVal}{L:List AVal}(h:Op n H s L){i:Nat}{x:AVal}(hi:L[i]?=some x):∃b lim o,aIdxA 1 s (.int .i64 (i:Int))=some (cellR b lim o)∧oLoad false 1 H (cellR b lim o)=some x:=by
 have hlt:=(List.getElem?_eq_some_iff.1 hi).1
 rcases h with⟨rfl,rfl⟩ | ⟨b,o,low,C,rfl,g1,g2,g3,g4,g5⟩
 ·simp at hi
 ·have hb:Nat.blt i L.length=true:=by simpa[Nat.blt_eq] using hlt
  refine⟨b,C.length,o+i*1,?_,row_load (H:=H) ⟨low,g1,g2⟩ rfl ?_⟩
  ·show (bif Nat.blt i L.length then some (AVal.ptr (some ⟨b,C.length,o+i*1⟩)) else none)=_
   rw[hb]; rfl
  ·rw[← g4,List.getElem?_take,if_pos hlt,List.getElem?_drop]at hi
   rw[Nat.mul_one]; exact hi
def Mk(H:AHeap)(b cap:Nat)(s:AVal)(L:List AVal):Prop:=
 ∃low C,s=.slice (some ⟨b,cap,0⟩) L.length (.known cap)∧H.get b=some (.cells C low false)∧low≤C.length∧C.length=cap∧C.take L.length=L∧L.length≤cap∧b<H.next
theorem rep1_len(z:AVal)(n:Nat):(rep [z] n).length=n:=by
 induction n with
 | zero=>rfl
 | succ n ih=>simp only[rep,lA,ih,List.length_cons,List.length_nil]; omega
theorem Mk.make{bytes cap:Nat}{z:AVal}(H:AHeap)(hb:bytes*cap≤281474976710656)(hc:cap≤1000000) :
  ∃s H',aMake bytes [z] H (.int .i64 (0:Int)) (.int .i64 (cap:Int))=some (s,H')∧Mk H' H.next cap s []∧H'.next=H.next+1∧∀c,c<H.next→H'.get c=H.get c:=by
 have hr:=rep1_len z cap
 refine⟨.slice (some ⟨H.next,cap,0⟩) 0 (.known cap),H.push (.cells (rep [z] cap) 0 false),?_,⟨0,rep [z] cap,rfl,by rw[AHeap.get_push,if_pos rfl],Nat.zero_le _,hr,by simp,Nat.zero_le _,Nat.lt_succ_self _⟩,rfl,fun c hc=>get_push_lt hc⟩
 have h0:Go.Abs.natOf (.int .i64 (0:Int))=some 0:=rfl
 have h1:Go.Abs.natOf (.int .i64 (cap:Int))=some cap:=by
  show Go.Abs.natOf (.int .i64 (Int.ofNat cap))=some cap
  simp only[Go.Abs.natOf,Nat.ble_eq_true_of_le (show cap≤9223372036854775807 by omega),cond_true]
 simp only[aMake,h0,h1,Nat.ble_eq_true_of_le (Nat.zero_le _),Nat.ble_eq_true_of_le hb,Bool.and_self,cond_true,hr]
theorem Mk.one{H:AHeap}{b cap:Nat}{s:AVal}{L:List AVal}(h:Mk H b cap s L):s.one=true:=by
 obtain⟨low,C,rfl,_⟩:=h; rfl
theorem Mk.blk{H:AHeap}{b cap:Nat}{s:AVal}{L:List AVal}(h:Mk H b cap s L)(P:Nat→Prop)(hp:P b):Blk s P:=by
 obtain⟨low,C,rfl,_⟩:=h; exact blk_some hp
theorem Mk.same{H H':AHeap}{b cap:Nat}{s:AVal}{L:List AVal}(h:Mk H b cap s L)(hn:H.next≤H'.next)(e:H'.get b=H.get b):Mk H' b cap s L:=by
 obtain⟨low,C,h1,h2,h3,h4,h5,h6,h7⟩:=h
 exact⟨low,C,h1,e.trans h2,h3,h4,h5,h6,om⟩
theorem Mk.push{H:AHeap}{b cap:Nat}{s x:AVal}{L:List AVal}(h:Mk H b cap s L)(hl:L.length<cap)(hx:x.one=true){bytes:Nat}(hb:2*cap*bytes≤281474976710656)(hb1:0<bytes) :
  ∃s' H',aAppend 1 bytes (H.push (.cells [x] 0 false)) s (oneS H)=some (s',H')∧Mk H' b cap s' (L++[x])∧H'.next=H.next+1∧∀c,c<H.next→c≠b→H'.get c=H.get c:=by
 obtain⟨low,C,rfl,h2,h3,h4,h5,h6,h7⟩:=h
 have hbl:2*(L.length+1)*bytes≤281474976710656:=Nat.le_trans (Nat.mul_le_mul_right _ (Nat.mul_le_mul_left 2 hl)) hb
 have hlen:L.length+1≤9223372036854775807:=by
  have:2*(L.length+1)≤2*(L.length+1)*bytes:=Nat.le_mul_of_pos_right _ hb1
  omega
 have c1:(Nat.blt 0 1&&(Nat.ble ((2*(L.length+1)+0)*bytes) 281474976710656&&(Nat.ble (L.length+1) 9223372036854775807&&(Nat.beq [x].length (1*1)&&[x].all AVal.one))))=true:=by
  simp only[Nat.add_zero,Nat.ble_eq_true_of_le hbl,Nat.ble_eq_true_of_le hlen,List.length_cons,List.length_nil,Nat.zero_add,Nat.one_mul,Nat.beq_refl,List.all_cons,List.all_nil,hx,Bool.and_self,show Nat.blt 0 1=true from rfl]
 have hg:(H.push (.cells [x] 0 false)).get b=some (.cells C low false):=by rw[get_push_lt h7]; exact h2
 have h3':low≤cap:=om
 have hw:wrCells (H.push (.cells [x] 0 false)) ⟨b,cap,0+L.length*1⟩ [x]=some ((H.push (.cells [x] 0 false)).set b (.cells (C.take L.length++([x]++C.drop (L.length+1))) C.length false)):=by
  unfold wrCells
  simp only[hg,h4,Nat.ble_eq_true_of_le h3',Nat.beq_refl,Nat.zero_add,Nat.mul_one,List.length_cons,List.length_nil,Nat.ble_eq_true_of_le (show L.length+1≤cap by omega),List.all_cons,List.all_nil,hx,Bool.and_self,cond_true]
 have hl2:(C.take L.length++([x]++C.drop (L.length+1))).length=C.length:=by simp; omega
 refine⟨.slice (some ⟨b,cap,0⟩) (L.length+1) (.known cap),(H.push (.cells [x] 0 false)).set b (.cells (C.take L.length++([x]++C.drop (L.length+1))) C.length false),?_,⟨C.length,C.take L.length++([x]++C.drop (L.length+1)),by simp,by rw[AHeap.get_set,if_pos rfl],by rw[hl2]; exact Nat.le_refl _,by rw[hl2,h4],?_,by simp; omega,by rw[set_next,push_next]; omega⟩,by rw[set_next,push_next],fun c hc hne=>by rw[AHeap.get_set,if_neg hne,get_push_lt hc]⟩
 ·simp only[aAppend,src1]
  rw[show Nat.beq 1 0=false from rfl,cond_false,c1,cond_true]
  simp only[Nat.ble_eq_true_of_le (show L.length+1≤cap by omega),cond_true,hw]
 ·rw[h5,← List.append_assoc,List.take_left' (by simp)]
theorem Mk.cel{n:Nat}{H:AHeap}{b cap:Nat}{s:AVal}{L:List AVal}(h:Mk H b cap s L)(hn:b<n):Cel n H s L:=by
 obtain⟨low,C,rfl,h2,h3,h4,h5,h6,h7⟩:=h
 subst h4
 refine .inr ⟨_,_,rfl,hn,?_⟩
 rw[rd_row (H:=H) (b:=b) ⟨low,h2,h3⟩ rfl (i:=0) (k:=L.length) om,List.drop_zero,h5]
end Go.Proofs.Tb
