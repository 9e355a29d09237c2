/- Part of a proof (V6 V7 V8 V9 V10 V11 V12 VFP VF1 VF2 V13 V14 V15 V16 V17 V18 V19 V20 V21 V22 V23 V24); no condition. -/
import Derived.Test.YtbmacgjajnokdaaGreatP6
import Derived.Test.YtbmacgjajnokdaaGreatP11
set_option linter.unusedSimpArgs false
set_option linter.unusedVariables false
set_option linter.defProp false
set_option linter.unnecessarySimpa false
namespace Go.Proofs.Sd
open Go.Abs Go.Abs.S
open Go.Proofs.Tb (PE Bs orderL nats row_st cel_blk cel_same okP)
abbrev Sta:=Jbs×En×Bs
def stepS(w h:Nat)(s:Sta):Sta:=(s.1.step.1,s.2.1.put s.1.step.2,s.2.2++s.2.1.told w h (w*h-(s.1.put+1)) s.1.step.2)
def payS(s:Sta)(k:Nat):Sta:=({ s.1 with debt:=s.1.debt-k },s.2)
def stillS(w h:Nat)(s:Sta):Bool:=decide (2048≤s.2.2.length)||s.1.done (w*h)
def grantL(w h q:Nat):Nat→Nat→Sta→Nat×Sta
 | 0,d,s=>(d,s)
 | f+1,d,s=>if d<q∧stillS w h s=false then (if 0<s.1.debt then grantL w h q f (d+min s.1.debt (q-d)) (payS s (min s.1.debt (q-d))) else grantL w h q f (d+1) (stepS w h s)) else (d,s)
structure Good(w h:Nat)(s:Sta):Prop where
 p:s.1.put≤w*h
 k:s.2.1.ok (w*h-s.1.put)
 u:s.1.ur≤s.1.put
 d:s.1.debt≤1000
theorem step_len(j:Jbs):j.step.2.length=4:=by
 unfold Jbs.step
 split
 ·rfl
 ·show (if j.rays<j.ur+1 then noB else skyB).length=4
  split <;> rfl
theorem step_put(j:Jbs):j.step.1.put=j.put+1∧j.step.1.work=j.work∧j.step.1.rays=j.rays:=by unfold Jbs.step; split <;> exact⟨rfl,rfl,rfl⟩
theorem step_ur(j:Jbs):j.step.1.ur≤j.ur+1∧j.step.1.debt≤j.debt:=by unfold Jbs.step; split <;> exact⟨by simp,by simp⟩
theorem Good.step{w h:Nat}{s:Sta}(G:Good w h s)(hp:s.1.put<w*h):Good w h (stepS w h s):=by
 obtain⟨h1,h2,h3,h4⟩:=G
 obtain⟨a,_⟩:=step_put s.1
 obtain⟨b,c⟩:=step_ur s.1
 obtain⟨l,hl⟩:∃l,w*h-s.1.put=l+1:=⟨w*h-s.1.put-1,om⟩
 refine⟨?_,?_,?_,?_⟩
 ·show s.1.step.1.put≤w*h
  omega
 ·show (s.2.1.put s.1.step.2).ok (w*h-s.1.step.1.put)
  rw[a,show w*h-(s.1.put+1)=l by omega]
  rw[hl]at h2
  exact h2.put (step_len _)
 ·show s.1.step.1.ur≤s.1.step.1.put
  omega
 ·show s.1.step.1.debt≤1000
  omega
theorem done_put{n:Nat}{j:Jbs}(h:j.done n=false)(hd:j.debt=0):j.put<n:=by
 unfold Jbs.done at h
 rw[decide_eq_true hd,Bool.and_true]at h
 have:=of_decide_eq_false h
 omega
theorem JobI.len{S:Nat→Prop}{H:AHeap}{b w h:Nat}{j:Jbs}{E:En}{q:Bs}{pv:AVal}{τ:Nat→Nat}{m lo e z wb:Nat}{x2 x3 ov hv:AVal}(J:JobI S H b w h j E q pv τ m lo e z wb x2 x3 ov hv)(hw:1≤w∧w≤6)(hh:1≤h∧h≤6):aLenK false ov=some (.int .i64 ((w*h:Nat):Int))∧aLenK false hv=some (.int .i64 (q.length:Int)):=by
 have h1:=J.o.len
 have h2:=J.hc.len
 rw[byts_len]at h2
 rw[show (nats (orderL w h)).length=w*h by simp[nats,(okP hw.1 om hh.1 om).len]]at h1
 exact⟨h1,h2⟩
open Go.Abs Go.Abs.S
open Go.Proofs.Tb (row_st)
def JobS(S:Nat→Prop)(H:AHeap)(b w h:Nat)(s:Sta):Prop:=JobK S H b w h s.1 s.2.1 s.2.2 (.ptr none)
theorem Good.pay{w h k:Nat}{s:Sta}(G:Good w h s):Good w h (payS s k):=⟨G.p,G.k,G.u,by show s.1.debt-k≤1000; have:=G.d; omega⟩
def addW(s:Sta)(d:Nat):Sta:=({ s.1 with work:=s.1.work+d },s.2)
theorem pay_spec{S:Nat→Prop}{H:AHeap}{b w h k:Nat}{s:Sta}(J:JobS S H b w h s) :
  ∃H',oStore 1 H (cellR b 14 8) (.int .i64 ((s.1.debt-k:Nat):Int))=some H'∧JobS S H' b w h (payS s k)∧FrJ S H S H':=by
 obtain⟨τ,m,lo,e,z,wb,x2,x3,ov,hv,J⟩:=J
 obtain⟨H2,m2,R2,n2,k2⟩:=row_st J.r (n:=14) rfl (i:=8) om (x:=.int .i64 ((s.1.debt-k:Nat):Int)) rfl (l':=jLp b (cellR wb 25 0) (cellR e 7 0) ov (.ptr none) hv (payS s k).1) rfl
 exact⟨H2,m2,⟨τ,m,lo,e,z,wb,x2,x3,ov,hv,J.fr om (fun c _ hc=>k2 c hc) R2 rfl⟩,om,fun c hc=>.inl hc,fun c hc hn=>k2 c fun q=>hn (q ▸ J.sb)⟩
theorem work_spec{S:Nat→Prop}{H:AHeap}{b w h d:Nat}{s:Sta}(J:JobS S H b w h s) :
  ∃H',oStore 1 H (cellR b 14 13) (.int .i64 ((s.1.work+d:Nat):Int))=some H'∧JobS S H' b w h (addW s d)∧FrJ S H S H':=by
 obtain⟨τ,m,lo,e,z,wb,x2,x3,ov,hv,J⟩:=J
 obtain⟨H2,m2,R2,n2,k2⟩:=row_st J.r (n:=14) rfl (i:=13) om (x:=.int .i64 ((s.1.work+d:Nat):Int)) rfl (l':=jLp b (cellR wb 25 0) (cellR e 7 0) ov (.ptr none) hv (addW s d).1) rfl
 exact⟨H2,m2,⟨τ,m,lo,e,z,wb,x2,x3,ov,hv,J.fr om (fun c _ hc=>k2 c hc) R2 rfl⟩,om,fun c hc=>.inl hc,fun c hc hn=>k2 c fun q=>hn (q ▸ J.sb)⟩
theorem JobS.ld{S:Nat→Prop}{H:AHeap}{b w h:Nat}{s:Sta}(J:JobS S H b w h s):oLoad false 1 H (cellR b 14 8)=some (.int .i64 (s.1.debt:Int))∧oLoad false 1 H (cellR b 14 13)=some (.int .i64 (s.1.work:Int)):=by
 obtain⟨τ,m,lo,e,z,wb,x2,x3,ov,hv,J⟩:=J
 exact⟨row_load J.r rfl rfl,row_load J.r rfl rfl⟩
theorem JobS.made{S:Nat→Prop}{H:AHeap}{b w h:Nat}{s:Sta}(J:JobS S H b w h s):ACalls Tryz.prog noNat 34 [cellR b 14 0] H fun v H'=>v=.bool true∧H=H':=by
 obtain⟨τ,m,lo,e,z,wb,x2,x3,ov,hv,J⟩:=J
 exact jmade_spec J.r
theorem JobS.still{S:Nat→Prop}{H:AHeap}{b w h:Nat}{s:Sta}(J:JobS S H b w h s)(hw:1≤w∧w≤6)(hh:1≤h∧h≤6):ACalls Tryz.prog noNat 54 [cellR b 14 0] H fun v H'=>v=.bool (stillS w h s)∧H=H':=by
 obtain⟨τ,m,lo,e,z,wb,x2,x3,ov,hv,J⟩:=J
 obtain⟨l1,l2⟩:=J.len hw hh
 exact jstill_spec J.r l1 l2
theorem grantL_fuel{w h q:Nat}:∀(f f' d:Nat) (s:Sta),q-d<f→q-d<f'→grantL w h q f d s=grantL w h q f' d s
 | 0,_,_,_,h,_=>om
 | _,0,_,_,_,h=>om
 | f+1,f'+1,d,s,h1,h2=>by
  unfold grantL
  by_cases c:d<q∧stillS w h s=false
  ·rw[if_pos c,if_pos c]
   have:=c.1
   by_cases c2:0<s.1.debt
   ·rw[if_pos c2,if_pos c2]
    exact grantL_fuel f f' _ _ om om
   ·rw[if_neg c2,if_neg c2]
    exact grantL_fuel f f' _ _ om om
  ·rw[if_neg c,if_neg c]
theorem grant_spec{S:Nat→Prop}{H:AHeap}{b w h q:Nat}{s:Sta}(J:JobS S H b w h s)(hw:1≤w∧w≤6)(hh:1≤h∧h≤6)(G:Good w h s)(hq:q≤2000000)(hk:s.1.work≤1000000000000) :
  ACalls Tryz.prog noNat 28 [cellR b 14 0,.int .i64 (q:Int)] H fun r H'=>r=.int .i64 ((grantL w h q (q+1) 0 s).1:Int)∧∃S',JobS S' H' b w h (addW (grantL w h q (q+1) 0 s).2 (grantL w h q (q+1) 0 s).1)∧FrJ S H S' H'∧Good w h (grantL w h q (q+1) 0 s).2:=by
 have hwh:w*h≤6*6:=Nat.mul_le_mul hw.2 hh.2
 refine acalls_ofN rfl za28 rfl ?_
 simp only[c28,sA,sB,seval]
 refine J.made.mono ?_
 rintro _ _ ⟨rfl,rfl⟩
 simp only[sA,sB,seval]
 refine aw_loop (fun mu (T:Env) K=>∃(d:Nat) (t:Sta) (S':Nat→Prop),mu=q-d∧d≤q∧grantL w h q (q+1) 0 s=grantL w h q (q-d+1) d t∧JobS S' K b w h t∧FrJ S H S' K∧Good w h t∧t.1.work=s.1.work ∧
   T 0=cellR b 14 0∧T 1=.int .i64 (q:Int)∧T 5=.int .i64 (d:Int)) q ⟨0,s,S,om,om,rfl,J,⟨Nat.le_refl _,fun c hc=>.inl hc,fun _ _ _=>rfl⟩,G,rfl,tt,tt,tt⟩ ?_
 rintro mu T K ⟨d,t,S',rfl,hd,eq,J,F,G,hwk,t0,t1,t5⟩
 obtain⟨l8,l13⟩:=J.ld
 have hwk':t.1.work≤1000000000000:=om
 obtain⟨K2,m2,J2,F2⟩:=work_spec (d:=d) J
 have ws:IntKind.i64.wrap (9223372036854775807-(t.1.work:Int))=9223372036854775807-(t.1.work:Int):=w64
 have wd:IntKind.i64.wrap ((t.1.work:Int)+(d:Int))=((t.1.work+d:Nat):Int):=w64
 have c3:¬9223372036854775807-(t.1.work:Int)<(d:Int):=om
 by_cases hlt:d<q
 case neg=>
  have hlt':¬(d:Int)<(q:Int):=om
  have e:grantL w h q (q+1) 0 s=(d,t):=by rw[eq]; unfold grantL; rw[if_neg (fun k=>hlt k.1)]
  rw[e]
  simp only[sA,sB,seval,t0,t1,t5,hlt',nil_cell,fldA,l13,ws,c3,wd,m2]
  exact⟨tt,S',J2,F.trans F2,G⟩
 have hlt':(d:Int)<(q:Int):=om
 simp only[sA,sB,seval,t0,t1,t5,hlt']
 refine (J.still hw hh).mono ?_
 rintro _ _ ⟨rfl,rfl⟩
 cases hst:stillS w h t with
 | true=>
  have e:grantL w h q (q+1) 0 s=(d,t):=by rw[eq]; unfold grantL; rw[if_neg (fun k=>by rw[hst]at k; simp at k)]
  rw[e]
  simp only[sA,sB,seval,t0,t1,t5,nil_cell,fldA,l13,ws,c3,wd,m2]
  exact⟨tt,S',J2,F.trans F2,G⟩
 | false=>
  obtain⟨f,hf⟩:∃f,q-d=f+1:=⟨q-d-1,om⟩
  have eq':grantL w h q (q+1) 0 s=if 0<t.1.debt then grantL w h q (q-d) (d+min t.1.debt (q-d)) (payS t (min t.1.debt (q-d))) else grantL w h q (q-d) (d+1) (stepS w h t):=by
   rw[eq]
   show (if d<q∧stillS w h t=false then _ else _)=_
   rw[if_pos ⟨hlt,hst⟩]
  by_cases hdb:0<t.1.debt
  ·have hdb':(0:Int)<(t.1.debt:Int):=om
   have wq:IntKind.i64.wrap ((q:Int)-(d:Int))=((q-d:Nat):Int):=w64
   have hD:=G.d
   have hmm:aPf (.mm false) [.int .i64 (t.1.debt:Int),.int .i64 ((q-d:Nat):Int)]=some (.int .i64 ((min t.1.debt (q-d):Nat):Int)):=by
    have:(if ((q-d:Nat):Int)<(t.1.debt:Int) then ((q-d:Nat):Int) else (t.1.debt:Int))=((min t.1.debt (q-d):Nat):Int):=by split <;> omega
    rw[pf_min,this]
   obtain⟨kk,hkk⟩:∃k,k=min t.1.debt (q-d):=⟨_,rfl⟩
   rw[if_pos hdb,← hkk]at eq'
   rw[← hkk]at hmm
   have hk0:0<kk∧kk≤t.1.debt∧kk≤q-d:=om
   have wdk:IntKind.i64.wrap ((t.1.debt:Int)-(kk:Int))=((t.1.debt-kk:Nat):Int):=w64
   have wdd:IntKind.i64.wrap ((d:Int)+(kk:Int))=((d+kk:Nat):Int):=w64
   obtain⟨K3,m3,J3,F3⟩:=pay_spec (k:=kk) J
   simp only[sA,sB,seval,t0,t1,t5,nil_cell,fldA,l8,hdb',wq,hmm,wdk,m3,wdd]
   refine⟨q-(d+kk),om,d+kk,payS t kk,S',rfl,om,?_,J3,F.trans F3,G.pay,hwk,tt,tt,tt⟩
   rw[eq']
   exact grantL_fuel _ _ _ _ om om
  ·have hdb':¬(0:Int)<(t.1.debt:Int):=om
   have h0:t.1.debt=0:=om
   rw[if_neg hdb]at eq'
   have hst':=hst
   unfold stillS at hst'
   rw[Bool.or_eq_false_iff]at hst'
   have hput:=done_put hst'.2 h0
   have hlen:¬2048≤t.2.2.length:=of_decide_eq_false hst'.1
   have hur:=G.u
   have wd1:IntKind.i64.wrap ((d:Int)+1)=((d+1:Nat):Int):=w64
   simp only[sA,sB,seval,t0,t1,t5,nil_cell,fldA,l8,hdb']
   refine (step_spec J hw hh hput G.k om om).mono ?_
   rintro _ K3 ⟨rfl,S2,J3,F3⟩
   simp only[sA,sB,seval,t5,wd1]
   refine⟨q-(d+1),om,d+1,stepS w h t,S2,rfl,om,?_,J3,F.trans F3,G.step hput,?_,tt,tt,tt⟩
   ·rw[eq',show q-(d+1)+1=q-d by omega]
   ·show t.1.step.1.work=s.1.work
    rw[(step_put t.1).2.1,hwk]
open Go.Abs Go.Abs.S
open Go.Proofs.Tc (skyS wrL nS)
open Go.Proofs.Tb (orderL nats Bs row_st cel_blk cel_same src_cel)
theorem JobI.cut{S:Nat→Prop}{H H':AHeap}{b w h:Nat}{j j':Jbs}{E:En}{q:Bs}{pv pv':AVal}{τ:Nat→Nat}{m lo e z wb:Nat}{x2 x3 ov hv hv':AVal}{q':Bs}(J:JobI S H b w h j E q pv τ m lo e z wb x2 x3 ov hv)
  (hn:H.next≤H'.next) (ek:∀c,S c→c≠b→H'.get c=H.get c) (r:Row H' b (jLp b (cellR wb 25 0) (cellR e 7 0) ov pv' hv' j')) (hcut:Cut H' hv' (byts q')) (bk:∀P,Blk hv P→Blk hv' P) (hp:j'.put=j.put):JobI S H' b w h j' E q' pv' τ m lo e z wb x2 x3 ov hv':=by
 obtain⟨d1,d2,d3,d4,d5⟩:=J.b1
 exact⟨r,J.rw.same (ek _ J.sw d4.symm),cel_same J.o hn ((J.so.and J.b2).mono fun c hc=>ek c hc.1 hc.2.2.2.2),fun hlt=>by
  rw[hp]at hlt ⊢
  exact (J.pe hlt).fr2 J.mn hn fun c hc hq=>by
   rcases hq with hq | hq | hq | hq
   ·exact ek c (J.st c hq) (fun k=>hq (k ▸ d1))
   ·exact ek c (J.sl c hq.1 hq.2) (fun k=>d5 (k ▸ hq))
   ·exact ek c (hq ▸ J.sz) (fun k=>d3 (k ▸ hq))
   ·exact ek c (hq ▸ J.se) (fun k=>d2 (k ▸ hq)),hcut,Nat.le_trans J.mn hn,J.sb,J.sw,J.se,J.sz,J.st,J.sl,J.so,bk _ J.sh,fun c hc=>Nat.lt_of_lt_of_le (J.sn c hc) hn,J.b1,J.b2,bk _ J.b3,J.b4⟩
theorem cel_eqn{n:Nat}{H:AHeap}{v:AVal}{l:Bs}(h:Cel n H v (byts l)):∃t,aPf (.eqv false .slice) [v,.slice none 0 (.known 0)]=some (.bool t)∧(t=true→l=[]):=by
 rcases h with⟨h,e⟩ | ⟨a,r,rfl,_,h3⟩
 ·have:l=[]:=by simpa[byts] using e
  rcases isE_cases h with rfl | ⟨a,rfl⟩
  ·exact⟨true,rfl,fun _=>this⟩
  ·exact⟨false,rfl,fun h=>by cases h⟩
 ·exact⟨false,rfl,fun h=>by cases h⟩
theorem lin_cel{H:AHeap}{s:AVal}{L:List AVal}{k:Nat}(h:LinM 1 H s L k):Cel H.next H s L:=by
 rcases h with⟨rfl,rfl,_⟩ | ⟨b,C,low,r,rfl,h2,h3,h4,h5,h6,h7,h8⟩
 ·exact .inl ⟨rfl,rfl⟩
 ·have hr:=rd_row (H:=H) (l:=C) ⟨low,h3,h4⟩ rfl (i:=0) (k:=k*1) om
  rw[List.drop_zero,h5]at hr
  have hk:L.length=k:=om
  rw[Nat.mul_one,← hk]at hr
  exact .inr ⟨_,r,by rw[hk],h8,hr⟩
theorem clone_spec{n:Nat}{H:AHeap}{v:AVal}{l:Bs}(h:Cel n H v (byts l))(hn:n≤H.next)(hl:l.length≤1000000):ACalls Tryz.prog noNat 53 [v] H fun r H'=>Cel H'.next H' r (byts l)∧Ext H.next H H'∧Blk r (H.next≤·):=by
 refine acalls_ofN rfl za53 rfl ?_
 obtain⟨t,ht,he⟩:=cel_eqn h
 cases t with
 | true=>
  obtain rfl:=he rfl
  simp only[c53,sA,sB,seval,ht]
  exact⟨.inl ⟨rfl,rfl⟩,.refl _ _,blk_nil _⟩
 | false=>
  have hbl:aBuildSl 0 [.int .u8 0] H []=some (.slice (some ⟨H.next,0,0⟩) 0 (.known 0),H.push (.cells [] 0 false)):=rfl
  have L0:LinM 1 (H.push (.cells [] 0 false)) (.slice (some ⟨H.next,0,0⟩) 0 (.known 0)) [] 0:=LinM.built (m:=1) (k:=0) H (xs:=[]) rfl
  have e1:Ext H.next H (H.push (.cells [] 0 false)):=(Ext.refl _ _).push rL _
  have hs:aSrc 1 (H.push (.cells [] 0 false)) v=some (l.length,byts l):=src_cel (cel_same h (Nat.le_refl n) ((cel_blk h).mono fun c hc=>e1.old c om))
  obtain⟨s',H',m',L',n',b',k'⟩:=L0.many hs (by rw[byts_len,Nat.mul_one]) (byts_one _) om (bytes:=1) om om
  simp only[c53,sA,sB,seval,ht,hbl,m']
  rw[List.nil_append]at L'
  refine⟨lin_cel L',⟨by have:=e1.next; omega,fun c hc=>?_⟩,(b' _ (blk_some (show H.next≤H.next by omega))).mono fun c hc=>hc.elim id fun q=>by have:=e1.next; omega⟩
  rw[k' c (by have:=e1.next; omega) (blk_some (show c≠H.next by omega)),e1.old c hc]
theorem take_spec{S:Nat→Prop}{H:AHeap}{b w h:Nat}{s:Sta}{n:Int}(J:JobS S H b w h s)(hn:1≤n)(hl:s.2.2.length≤1000000)(hb:b<H.next) :
  ACalls Tryz.prog noNat 24 [cellR b 14 0,.int .i64 n] H fun r H'=>Cel H'.next H' r (byts (s.2.2.take (min n.toNat s.2.2.length)))∧JobS S H' b w h (s.1,s.2.1,s.2.2.drop (min n.toNat s.2.2.length))∧FrJ S H S H'∧Blk r (H.next≤·):=by
 have J0:=J
 obtain⟨τ,m,lo,e,z,wb,x2,x3,ov,hv,J⟩:=J
 obtain⟨k,hk⟩:∃k,k=min n.toNat s.2.2.length:=⟨_,rfl⟩
 rw[← hk]
 have hkl:k≤s.2.2.length:=om
 have c1:¬n<1:=om
 have l12:oLoad false 1 H (cellR b 14 12)=some hv:=row_load J.r rfl rfl
 have ln:=J.hc.len
 rw[byts_len]at ln
 have hmm:aPf (.mm false) [.int .i64 n,.int .i64 (s.2.2.length:Int)]=some (.int .i64 (k:Int)):=by
  have:(if (s.2.2.length:Int)<n then (s.2.2.length:Int) else n)=(k:Int):=by split <;> omega
  rw[pf_min,this]
 obtain⟨v1,m1,C1,_⟩:=J.hc.first (hi:=k) (by rw[byts_len]; exact hkl)
 have bt:(byts s.2.2).take k=byts (s.2.2.take k):=by simp[byts,List.map_take]
 have bd:(byts s.2.2).drop k=byts (s.2.2.drop k):=by simp[byts,List.map_drop]
 rw[bt]at C1
 refine acalls_ofN rfl za24 rfl ?_
 simp only[c24,sA,sB,seval]
 refine J0.made.mono ?_
 rintro _ _ ⟨rfl,rfl⟩
 simp only[sA,sB,seval,c1,nil_cell,fldA,l12,ln,hmm,m1]
 refine (clone_spec C1 rL (by rw[List.length_take]; omega)).mono ?_
 rintro v2 H2 ⟨C2,E2,B2⟩
 have e2:=E2.next
 have J2:=J.fr (H':=H2) e2 (fun c hc _=>E2.old c (J.sn c hc)) (J.r.same (E2.old _ hb)) rfl
 have l12':oLoad false 1 H2 (cellR b 14 12)=some hv:=row_load J2.r rfl rfl
 obtain⟨v3,m3,C3,B3⟩:=J2.hc.from_ (lo:=k) (by rw[byts_len]; exact hkl)
 rw[bd]at C3
 obtain⟨H3,m4,R4,n4,k4⟩:=row_st J2.r (n:=14) rfl (i:=12) om (x:=v3) C3.one (l':=jLp b (cellR wb 25 0) (cellR e 7 0) ov (.ptr none) v3 s.1) rfl
 simp only[sA,sB,seval,nil_cell,fldA,l12',m3,m4]
 have hb2:b<H2.next:=om
 have J4:=J2.cut (H':=H3) (j':=s.1) om (fun c _ hc=>k4 c hc) R4 (C3.same om ((B3 _ J2.b3).mono fun c hc=>k4 c hc.2.2.2.1)) B3 rfl
 refine⟨cel_same C2 om (B2.mono fun c hc=>k4 c om),⟨τ,m,lo,e,z,wb,x2,x3,ov,v3,J4⟩,⟨om,fun c hc=>.inl hc,fun c hc hn=>by rw[k4 c (fun q=>hn (q ▸ J.sb)),E2.old c hc]⟩,B2⟩
open Go.Abs Go.Abs.S
open Go.Proofs.Tc (skyS wrL nS size0_spec)
open Go.Proofs.Tb (PE orderL nats Bs row_st cel_blk cel_same okP manyL rowsL pnew_spec order_spec)
theorem many_sum{w h:Nat}(hw:1≤w∧w≤6)(hh:1≤h∧h≤6):(manyL w h).sum=w*h:=by
 have:=(okP hw.1 om hh.1 om).len
 rw[← this]
 unfold orderL manyL
 rw[List.length_flatMap]
 congr 1
 refine List.map_congr_left fun r _=>?_
 simp[Go.Proofs.Tb.orderR]
def en0(w h:Nat):En:=⟨manyL w h,0,false,[]⟩
theorem en0_ok{w h:Nat}(hw:1≤w∧w≤6)(hh:1≤h∧h≤6):(en0 w h).ok (w*h):=by
 have OK:=okP hw.1 om hh.1 om
 have hwh:w*h≤6*6:=Nat.mul_le_mul hw.2 hh.2
 refine⟨many_sum hw hh,OK.many,fun m0 rest e=>?_,by show 0+5*(w*h)≤4000; omega⟩
 have e':manyL w h=m0::rest:=e
 have:=OK.many m0 (by rw[e']; simp)
 show 0<m0
 omega
def sta0(w h first rays:Nat):Sta:=(⟨rays,0,first,0,false,0⟩,en0 w h,[])
theorem sta0_good{w h first rays:Nat}(hw:1≤w∧w≤6)(hh:1≤h∧h≤6)(hf:first≤1000):Good w h (sta0 w h first rays):=⟨Nat.zero_le _,en0_ok hw hh,Nat.le_refl _,hf⟩
theorem inew_spec{H:AHeap}{wb w h first rays:Nat}{x2 x3:AVal}(rw0:Row H wb (wrL wb (skyS w h) nS nS nS nS x2 x3))(hwb:wb<H.next)(hw:1≤w∧w≤6)(hh:1≤h∧h≤6)(hf:first≤1000)(hr:rays≤1000) :
  ACalls Tryz.prog noNat 38 [cellR wb 25 0,.int .i64 (first:Int),.int .i64 (rays:Int),.int .i64 0] H fun r H'=>∃b S,r=.tuple [cellR b 14 0,.int .i64 0]∧JobS S H' b w h (sta0 w h first rays)∧H.next≤b∧(∀c,S c→c=wb∨H.next≤c)∧Ext H.next H H':=by
 have c1:¬(w:Int)<1:=om
 have c2:¬(h:Int)<1:=om
 have c3:¬(first:Int)<0:=om
 have c4:¬(rays:Int)<0:=om
 refine acalls_ofN rfl za38 rfl ?_
 simp only[c38,sA,sB,seval]
 refine (size0_spec rw0).mono ?_
 rintro _ _ ⟨rfl,rfl⟩
 simp only[sA,sB,seval,ext_0,ext_1,c1,c2,c3,c4]
 refine (pnew_spec hw.1 om hh.1 om H).mono ?_
 rintro _ H1 ⟨e,z,m,τ,rfl,P,hm,he,hz,tz,E1⟩
 have e1:=E1.next
 obtain⟨n0,Kz,Z⟩:=P.zw
 obtain⟨hz1,tz0,tzn⟩:=Z.lt
 have hen:=P.en
 have bu:aBuild [.int .i64 0,.int .i64 0] [(0,1,.int .i64 (rays:Int)),(1,1,.int .i64 0)]=some (.agg [.int .i64 (rays:Int),.int .i64 0]):=rfl
 obtain⟨cs,hcs⟩:∃l:List AVal,l=[.int .i64 (rays:Int),.int .i64 0,.ptr none,cellR wb 25 0,cellR e 7 0,nS,.int .i64 0,.ptr none,.int .i64 (first:Int),.int .i64 0,.int .i64 0,.bool false,nS,.int .i64 0]:=⟨_,rfl⟩
 have bj:aBuild [.int .i64 0,.int .i64 0,.ptr none,.ptr none,.ptr none,nS,.int .i64 0,.ptr none,.int .i64 0,.int .i64 0,.int .i64 0,.bool false,nS,.int .i64 0] [(0,2,.agg [.int .i64 (rays:Int),.int .i64 0]),(3,1,cellR wb 25 0),(4,1,cellR e 7 0),(8,1,.int .i64 (first:Int))]=some (.agg cs):=by rw[hcs]; rfl
 obtain⟨H2,m2,r2,n2,k2⟩:=row_newL H1 cs (n:=14) (by rw[hcs]; rfl)
 simp only[sA,sB,seval,ext_0,ext_1,bu,bj,cells_agg,m2]
 refine (order_spec hw.1 om hh.1 om H2).mono ?_
 rintro ov H3 ⟨C3,B3,E3⟩
 have e3:=E3.next
 obtain⟨H4,m4,r4,n4,k4⟩:=row_st (r2.same (E3.old _ om)) (n:=14) (by rw[hcs]; rfl) (i:=5) om (x:=ov) (Go.Proofs.Tb.cel_one C3) (l':=cs.set 5 ov) rfl
 obtain⟨H5,m5,r5,n5,k5⟩:=row_st r4 (n:=14) (by rw[hcs]; rfl) (i:=2) om (x:=cellR H1.next 14 0) rfl (l':=jLp H1.next (cellR wb 25 0) (cellR e 7 0) ov (.ptr none) nS (sta0 w h first rays).1) (by rw[hcs]; rfl)
 simp only[sA,sB,seval,nil_cell,fldA,m4,m5]
 have old:∀c,c<H1.next→H5.get c=H1.get c:=fun c hc=>by rw[k5 c om,k4 c om,E3.old c om,k2 c om]
 refine⟨H1.next,fun c=>c=wb∨(H.next≤c∧c<H5.next),tt,⟨τ,m,H.next,e,z,wb,x2,x3,ov,nS,?_⟩,e1,fun c hc=>hc.imp id fun q=>q.1,om,fun c hc=>by rw[old c om,E1.old c hc]⟩
 have ob:Blk ov fun c=>H2.next≤c∧c<H3.next:=(B3.and (cel_blk C3))
 exact⟨r5,rw0.same (by rw[old wb om,E1.old wb hwb]),cel_same C3 om (ob.mono fun c hc=>by rw[k5 c om,k4 c om]),
  fun _=>P.fr2 hm om fun c hc _=>old c hc,Cut.nil _,om,.inr ⟨om,om⟩,.inl rfl,.inr ⟨om,om⟩,.inr ⟨om,om⟩,
  fun c hc=>.inr ⟨Nat.le_of_not_lt fun q=>hc (tz c q),Nat.lt_of_not_le fun q=>hc (tzn c om)⟩,fun c h1 h2=>.inr ⟨h1,om⟩,ob.mono fun c hc=>.inr ⟨om,om⟩,blk_nil _,
  fun c hc=>hc.elim (fun q=>om) fun q=>q.2,⟨tzn _ rL,om,om,om,om⟩,ob.mono fun c hc=>⟨tzn c om,om,om,om⟩,blk_nil _,tz wb hwb,om,om⟩
open Go.Abs Go.Abs.S
open Go.Proofs.Tb (Bs leadB putF idatF hdB headF)
def remS(w h:Nat)(s:Sta):Nat:=s.1.debt+(w*h-s.1.put)
structure Hb(w h:Nat)(s:Sta):Prop where
 q:s.2.2.length≤if s.1.put=0 then 0 else if s.1.put<w*h then 60 else 400
 b:s.2.1.b.length≤5*s.1.put
 g:s.2.1.bg=decide (0<s.1.put)
 z:s.1.debt=0∨s.1.put=0
theorem Hb.len{w h:Nat}{s:Sta}(B:Hb w h s):s.2.2.length≤400:=by
 have:=B.q
 split at this
 ·omega
 ·split at this <;> omega
theorem Hb.step{w h:Nat}{s:Sta}(B:Hb w h s)(G:Good w h s)(hw:w≤6)(hh:h≤6)(hp:s.1.put<w*h)(h0:s.1.debt=0):Hb w h (stepS w h s):=by
 have hwh:w*h≤6*6:=Nat.mul_le_mul hw hh
 obtain⟨a,_⟩:=step_put s.1
 obtain⟨_,c⟩:=step_ur s.1
 obtain⟨l,hl⟩:∃l,w*h-s.1.put=l+1:=⟨w*h-s.1.put-1,om⟩
 have hk:=G.k
 rw[hl]at hk
 obtain⟨m0,rest,hr,_,_⟩:=hk.cons
 have hlb:=leadB_len s.2.1.at_
 have hsl:=step_len s.1
 have hb:=B.b
 have he:s.2.1.put s.1.step.2=⟨Go.Proofs.Tb.rowsS m0 rest s.2.1.at_,Go.Proofs.Tb.atS m0 s.2.1.at_,true,s.2.1.b++(leadB s.2.1.at_++s.1.step.2)⟩:=by unfold En.put; rw[hr]
 refine⟨?_,?_,?_,.inl (by show s.1.step.1.debt=0; omega)⟩
 ·show (s.2.2++s.2.1.told w h (w*h-(s.1.put+1)) s.1.step.2).length≤if s.1.step.1.put=0 then 0 else if s.1.step.1.put<w*h then 60 else 400
  rw[a,if_neg om,lA]
  have hq:=B.q
  have ht:=told_len (w:=w) (h:=h) (left:=w*h-(s.1.put+1)) (E:=s.2.1) hsl om
  by_cases hlast:s.1.put+1<w*h
  ·rw[if_pos hlast]
   have e1:s.2.1.told w h (w*h-(s.1.put+1)) s.1.step.2=putF w h (w*h-(s.1.put+1)) s.2.1.bg:=by unfold En.told; rw[if_neg om]
   rw[e1]
   unfold putF
   by_cases hz:s.1.put=0
   ·rw[if_pos hz]at hq
    have hg:s.2.1.bg=false:=by rw[B.g,hz]; rfl
    rw[hg,if_pos om]
    have i:=idatF_len (hdB false)
    have i2:(hdB false).length=2:=rfl
    have i3:(headF w h).length=33:=rfl
    rw[lA]
    omega
   ·rw[if_neg hz,if_pos hp]at hq
    have hg:s.2.1.bg=true:=by rw[B.g]; exact decide_eq_true om
    rw[hg,if_neg om]
    have i2:([]++idatF (hdB true)).length=0:=rfl
    omega
  ·rw[if_neg hlast]
   by_cases hz:s.1.put=0
   ·rw[if_pos hz]at hq; omega
   ·rw[if_neg hz,if_pos hp]at hq; omega
 ·show (s.2.1.put s.1.step.2).b.length≤5*s.1.step.1.put
  rw[he,a]
  simp only[lA]
  omega
 ·show (s.2.1.put s.1.step.2).bg=decide (0<s.1.step.1.put)
  rw[he,a]
  exact (decide_eq_true om).symm
theorem Hb.pay{w h k:Nat}{s:Sta}(B:Hb w h s):Hb w h (payS s k):=⟨B.q,B.b,B.g,B.z.imp (fun q=>by show s.1.debt-k=0; omega) id⟩
theorem still_iff{w h:Nat}{s:Sta}(B:Hb w h s)(G:Good w h s):stillS w h s=decide (remS w h s=0):=by
 have:=B.len
 have hp:=G.p
 unfold stillS remS Jbs.done
 rw[decide_eq_false (show ¬2048≤s.2.2.length by omega),Bool.false_or,← Bool.decide_and]
 congr 1
 exact propext ⟨fun h=>om,fun h=>om⟩
theorem grantL_rem{w h q:Nat}(hw:w≤6)(hh:h≤6):∀(f d:Nat) (s:Sta),d≤q→q-d<f→Hb w h s→Good w h s →
  (grantL w h q f d s).1=d+min (q-d) (remS w h s)∧remS w h (grantL w h q f d s).2=remS w h s-min (q-d) (remS w h s)∧Hb w h (grantL w h q f d s).2
 | 0,d,s,_,h,_,_=>om
 | f+1,d,s,hd,hf,B,G=>by
  have hst:=still_iff B G
  have hp:=G.p
  unfold grantL
  by_cases c:d<q∧stillS w h s=false
  ·rw[if_pos c]
   have cq:=c.1
   have hr:remS w h s≠0:=by have:=c.2; rw[hst]at this; exact of_decide_eq_false this
   by_cases c2:0<s.1.debt
   ·rw[if_pos c2]
    obtain⟨k,hk⟩:∃k,k=min s.1.debt (q-d):=⟨_,rfl⟩
    rw[← hk]
    have er:remS w h (payS s k)=remS w h s-k:=by show s.1.debt-k+(w*h-s.1.put)=s.1.debt+(w*h-s.1.put)-k; omega
    have hkr:k≤remS w h s:=by show k≤s.1.debt+_; omega
    obtain⟨h1,h2,h3⟩:=grantL_rem (q:=q) hw hh f (d+k) (payS s k) om om B.pay G.pay
    rw[er]at h1 h2
    exact⟨by rw[h1]; omega,by rw[h2]; omega,h3⟩
   ·rw[if_neg c2]
    have h0:s.1.debt=0:=om
    have hpl:s.1.put<w*h:=by unfold remS at hr; omega
    have er:remS w h (stepS w h s)=remS w h s-1:=by
     have h1:=(step_put s.1).1
     have h2:=(step_ur s.1).2
     show s.1.step.1.debt+(w*h-s.1.step.1.put)=s.1.debt+(w*h-s.1.put)-1
     omega
    obtain⟨h1,h2,h3⟩:=grantL_rem (q:=q) hw hh f (d+1) (stepS w h s) om om (B.step G hw hh hpl h0) (G.step hpl)
    rw[er]at h1 h2
    exact⟨by rw[h1]; omega,by rw[h2]; omega,h3⟩
  ·rw[if_neg c]
   have hm:min (q-d) (remS w h s)=0:=by
    by_cases c3:d<q
    ·have:stillS w h s=true:=by
      cases hx:stillS w h s with
      | true=>rfl
      | false=>exact absurd ⟨c3,hx⟩ c
     rw[hst]at this
     have:=of_decide_eq_true this
     omega
    ·omega
   rw[hm]
   exact⟨rfl,rfl,B⟩
open Go.Abs Go.Abs.S
def pickF(x:Int)(m:Nat):Nat:=(if x.tmod m<0 then x.tmod m+m else x.tmod m).toNat
theorem pickF_lt(x:Int){m:Nat}(h:0<m):pickF x m<m:=by
 have h1:=Int.tmod_lt_of_pos x (show (0:Int)<m by omega)
 have h2:=Int.lt_tmod_of_pos x (show (0:Int)<m by omega)
 unfold pickF
 split <;> omega
theorem pickN_spec(x:Int)(m:Nat)(h0:0<m)(hm:m≤1000000){H:AHeap}:ACalls Tryz.prog noNat 9 [.int .i64 x,.int .i64 (m:Int)] H fun v H'=>v=.int .i64 (pickF x m:Int)∧H=H':=by
 have h1:=Int.tmod_lt_of_pos x (show (0:Int)<m by omega)
 have h2:=Int.lt_tmod_of_pos x (show (0:Int)<m by omega)
 have r1:aBin .rem (.int .i64 x) (.int .i64 (m:Int))=some (.int .i64 (x.tmod m)):=bin_rem _ _ _ om
 have c1:¬(m:Int)<1:=om
 refine acalls_ofN rfl za9 rfl ?_
 unfold pickF
 by_cases c2:x.tmod m<0
 ·have w2:IntKind.i64.wrap (x.tmod m+(m:Int))=x.tmod m+(m:Int):=w64
  simp only[c9,sA,sB,seval,c1,r1,c2,w2]
  refine⟨?_,tt⟩
  rw[Int.toNat_of_nonneg om]
 ·simp only[c9,sA,sB,seval,c1,r1,c2]
  refine⟨?_,tt⟩
  rw[Int.toNat_of_nonneg om]
structure Opn where
 do_:Int
 who:Int
 id:Int
 n:Int
 w:Int
 h:Int
 first:Int
 rays:Int
def Opn.cells(o:Opn):List AVal:=[.int .i64 o.do_,.int .i64 o.who,.int .i64 o.id,.int .i64 o.n,.int .i64 o.w,.int .i64 o.h,.int .i64 o.first,.int .i64 o.rays]
def Opn.W(o:Opn):Nat:=1+pickF o.w 6
def Opn.H(o:Opn):Nat:=1+pickF o.h 6
theorem Opn.W_le(o:Opn):1≤o.W∧o.W≤6:=by have:=pickF_lt o.w (m:=6) om; unfold Opn.W; omega
theorem Opn.H_le(o:Opn):1≤o.H∧o.H≤6:=by have:=pickF_lt o.h (m:=6) om; unfold Opn.H; omega
open Go.Proofs.Tc (skyS wrL nS zSc skyL sc_one new0_spec)
theorem scene_spec(o:Opn){H:AHeap}:ACalls Tryz.prog noNat 37 [.agg o.cells] H fun v H'=>v=.agg (skyL o.W o.H)∧Ext H.next H H':=by
 obtain⟨H1,m1,r1,n1,k1⟩:=row_newL H o.cells (n:=8) rfl
 obtain⟨H2,m2,r2,n2,k2⟩:=row_newL H1 zSc (n:=21) rfl
 have r12:=r1.same (H':=H2) (k2 _ om)
 have l4:oLoad false 1 H2 (cellR H.next 8 4)=some (.int .i64 o.w):=row_load r12 rfl rfl
 have l5:oLoad false 1 H2 (cellR H.next 8 5)=some (.int .i64 o.h):=row_load r12 rfl rfl
 obtain⟨H3,m3,r3,n3,k3⟩:=row_storeN r2 (n:=21) rfl (xs:=skyL o.W o.H) rfl (sc_one _ rfl rfl rfl)
 have l9:=row_loadN r3 (n:=21) rfl
 have hw:=pickF_lt o.w (m:=6) om
 have hh:=pickF_lt o.h (m:=6) om
 have ww:IntKind.i64.wrap (1+(pickF o.w 6:Int))=((o.W:Nat):Int):=by rw[IntKind.wrap_i64]; unfold Opn.W; omega
 have wh:IntKind.i64.wrap (1+(pickF o.h 6:Int))=((o.H:Nat):Int):=by rw[IntKind.wrap_i64]; unfold Opn.H; omega
 have b1:aBuild [.int .i64 0,.int .i64 0,.int .i64 0] [(1,1,.int .i64 4294967296)]=some (.agg [.int .i64 0,.int .i64 4294967296,.int .i64 0]):=rfl
 have b2:aBuild zSc [(0,1,.int .i64 (o.W:Int)),(1,1,.int .i64 (o.H:Int)),(2,1,.int .i64 1),(14,1,.int .i64 4294967296),(15,3,.agg [.int .i64 0,.int .i64 4294967296,.int .i64 0])]=some (.agg (skyL o.W o.H)):=rfl
 have p6:((6:Nat):Int)=6:=rfl
 refine acalls_ofN rfl za37 rfl ?_
 simp only[c37,sA,sB,seval,cells_agg,m1,m2]
 refine aw_drawC rfl ?_
 simp only[sR,sA,sB,seval,nil_cell,fldA,l4]
 refine (pickN_spec o.w 6 om om).mono ?_
 rintro _ _ ⟨rfl,rfl⟩
 simp only[sR,sA,sB,seval,nil_cell,fldA,l5,ww]
 refine (pickN_spec o.h 6 om om).mono ?_
 rintro _ _ ⟨rfl,rfl⟩
 simp only[sR,sA,sB,seval,wh,b1,b2,m3]
 simp only[ck_nil',ck_cons,ckP_load,ckP_nil,ck_end,and_true,true_and,List.map_cons,List.map_nil,sA,sB,seval,nil_cell,fldA]
 refine⟨?_,?_⟩
 ·and_intros <;> first | rfl | exact⟨_,rfl,fun _=>⟨_,by assumption,aeq_int _ _⟩⟩
 ·simp only[sA,sB,seval,Go.Proofs.Tc.fin_cc,OptP_some,l9]
  exact⟨tt,⟨om,fun c hc=>by rw[k3 c om,k2 c om,k1 c om]⟩⟩
open Go.Abs Go.Abs.S
open Go.Proofs.Tc (skyS wrL nS skyL new0_spec)
def staO(o:Opn):Sta:=sta0 o.W o.H (pickF o.first 100) (pickF o.rays 41)
theorem made_spec(o:Opn){H:AHeap}:ACalls Tryz.prog noNat 11 [.agg o.cells] H fun r H'=>∃b S,r=cellR b 14 0∧JobS S H' b o.W o.H (staO o)∧H.next≤b∧(∀c,S c→H.next≤c)∧Ext H.next H H':=by
 obtain⟨H1,m1,r1,n1,k1⟩:=row_newL H o.cells (n:=8) rfl
 have E1:Ext H.next H H1:=⟨om,fun c hc=>k1 c om⟩
 have l8:oLoad true 8 H1 (cellR H.next 8 0)=some (.agg o.cells):=row_loadN r1 rfl
 have hf:=pickF_lt o.first (m:=100) om
 have hr:=pickF_lt o.rays (m:=41) om
 refine acalls_ofN rfl za11 rfl ?_
 simp only[c11,sA,sB,seval,cells_agg,m1,l8]
 refine (scene_spec o).mono ?_
 rintro _ H2 ⟨rfl,E2⟩
 have e2:=E2.next
 simp only[sA,sB,seval]
 refine (new0_spec o.W_le o.H_le).mono ?_
 rintro _ H3 ⟨wb,x2,x3,rfl,hwb1,hwb2,rw3,E3⟩
 have e3:=E3.next
 have E13:Ext H.next H H3:=⟨om,fun c hc=>by rw[E3.old c om,E2.old c om,k1 c om]⟩
 have r13:Row H3 H.next o.cells:=r1.same (by rw[E3.old _ om,E2.old _ om])
 have l6:oLoad false 1 H3 (cellR H.next 8 6)=some (.int .i64 o.first):=row_load r13 rfl rfl
 have l7:oLoad false 1 H3 (cellR H.next 8 7)=some (.int .i64 o.rays):=row_load r13 rfl rfl
 have ex2:∀a b c:AVal,aExtract 2 (.tuple [a,b,c])=some c:=fun _ _ _=>_root_.id rfl
 simp only[sA,sB,seval,ext_0,ext_1,ex2]
 refine aw_drawC rfl ?_
 simp only[sR,sA,sB,seval,nil_cell,fldA,l6]
 refine (pickN_spec o.first 100 om om).mono ?_
 rintro _ _ ⟨rfl,rfl⟩
 simp only[sR,sA,sB,seval,nil_cell,fldA,l7]
 refine (pickN_spec o.rays 41 om om).mono ?_
 rintro _ _ ⟨rfl,rfl⟩
 simp only[sR,sA,sB,seval]
 refine (inew_spec rw3 hwb2 o.W_le o.H_le (first:=pickF o.first 100) (rays:=pickF o.rays 41) om om).mono ?_
 rintro _ H4 ⟨b,S,rfl,J,hb,hS,E4⟩
 have e4:=E4.next
 simp only[sR,sA,sB,seval,ext_0,ext_1]
 simp only[ck_nil',ck_cons,ckP_load,ckP_nil,ck_end,and_true,true_and,List.map_cons,List.map_nil,sA,sB,seval,nil_cell,fldA]
 refine⟨?_,?_⟩
 ·and_intros <;> first | rfl | exact⟨_,rfl,fun _=>⟨_,by assumption,aeq_int _ _⟩⟩
 ·exact⟨b,S,tt,J,om,fun c hc=>(hS c hc).elim (fun q=>om) fun q=>om,E13.trans (E4.less E13.next)⟩
end Go.Proofs.Sd
namespace Go.Proofs.Fr
open Go.Abs Go.Abs.S
def add(o w:List Int):List Int:=List.zipWith (·+·) o w
def am(o:List Int):Nat→Nat→Nat→Nat
 | who,_,0=>who
 | who,i,k+1=>am o (if o.getD who 0<o.getD i 0 then i else who) (i+1) k
def amax(o:List Int):Nat:=am o 0 0 o.length
def ow(w:List Int)(s:Int):Nat→List Int
 | 0=>List.replicate w.length 0
 | k+1=>(add (ow w s k) w).set (amax (add (ow w s k) w)) ((add (ow w s k) w).getD (amax (add (ow w s k) w)) 0-s)
def pk(w:List Int)(s:Int)(k:Nat):Nat:=amax (add (ow w s k) w)
def picks(w:List Int)(s:Int)(k:Nat):List Int:=(List.range k).map fun i=>(pk w s i:Int)
def okB(w:List Int):Bool:=decide (1≤w.length)&&decide (w.length≤16)&&w.all (fun x=>decide (1≤x)&&decide (x≤256))&&decide (w.sum≤256)
def frame(w:List Int):List Int:=picks w w.sum w.sum.toNat
theorem am_lt(o:List Int)(n:Nat):∀(k who i:Nat),who<n→i+k≤n→am o who i k<n
 | 0,who,i,h,_=>h
 | k+1,who,i,h,hi=>by
  simp only[am]
  split
  ·exact am_lt o n k i (i+1) om om
  ·exact am_lt o n k who (i+1) h om
theorem add_len(o w:List Int)(h:o.length=w.length):(add o w).length=w.length:=by simp[add,h]
theorem ow_len(w:List Int)(s:Int):∀k,(ow w s k).length=w.length
 | 0=>by simp[ow]
 | k+1=>by simp only[ow,List.length_set]; exact add_len _ _ (ow_len w s k)
theorem pk_lt(w:List Int)(s:Int)(k:Nat)(h:0<w.length):pk w s k<w.length:=by
 have:=add_len (ow w s k) w (ow_len w s k)
 unfold pk amax
 exact am_lt _ _ _ _ _ h om
theorem picks_succ(w:List Int)(s:Int)(k:Nat):picks w s (k+1)=picks w s k++[(pk w s k:Int)]:=by
 simp[picks,List.range_succ]
theorem picks_len(w:List Int)(s:Int)(k:Nat):(picks w s k).length=k:=by simp[picks]
theorem add_get{o w:List Int}{i:Nat}{x y:Int}(h:o[i]?=some x)(k:w[i]?=some y):(add o w)[i]?=some (x+y):=by
 simp[add,List.getElem?_zipWith,h,k]
def Bd(b:Int)(l:List Int):Prop:=∀x∈l,-b≤x∧x≤b
theorem Bd.get{b:Int}{l:List Int}(h:Bd b l){i:Nat}{x:Int}(hx:l[i]?=some x):-b≤x∧x≤b:=h x (List.mem_of_getElem? hx)
theorem bd_add{b:Int}{o w:List Int}(h:Bd b o)(hw:∀x∈w,1≤x∧x≤256):∀x∈add o w,-b≤x∧x≤b+256:=by
 intro x hx
 obtain⟨i,hi⟩:=List.getElem?_of_mem hx
 simp only[add,List.getElem?_zipWith]at hi
 split at hi
 ·rename_i a c ha hc
  simp only[sJ]at hi
  subst hi
  have h1:=h.get ha
  have h2:=hw c (List.mem_of_getElem? hc)
  omega
 ·simp at hi
theorem ow_bd(w:List Int)(s:Int)(hs:0≤s)(hs2:s≤256)(hw:∀x∈w,1≤x∧x≤256):∀k:Nat,Bd (256*k) (ow w s k)
 | 0=>by intro x hx; simp only[ow,List.mem_replicate]at hx; omega
 | k+1=>by
  have ih:=bd_add (ow_bd w s hs hs2 hw k) hw
  intro x hx
  simp only[ow]at hx
  rcases List.mem_or_eq_of_mem_set hx with hx | rfl
  ·have:=ih x hx
   omega
  ·by_cases hl:amax (add (ow w s k) w)<(add (ow w s k) w).length
   ·have hm:=ih _ (List.getElem_mem hl)
    have e:(add (ow w s k) w).getD (amax (add (ow w s k) w)) 0=(add (ow w s k) w)[amax (add (ow w s k) w)]:=by simp[List.getD,hl]
    rw[e]
    omega
   ·have e:(add (ow w s k) w).getD (amax (add (ow w s k) w)) 0=0:=by simp[List.getD,List.getElem?_eq_none (Nat.le_of_not_lt hl)]
    rw[e]
    omega
def part(o w:List Int)(i:Nat):List Int:=(add o w).take i++o.drop i
theorem part_zero(o w:List Int):part o w 0=o:=by simp[part]
theorem part_len{o w:List Int}(h:o.length=w.length)(i:Nat)(hi:i≤w.length):(part o w i).length=w.length:=by
 simp[part,add_len o w h,h]; omega
theorem part_all{o w:List Int}(h:o.length=w.length):part o w w.length=add o w:=by
 have:=add_len o w h
 simp only[part]
 rw[← this,List.take_length,List.drop_eq_nil_of_le om,List.append_nil]
theorem part_get{o w:List Int}(h:o.length=w.length){i:Nat}{x:Int}(hx:o[i]?=some x)(hi:i<w.length):(part o w i)[i]?=some x:=by
 have:=add_len o w h
 simp only[part]
 rw[List.getElem?_append_right (by simp; omega)]
 simp only[List.length_take,List.getElem?_drop]
 rw[show i+(i-min i (add o w).length)=i by omega]
 exact hx
theorem part_set{o w:List Int}(h:o.length=w.length){i:Nat}{x y:Int}(hx:o[i]?=some x)(hy:w[i]?=some y):(part o w i).set i (x+y)=part o w (i+1):=by
 have ha:=add_len o w h
 have hi:i<w.length:=(List.getElem?_eq_some_iff.1 hy).1
 have hp:=part_len h i om
 apply List.ext_getElem?
 intro j
 by_cases e:i=j
 ·subst e
  rw[List.getElem?_set_self om]
  simp only[part]
  rw[List.getElem?_append_left (by simp; omega),List.getElem?_take_of_lt om,add_get hx hy]
 ·rw[List.getElem?_set_ne e]
  simp only[part]
  by_cases lt:j<i
  ·rw[List.getElem?_append_left (by simp; omega),List.getElem?_take_of_lt lt,List.getElem?_append_left (by simp; omega),List.getElem?_take_of_lt om]
  ·rw[List.getElem?_append_right (by simp; omega),List.getElem?_append_right (by simp; omega)]
   simp only[List.length_take,List.getElem?_drop]
   congr 1
   omega
theorem okB_iff(w:List Int):okB w=true↔1≤w.length∧w.length≤16∧(∀x∈w,1≤x∧x≤256)∧w.sum≤256:=by
 simp only[okB,Bool.and_eq_true,decide_eq_true_eq,List.all_eq_true,and_assoc]
theorem take_ok{w:List Int}{i:Nat}{x:Int}(h:∀y∈w.take i,1≤y∧y≤256)(hx:w[i]?=some x)(k:1≤x∧x≤256):∀y∈w.take (i+1),1≤y∧y≤256:=by
 intro y hy
 rw[List.take_add_one,hx]at hy
 simp only[Option.toList_some,List.mem_append,List.mem_singleton]at hy
 rcases hy with hy | rfl
 ·exact h y hy
 ·exact k
theorem sum_take{w:List Int}{i:Nat}{x:Int}(hx:w[i]?=some x):(w.take (i+1)).sum=(w.take i).sum+x:=by
 rw[List.take_add_one,hx]; simp
theorem sum_bd{l:List Int}:(∀y∈l,1≤y∧y≤256)→(l.length:Int)≤l.sum∧l.sum≤256*l.length:=by
 induction l with
 | nil=>intro _; simp
 | cons x l ih=>
  intro h
  have h1:=h x (by simp)
  have h2:=ih fun y hy=>h y (by simp[hy])
  simp only[List.length_cons,List.sum_cons]
  omega
theorem take_len_le(w:List Int)(i:Nat):(w.take i).length≤i:=List.length_take_le _ _
theorem not_ok_of{w:List Int}{i:Nat}{x:Int}(hx:w[i]?=some x)(h:¬(1≤x∧x≤256)):okB w=false:=by
 rw[Bool.eq_false_iff]
 intro e
 exact h (((okB_iff w).1 e).2.2.1 x (List.mem_of_getElem? hx))
open Go.Abs Go.Abs.S
open Go.Proofs.Sd
variable {N:ANat}
def ownerF(l:List Int)(t:Int):Int:=if l.length=0∨t<0 then -1 else l.getD (t.toNat % l.length) 0
theorem getD_of{l:List Int}{i:Nat}{x:Int}(h:l[i]?=some x):l.getD i 0=x:=by simp[List.getD,h]
theorem owner_aux{f:Nat}{c:AFn}(hN:N.is f=false)(hc:cN Tryz.prog f=some c)(e:c=c51){n:Nat}{H:AHeap}{s:AVal}{l:List Int}(h:Cel n H s (ints l))(t:Int) :
  ACalls Tryz.prog N f [s,.int .i64 t] H fun v H'=>v=.int .i64 (ownerF l t)∧H'=H:=by
 subst e
 refine acalls_ofN hN hc rfl ?_
 by_cases h0:l.length=0
 ·simp only[c51,sA,sB,seval,h.len,ints_len,h0,Int.natCast_zero,ownerF,true_or]
  exact⟨by trivial,by trivial⟩
 ·have h0':¬(l.length:Int)=0:=om
  by_cases ht:t<0
  ·simp only[c51,sA,sB,seval,h.len,ints_len,h0',ht,ownerF,or_true]
   exact⟨by trivial,by trivial⟩
  ·obtain⟨k,rfl⟩:=Int.eq_ofNat_of_zero_le (show 0≤t by omega)
   have hk:k % l.length<l.length:=Nat.mod_lt _ om
   obtain⟨x,hx⟩:=isSome_of_lt hk
   have e1:=h.idx .i64 (i:=k % l.length) (by rw[ints_len]; exact hk)
   simp only[c51,sA,sB,seval,h.len,ints_len,h0',h0,ht,bin_remN k l.length om,e1,h.load (ints_get hx),ownerF,or_self,Int.toNat_natCast,getD_of hx]
   exact⟨trivial,by trivial⟩
theorem owner_spec(hN:N.is 51=false){n:Nat}{H:AHeap}{s:AVal}{l:List Int}(h:Cel n H s (ints l))(t:Int) :
  ACalls Tryz.prog N 51 [s,.int .i64 t] H fun v H'=>v=.int .i64 (ownerF l t)∧H'=H:=owner_aux hN za51 rfl h t
open Go.Abs Go.Abs.S
open Go.Proofs.Sd
variable {N:ANat}
theorem getI{l:List Int}{i:Nat}(h:i<l.length):l[i]?=some (l.getD i 0):=by simp[List.getD,h]
theorem most_spec(hN:N.is 56=false){H:AHeap}{b7 bo n:Nat}{r:Room}{o:List Int}(hb:Row H b7 [slR bo n r])(ho:Row H bo (ints o))(hn:o.length=n)(h0:0<n)(hbig:n≤4611686018427387904) :
  ACalls Tryz.prog N 56 [cellR b7 1 0] H fun v H'=>v=.int .i64 (amax o:Int)∧H'=H:=by
 refine acalls_ofN hN za56 rfl ?_
 have e7:=row_load hb rfl (i:=0) rfl
 simp only[List.length_cons,List.length_nil,Nat.zero_add]at e7
 simp only[c56,sA,sB,seval,e7,row_len]
 refine aw_loop (fun q (T:Env) H'=>∃who i:Nat,i≤n∧who<n∧q=n-i∧T 0=cellR b7 1 0∧T 2=.int .i64 (who:Int)∧T 5=slR bo n r∧T 6=.int .i64 (n:Int)∧T 7=.int .i64 (i:Int)∧amax o=am o who i (n-i)∧H'=H) n
  ⟨0,0,Nat.zero_le _,h0,rfl,rfl,rfl,rfl,rfl,rfl,by rw[amax,hn]; rfl,rfl⟩ ?_
 rintro q T H' ⟨who,i,hi,hw,rfl,g0,g2,g5,g6,g7,hA,rfl⟩
 by_cases hlt:i<n
 ·have hlt':(i:Int)<(n:Int):=om
  have l1:=row_load ho (by rw[ints_len,hn]) (ints_get (getI (l:=o) (i:=i) om))
  have l2:=row_load ho (by rw[ints_len,hn]) (ints_get (getI (l:=o) (i:=who) om))
  have hA2:amax o=am o (if o.getD who 0<o.getD i 0 then i else who) (i+1) (n-(i+1)):=by
   rw[hA,show n-i=(n-(i+1))+1 by omega,am]
  by_cases hc:o.getD who 0<o.getD i 0
  ·simp only[sA,sB,seval,g0,g2,g5,g6,g7,hlt',e7,row_idx .i64 hlt,row_idx .i64 hw,l1,l2,hc,wrap1 i om]
   rw[if_pos hc]at hA2
   exact⟨_,om,i,i+1,om,hlt,rfl,by trivial,rfl,by trivial,by trivial,rfl,hA2,by trivial⟩
  ·simp only[sA,sB,seval,g0,g2,g5,g6,g7,hlt',e7,row_idx .i64 hlt,row_idx .i64 hw,l1,l2,hc,wrap1 i om]
   rw[if_neg hc]at hA2
   exact⟨_,om,who,i+1,om,hw,rfl,by trivial,by trivial,by trivial,by trivial,rfl,hA2,by trivial⟩
 ·obtain rfl:i=n:=om
  simp only[sA,sB,seval,g0,g2,g5,g6,g7,Int.lt_irrefl]
  rw[Nat.sub_self]at hA
  exact⟨by rw[hA]; rfl,by trivial⟩
def BuildK(w:List Int)(H:AHeap)(v:AVal)(H':AHeap):Prop:=
 (okB w=true→∃s',v=.tuple [s',.int .i64 0]∧Cel H'.next H' s' (ints (frame w))∧Blk s' (H.next≤·))∧(okB w=false→v=.tuple [nilS,.int .i64 143])∧Ext H.next H H'
theorem buildK_err{w:List Int}{H:AHeap}(h:okB w=false):BuildK w H (.tuple [nilS,.int .i64 143]) H:=
 ⟨fun e=>by rw[h]at e; simp at e,fun _=>rfl,Ext.refl _ _⟩
def Stab(s:AVal)(n bo b7 bf sN:Nat)(T:Env):Prop:=
 T 0=s∧T 4=.int .i64 (sN:Int)∧T 7=cellR b7 1 0∧T 8=.func (.func 56) [] [cellR b7 1 0]∧T 9=slR bf sN (.known sN)∧T 46=slR bf sN (.known sN)∧T 47=.int .i64 (sN:Int)
structure Mem(H0:AHeap)(n bo b7 bf:Nat)(o f:List Int)(H:AHeap):Prop where
 box:Row H b7 [slR bo n (.known n)]
 owed:Row H bo (ints o)
 fr:Row H bf (ints f)
 next:H.next=bf+1
 old:∀c,c<bo→H.get c=H0.get c
theorem Mem.cel{H0 H:AHeap}{n n0 bo b7 bf:Nat}{o f:List Int}{s:AVal}{l:List AVal}(M:Mem H0 n bo b7 bf o f H)(h:Cel n0 H0 s l)(hn0:n0≤bo∧bo=H0.next)(hne:bo<b7∧b7<bf):Cel n0 H s l:=
 h.ext ⟨by rw[M.next]; omega,fun c hc=>M.old c om⟩
set_option maxRecDepth 4000 in
theorem build_spec(hN:N.is 31=false)(hN25:N.is 56=false){n0:Nat}{H:AHeap}{s:AVal}{w:List Int}(h:Cel n0 H s (ints w))(hn0:n0≤H.next)(hbig:w.length≤4611686018427387904) :
  ACalls Tryz.prog N 31 [s] H (BuildK w H):=by
 refine acalls_ofN hN za31 rfl ?_
 by_cases hA:(w.length:Int)<1
 ·simp only[c31,sA,sB,seval,h.len,ints_len,hA]
  exact buildK_err (by rw[Bool.eq_false_iff]; intro e; have:=((okB_iff w).1 e).1; omega)
 by_cases hB:16<(w.length:Int)
 ·simp only[c31,sA,sB,seval,h.len,ints_len,hA,hB]
  exact buildK_err (by rw[Bool.eq_false_iff]; intro e; have:=((okB_iff w).1 e).2.1; omega)
 simp only[c31,sA,sB,seval,h.len,ints_len,hA,hB]
 refine aw_loop (fun q (T:Env) H'=>∃i:Nat,i≤w.length∧q=w.length-i∧T 0=s∧T 4=.int .i64 (w.take i).sum∧T 22=s∧T 23=.int .i64 (w.length:Int)∧T 24=.int .i64 (i:Int)∧(∀y∈w.take i,1≤y∧y≤256)∧H=H') w.length
  ⟨0,Nat.zero_le _,rfl,rfl,rfl,rfl,rfl,rfl,by simp,rfl⟩ ?_
 rintro q T H' ⟨i,hi,rfl,g0,g4,g22,g23,g24,hA',rfl⟩
 by_cases hlt:i<w.length
 ·have hlt':(i:Int)<(w.length:Int):=om
  have hx:=getI hlt
  generalize w.getD i 0=x at hx
  have e1:=h.idx .i64 (i:=i) (by rw[ints_len]; omega)
  have e2:=h.load (ints_get hx)
  have hb:=sum_bd hA'
  have hl:=take_len_le w i
  by_cases c1:x<1
  ·simp only[sA,sB,seval,g0,g4,g22,g23,g24,hlt',e1,e2,c1]
   exact buildK_err (not_ok_of hx om)
  by_cases c2:256<x
  ·simp only[sA,sB,seval,g0,g4,g22,g23,g24,hlt',e1,e2,c1,c2]
   exact buildK_err (not_ok_of hx om)
  have hw:IntKind.i64.wrap ((w.take i).sum+x)=(w.take (i+1)).sum:=by rw[wrap64 om om,sum_take hx]
  simp only[sA,sB,seval,g0,g4,g22,g23,g24,hlt',e1,e2,c1,c2,hw,wrap1 i om]
  exact⟨_,om,i+1,om,rfl,by trivial,by trivial,by trivial,by trivial,rfl,take_ok hA' hx om,by trivial⟩
 obtain rfl:i=w.length:=om
 rw[List.take_length]at hA' g4
 have hb:=sum_bd hA'
 obtain⟨sN,hsN⟩:=Int.eq_ofNat_of_zero_le (show 0≤w.sum by omega)
 rw[hsN]at g4 hb
 by_cases hS:256<(sN:Int)
 ·simp only[sA,sB,seval,g0,g4,g22,g23,g24,Int.lt_irrefl,hS]
  exact buildK_err (by rw[Bool.eq_false_iff]; intro e; have:=((okB_iff w).1 e).2.2.2; omega)
 have hok:okB w=true:=(okB_iff w).2 ⟨om,om,hA',om⟩
 obtain⟨H1,m1,r1,n1,k1⟩:=row_make1 (H:=H) (z:=.int .i64 0) (bytes:=8) (k:=w.length) om om
 obtain⟨H2,m2,r2,n2,k2⟩:=row_new1 H1 (.slice none 0 (.known 0))
 obtain⟨H3,m3,r3,n3,k3⟩:=row_store r2 (n:=1) rfl (i:=0) om (x:=slR H.next w.length (.known w.length)) rfl
 obtain⟨H4,m4,r4,n4,k4⟩:=row_make1 (H:=H3) (z:=.int .i64 0) (bytes:=8) (k:=sN) om om
 simp only[sA,sB,seval,g0,g4,g22,g23,g24,Int.lt_irrefl,hS,h.len,ints_len,m1,m2,m3,m4,row_len]
 have M4:Mem H w.length H.next H1.next H3.next (ow w sN 0) (picks w sN 0++List.replicate (sN-0) 0) H4:=by
  refine⟨?_,?_,?_,n4,?_⟩
  ·exact r3.same (k4 _ om)
  ·have e:ints (ow w sN 0)=List.replicate w.length (.int .i64 0):=by simp[ow,ints]
   rw[e]
   exact r1.same (((k4 _ om).trans (k3 _ om)).trans (k2 _ om))
  ·have e:ints (picks w sN 0++List.replicate (sN-0) 0)=List.replicate sN (.int .i64 0):=by simp[picks,ints]
   rw[e]
   exact r4
  ·intro c hc
   rw[k4 _ om,k3 _ om,k2 _ om,k1 _ om]
 generalize hbo:H.next=bo at *
 generalize hb7:H1.next=b7 at *
 generalize hbf:H3.next=bf at *
 have hne:bo<b7∧b7<bf:=om
 have hn0':n0≤bo∧bo=H.next:=⟨hn0,hbo.symm⟩
 clear m1 m2 m3 m4 r1 r2 r3 r4 k1 k2 k3 k4 n1 n2 n3 n4
 refine aw_loop (fun q (T:Env) H'=>∃k:Nat,k≤sN∧q=sN-k∧Stab s w.length bo b7 bf sN T∧T 48=.int .i64 (k:Int)∧Mem H w.length bo b7 bf (ow w sN k) (picks w sN k++List.replicate (sN-k) 0) H') sN
  ⟨0,Nat.zero_le _,rfl,by simp only[Stab,sA,sB,seval,g0,g4,and_self],by simp only[sA,sB,seval]; try rfl,M4⟩ ?_
 clear M4 g0 g4 g22 g23 g24 T H4 hb7 hbf H3 H2 H1
 rintro q T H' ⟨k,hk,rfl,⟨g0,g4,g7,g8,g9,g46,g47⟩,g48,M⟩
 by_cases hlt:k<sN
 ·have hlt':(k:Int)<(sN:Int):=om
  simp only[sA,sB,seval,g0,g4,g7,g8,g9,g46,g47,g48,hlt',(M.cel h hn0' hne).len,ints_len]
  refine aw_loop (fun q (T:Env) H'=>∃i:Nat,i≤w.length∧q=w.length-i∧Stab s w.length bo b7 bf sN T∧T 48=.int .i64 (k:Int)∧T 10=.int .i64 (k:Int)∧T 51=s∧T 52=.int .i64 (w.length:Int)∧T 53=.int .i64 (i:Int)∧Mem H w.length bo b7 bf (part (ow w sN k) w i) (picks w sN k++List.replicate (sN-k) 0) H') w.length
   ⟨0,Nat.zero_le _,rfl,by simp only[Stab,sA,sB,seval,g0,g4,g7,g8,g9,g46,g47,and_self],by simp only[sA,sB,seval,g48],by simp only[sA,sB,seval,g48],by simp only[sA,sB,seval,g0],by simp only[sA,sB,seval],by simp only[sA,sB,seval]; try rfl,by rw[part_zero]; exact M⟩ ?_
  clear g0 g4 g7 g8 g9 g46 g47 g48 T M H'
  rintro q T H' ⟨i,hi,rfl,⟨g0,g4,g7,g8,g9,g46,g47⟩,g48,g10,g51,g52,g53,M⟩
  have hol:=ow_len w sN k
  by_cases hlt2:i<w.length
  ·have hlt2':(i:Int)<(w.length:Int):=om
   have hy:=getI hlt2
   generalize w.getD i 0=y at hy
   have hx:=getI (l:=ow w sN k) (i:=i) om
   generalize (ow w sN k).getD i 0=x at hx
   have hcl:=M.cel h hn0' hne
   have e1:=hcl.idx .i64 (i:=i) (by rw[ints_len]; omega)
   have e2:=hcl.load (ints_get hy)
   have e3:=row_load M.box (n:=1) rfl (i:=0) rfl
   have hpl:=part_len hol i hi
   have e4:=row_load M.owed (by rw[ints_len,hpl]) (ints_get (part_get hol hx hlt2))
   have bx:=(ow_bd w sN om om hA' k).get hx
   have by':=hA' y (List.mem_of_getElem? hy)
   have hw:IntKind.i64.wrap (x+y)=x+y:=wrap64 om om
   obtain⟨H2,m2,r2,n2,k2⟩:=row_store M.owed (n:=w.length) (by rw[ints_len,hpl]) hlt2 (x:=.int .i64 (x+y)) rfl
   simp only[sA,sB,seval,g0,g4,g7,g8,g9,g10,g46,g47,g48,g51,g52,g53,hlt2',e1,e2,e3,row_idx .i64 hlt2,e4,hw,m2,wrap1 i om]
   refine⟨_,om,i+1,om,rfl,by simp only[Stab,sA,sB,seval,g0,g4,g7,g8,g9,g46,g47,and_self],by trivial,by trivial,by trivial,by trivial,rfl,?_⟩
   rw[← ints_set,part_set hol hx hy]at r2
   exact⟨M.box.same (k2 _ om),r2,M.fr.same (k2 _ om),n2.trans M.next,fun c hc=>(k2 _ om).trans (M.old c hc)⟩
  ·obtain rfl:i=w.length:=om
   simp only[sA,sB,seval,g0,g4,g7,g8,g9,g10,g46,g47,g48,g51,g52,g53,Int.lt_irrefl]
   rw[part_all hol]at M
   have hal:=add_len _ _ hol
   refine (most_spec hN25 M.box M.owed hal om hbig).mono ?_
   rintro v _ ⟨rfl,rfl⟩
   have hwl:=pk_lt w sN k om
   have hpk:amax (add (ow w sN k) w)=pk w sN k:=rfl
   rw[hpk]
   have e3:=row_load M.box (n:=1) rfl (i:=0) rfl
   obtain⟨H2,m2,r2,n2,k2⟩:=row_store M.fr (n:=sN) (by simp[ints_len,picks_len]; omega) hlt (x:=.int .i64 (pk w sN k:Int)) rfl
   have bx2:=row_load (M.box.same (k2 _ om)) (n:=1) rfl (i:=0) rfl
   have hz:=getI (l:=add (ow w sN k) w) (i:=pk w sN k) om
   have ro:=M.owed.same (k2 bo om)
   have e4:=row_load ro (n:=w.length) (by rw[ints_len,hal]) (ints_get hz)
   have bz:=bd_add (ow_bd w sN om om hA' k) hA' _ (List.mem_of_getElem? hz)
   have hw:IntKind.i64.wrap ((add (ow w sN k) w).getD (pk w sN k) 0-sN)=(add (ow w sN k) w).getD (pk w sN k) 0-sN:=wrap64 om om
   obtain⟨H3,m3,r3,n3,k3⟩:=row_store ro (n:=w.length) (by rw[ints_len,hal]) hwl (x:=.int .i64 ((add (ow w sN k) w).getD (pk w sN k) 0-sN)) rfl
   simp only[sA,sB,seval,g0,g4,g7,g8,g9,g10,g46,g47,g48,g51,g52,g53,row_idx .i64 hlt,m2,bx2,row_idx .i64 hwl,e4,hw,m3,wrap1 k om]
   refine⟨_,om,k+1,om,rfl,by simp only[Stab,sA,sB,seval,g0,g4,g7,g8,g9,g46,g47,and_self],rfl,?_⟩
   refine⟨(M.box.same (k2 _ om)).same (k3 _ om),?_,?_,by rw[n3,n2]; exact M.next,fun c hc=>((k3 _ om).trans (k2 _ om)).trans (M.old c hc)⟩
   ·rw[← ints_set]at r3
    exact r3
   ·rw[← ints_set]at r2
    have e:(picks w sN k++List.replicate (sN-k) 0).set k (pk w sN k:Int)=picks w sN (k+1)++List.replicate (sN-(k+1)) 0:=by
     rw[picks_succ,List.set_append_right _ _ (by rw[picks_len]; omega),picks_len,Nat.sub_self,show sN-k=(sN-(k+1))+1 by omega,List.replicate_succ,List.set_cons_zero]
     simp
    rw[e]at r2
    exact r2.same (k3 _ om)
 ·obtain rfl:k=sN:=om
  simp only[sA,sB,seval,g0,g4,g7,g8,g9,g46,g47,g48,Int.lt_irrefl]
  refine⟨fun _=>⟨_,rfl,?_,blk_some (show H.next≤bf by omega)⟩,fun e=>by rw[hok]at e; simp at e,⟨by rw[M.next]; omega,fun c hc=>M.old c om⟩⟩
  have hf:frame w=picks w k k:=by rw[frame,hsN]; rfl
  rw[hf]
  have hfr:=M.fr
  rw[Nat.sub_self,List.replicate_zero,List.append_nil]at hfr
  exact hfr.cel (by rw[ints_len,picks_len]) (by rw[M.next]; omega)
end Go.Proofs.Fr
namespace Go.Proofs.Sd
open Go.Abs Go.Abs.S
open Go.Proofs.Fr (owner_spec ownerF)
def sL(b:Nat)(fv:AVal)(units slots ticks:Nat)(sv:AVal):List AVal:=[cellR b 6 0,fv,.int .i64 (units:Int),.int .i64 (slots:Int),.int .i64 (ticks:Int),sv]
section
variable {H:AHeap} {b units slots ticks:Nat} {fv sv:AVal}
theorem smade_spec(r:Row H b (sL b fv units slots ticks sv)):ACalls Tryz.prog noNat 33 [cellR b 6 0] H fun v H'=>v=.bool true∧H=H':=by
 have l0:oLoad false 1 H (cellR b 6 0)=some (cellR b 6 0):=row_load r rfl rfl
 have e1:aPf (.eqv true .ptr) [cellR b 6 0,.ptr none]=some (.bool true):=rfl
 have e2:aPf (.eqv false .ptr) [cellR b 6 0,cellR b 6 0]=some (.bool true):=by rw[eq_ptr]; simp
 refine acalls_ofN rfl za33 rfl ?_
 simp only[c33,sA,sB,seval,e1,nil_cell,fld0,l0,e2]
 exact⟨tt,tt⟩
theorem ticks_spec(r:Row H b (sL b fv units slots ticks sv)):ACalls Tryz.prog noNat 19 [cellR b 6 0] H fun v H'=>v=.int .i64 (ticks:Int)∧H=H':=by
 have l4:oLoad false 1 H (cellR b 6 4)=some (.int .i64 (ticks:Int)):=row_load r rfl rfl
 refine acalls_ofN rfl za19 rfl ?_
 simp only[c19,sA,sB,seval]
 refine (smade_spec r).mono ?_
 rintro _ _ ⟨rfl,rfl⟩
 simp only[sA,sB,seval,nil_cell,fldA,l4]
 exact⟨tt,tt⟩
theorem sowner_spec(r:Row H b (sL b fv units slots ticks sv)){n:Nat}{f:List Int}(C:Cel n H fv (ints f)):ACalls Tryz.prog noNat 20 [cellR b 6 0] H fun v H'=>v=.int .i64 (ownerF f ticks)∧H=H':=by
 have l1:oLoad false 1 H (cellR b 6 1)=some fv:=row_load r rfl rfl
 have l4:oLoad false 1 H (cellR b 6 4)=some (.int .i64 (ticks:Int)):=row_load r rfl rfl
 refine acalls_ofN rfl za20 rfl ?_
 simp only[c20,sA,sB,seval]
 refine (smade_spec r).mono ?_
 rintro _ _ ⟨rfl,rfl⟩
 simp only[sA,sB,seval,nil_cell,fldA,l1,l4]
 refine (owner_spec rfl C (ticks:Int)).mono ?_
 rintro _ _ ⟨rfl,rfl⟩
 simp only[sA,sB,seval]
 exact⟨tt,tt⟩
theorem seat_spec(r:Row H b (sL b fv units slots ticks sv)){bs n:Nat}{ro:Room}(hs:sv=.slice (some ⟨bs,3*n,0⟩) n ro){who:Int}:ACalls Tryz.prog noNat 35 [cellR b 6 0,.int .i64 who] H fun v H'=>v=(if 0≤who∧who<n then cellR bs (3*n) (who.toNat*3) else .ptr none)∧H=H':=by
 have l5:oLoad false 1 H (cellR b 6 5)=some sv:=row_load r rfl rfl
 have ln:aLenK false sv=some (.int .i64 (n:Int)):=by rw[hs]; rfl
 refine acalls_ofN rfl za35 rfl ?_
 simp only[c35,sA,sB,seval]
 refine (smade_spec r).mono ?_
 rintro _ _ ⟨rfl,rfl⟩
 by_cases c1:who<0
 ·rw[if_neg om]
  simp only[sA,sB,seval,c1]
  exact⟨tt,tt⟩
 ·by_cases c2:(n:Int)≤who
  ·rw[if_neg om]
   simp only[sA,sB,seval,c1,nil_cell,fldA,l5,ln,c2]
   exact⟨tt,tt⟩
  ·rw[if_pos om]
   have ix:aIdxA 3 sv (.int .i64 who)=some (cellR bs (3*n) (who.toNat*3)):=by
    obtain⟨k,rfl⟩:=Int.eq_ofNat_of_zero_le (show 0≤who by omega)
    rw[hs]
    have hb:Nat.blt k n=true:=Nat.ble_eq_true_of_le om
    show (bif Nat.blt k n then some (AVal.ptr (some ⟨bs,3*n,0+k*3⟩)) else none)=_
    rw[hb,cond_true,Nat.zero_add]
    rfl
   simp only[sA,sB,seval,c1,nil_cell,fldA,l5,ln,c2,ix]
   exact⟨tt,tt⟩
end
open Go.Abs Go.Abs.S
def entL(id:Int)(jp:AVal):List AVal:=[.int .i64 id,jp]
theorem num1_spec{H:AHeap}{c:Nat}{i id:Int}{jp:AVal}(r:Row H c [.int .i64 i])(hc:c<H.next):ACalls Tryz.prog noNat 75 [.agg (entL id jp),cellR c 1 0] H fun v H'=>v=.bool (decide (id=i))∧Ext H.next H H':=by
 obtain⟨H1,m1,r1,n1,k1⟩:=row_newL H (entL id jp) (n:=2) rfl
 have E1:Ext H.next H H1:=⟨om,fun c hc=>k1 c om⟩
 have l0:oLoad false 1 H1 (cellR H.next 2 0)=some (.int .i64 id):=row_load r1 rfl rfl
 have lc:oLoad false 1 H1 (cellR c 1 0)=some (.int .i64 i):=row_load (r.same (E1.old c hc)) rfl rfl
 refine acalls_ofN rfl za75 rfl ?_
 by_cases e:id=i
 ·subst e
  simp only[c75,sA,sB,seval,cells_agg,m1,fldA,fld0,l0,lc]
  exact⟨by simp,E1⟩
 ·simp only[c75,sA,sB,seval,cells_agg,m1,fldA,fld0,l0,lc,e]
  exact⟨by simp[e],E1⟩
def goesS(w h:Nat)(s:Sta):Bool:=!(s.1.done (w*h))&&decide (s.2.2.length<2048)
theorem goes_spec{S:Nat→Prop}{H:AHeap}{b w h:Nat}{s:Sta}{id:Int}(J:JobS S H b w h s)(hw:1≤w∧w≤6)(hh:1≤h∧h≤6)(hb:b<H.next):ACalls Tryz.prog noNat 44 [.agg (entL id (cellR b 14 0))] H fun v H'=>v=.bool (goesS w h s)∧Ext H.next H H':=by
 obtain⟨τ,m,lo,e,z,wb,x2,x3,ov,hv,J⟩:=J
 obtain⟨H1,m1,r1,n1,k1⟩:=row_newL H (entL id (cellR b 14 0)) (n:=2) rfl
 have E1:Ext H.next H H1:=⟨om,fun c hc=>k1 c om⟩
 have l1:oLoad false 1 H1 (cellR H.next 2 1)=some (cellR b 14 0):=row_load r1 rfl rfl
 have R1:=J.r.same (E1.old b hb)
 obtain⟨q1,q2⟩:=J.len hw hh
 refine acalls_ofN rfl za44 rfl ?_
 simp only[c44,sA,sB,seval,cells_agg,m1,fldA,l1]
 refine (jdone_spec R1 q1).mono ?_
 rintro _ _ ⟨rfl,rfl⟩
 unfold goesS
 cases hd:s.1.done (w*h) with
 | true=>
  simp only[sA,sB,seval]
  exact⟨by simp,E1⟩
 | false=>
  simp only[sA,sB,seval,fldA,l1]
  refine (jheld_spec R1 q2).mono ?_
  rintro _ _ ⟨rfl,rfl⟩
  by_cases c:s.2.2.length<2048
  ·have c':(s.2.2.length:Int)<2048:=om
   simp only[sA,sB,seval,c']
   exact⟨by simp[c],E1⟩
  ·have c':¬(s.2.2.length:Int)<2048:=om
   simp only[sA,sB,seval,c']
   exact⟨by simp[c],E1⟩
open Go.Abs Go.Abs.S
theorem next_spec{S:Nat→Prop}{H:AHeap}{b w h ct cg bs lim o:Nat}{s:Sta}{id served:Int}(J:JobS S H b w h s)(hw:1≤w∧w≤6)(hh:1≤h∧h≤6)(hb:b<H.next)(rt:Row H ct [cellR bs lim o])(rg:Row H cg [.func (.func 44) [] []])(ht:ct<H.next)(hg:cg<H.next)
  (ls:∀K,Ext H.next H K→oLoad false 1 K (cellR bs lim (o+2))=some (.int .i64 served)) (hS:∀c,S c→c<H.next) :
  ACalls Tryz.prog noNat 47 [.agg (entL id (cellR b 14 0)),cellR ct 1 0,cellR cg 1 0] H fun v H'=>v=.bool (decide (served<id)&&goesS w h s)∧Ext H.next H H':=by
 obtain⟨H1,m1,r1,n1,k1⟩:=row_newL H (entL id (cellR b 14 0)) (n:=2) rfl
 have E1:Ext H.next H H1:=⟨om,fun c hc=>k1 c om⟩
 have l0:oLoad false 1 H1 (cellR H.next 2 0)=some (.int .i64 id):=row_load r1 rfl rfl
 have l2:oLoad true 2 H1 (cellR H.next 2 0)=some (.agg (entL id (cellR b 14 0))):=row_loadN r1 rfl
 have lt:oLoad false 1 H1 (cellR ct 1 0)=some (cellR bs lim o):=row_load (rt.same (E1.old ct ht)) rfl rfl
 have lg:oLoad false 1 H1 (cellR cg 1 0)=some (.func (.func 44) [] []):=row_load (rg.same (E1.old cg hg)) rfl rfl
 have lv:=ls H1 E1
 refine acalls_ofN rfl za47 rfl ?_
 by_cases c:served<id
 ·simp only[c47,sA,sB,seval,cells_agg,m1,fldA,fld0,l0,lt,nil_cell,lv,c,lg,l2]
  obtain⟨τ,m,lo,e,z,wb,x2,x3,ov,hv,JJ⟩:=J
  have J1:JobS S H1 b w h s:=⟨τ,m,lo,e,z,wb,x2,x3,ov,hv,JJ.fr om (fun c hc _=>E1.old c (hS c hc)) (JJ.r.same (E1.old b hb)) rfl⟩
  refine (goes_spec (id:=id) J1 hw hh om).mono ?_
  rintro _ H2 ⟨rfl,E2⟩
  simp only[sA,sB,seval]
  exact⟨by simp[c],E1.trans (E2.less E1.next)⟩
 ·simp only[c47,sA,sB,seval,cells_agg,m1,fldA,fld0,l0,lt,nil_cell,lv,c]
  exact⟨by simp[c],E1⟩
open Go.Abs Go.Abs.S
open Go.Proofs.Tc (SlK)
def entC(l:List (Int×AVal)):List AVal:=l.flatMap fun x=>entL x.1 x.2
def firstF(p:Nat→Bool)(n:Nat):Nat→Nat→Int
 | 0,_=>-1
 | k+1,i=>if p i then (i:Int) else firstF p n k (i+1)
theorem index_spec{n0:Nat}{H:AHeap}{v f:AVal}{l:List (Int×AVal)}{p:Nat→Bool}(A:SlK (·<n0) H 2 v l.length (entC l))(hn:n0≤H.next)(hl:l.length≤1000)
  (hf:∀(K:AHeap) (i:Nat) (x:Int×AVal) (Q:AVal→AHeap→Prop),Ext H.next H K→l[i]?=some x→(∀K',Ext K.next K K'→Q (.bool (p i)) K')→callvP (ACalls Tryz.prog noNat) f [.agg (entL x.1 x.2)] K Q) :
  ACalls Tryz.prog noNat 76 [v,f] H fun r H'=>r=.int .i64 (firstF p l.length l.length 0)∧Ext H.next H H':=by
 have ln:=A.len
 refine acalls_ofN rfl za76 rfl ?_
 simp only[c76,sA,sB,seval,ln]
 refine aw_loop (fun mu (T:Env) K=>∃i:Nat,mu=l.length-i∧i≤l.length∧firstF p l.length l.length 0=firstF p l.length (l.length-i) i∧Ext H.next H K∧T 0=v∧T 1=f∧T 7=.int .i64 (l.length:Int)∧T 8=.int .i64 (i:Int)) l.length ⟨0,om,om,rfl,.refl _ _,tt,tt,tt,tt⟩ ?_
 rintro mu T K ⟨i,rfl,hi,eq,E,t0,t1,t7,t8⟩
 by_cases c:i<l.length
 ·have c':(i:Int)<(l.length:Int):=om
  obtain⟨x,hx⟩:∃x,l[i]?=some x:=⟨_,List.getElem?_eq_getElem c⟩
  have AK:=A.mono (Q:=(·<n0)) (H':=K) fun b hb=>⟨hb,E.old b om⟩
  have ix:=AK.idx c
  have lx:oLoad true 2 K (Go.Proofs.Tc.placeK 2 v i)=some (.agg (entL x.1 x.2)):=AK.loadE (f:=fun x=>entL x.1 x.2) (fun _=>rfl) hx
  have w1:IntKind.i64.wrap ((i:Int)+1)=((i+1:Nat):Int):=w64
  obtain⟨k,hk⟩:∃k,l.length-i=k+1:=⟨l.length-i-1,om⟩
  simp only[sA,sB,seval,t0,t1,t7,t8,c',ix,lx]
  refine hf K i x _ E hx fun K' E'=>?_
  have e':=E'.next
  rw[hk]at eq
  cases hp:p i with
  | true=>
   simp only[firstF,hp,if_true]at eq
   simp only[sA,sB,seval,t8]
   exact⟨by rw[eq],E.trans (E'.less E.next)⟩
  | false=>
   simp only[firstF,hp,Bool.false_eq_true,if_false]at eq
   simp only[sA,sB,seval,t0,t1,t7,t8,w1]
   exact⟨l.length-(i+1),om,i+1,rfl,om,by rw[eq,show l.length-(i+1)=k by omega],E.trans (E'.less E.next),tt,tt,tt,tt⟩
 ·have c':¬(i:Int)<(l.length:Int):=om
  rw[show l.length-i=0 by omega]at eq
  simp only[sA,sB,seval,t7,t8,c']
  exact⟨by rw[eq]; rfl,E⟩
open Go.Abs Go.Abs.S
open Go.Proofs.Tc (SlK)
theorem find_spec{n0:Nat}{H:AHeap}{bs lim o:Nat}{v f:AVal}{l:List (Int×AVal)}{p:Nat→Bool}(ls:oLoad false 1 H (cellR bs lim o)=some v)(A:SlK (·<n0) H 2 v l.length (entC l))(hn:n0≤H.next)(hl:l.length≤1000)
  (hf:∀(K:AHeap) (i:Nat) (x:Int×AVal) (Q:AVal→AHeap→Prop),Ext H.next H K→l[i]?=some x→(∀K',Ext K.next K K'→Q (.bool (p i)) K')→callvP (ACalls Tryz.prog noNat) f [.agg (entL x.1 x.2)] K Q) :
  ACalls Tryz.prog noNat 46 [cellR bs lim o,f] H fun r H'=>r=.int .i64 (firstF p l.length l.length 0)∧Ext H.next H H':=by
 refine acalls_ofN rfl za46 rfl ?_
 simp only[c46,sA,sB,seval,eq_ptr_nil,nil_cell,fld0,fldA,Nat.add_zero,ls]
 refine (index_spec A hn hl hf).mono ?_
 rintro _ H' ⟨rfl,E⟩
 simp only[sA,sB,seval]
 exact⟨tt,E⟩
theorem numbered_spec{n0:Nat}{H:AHeap}{bs lim o:Nat}{v:AVal}{l:List (Int×AVal)}{id:Int}(ls:∀K,Ext H.next H K→oLoad false 1 K (cellR bs lim o)=some v)(A:SlK (·<n0) H 2 v l.length (entC l))(hn:n0≤H.next)(hl:l.length≤1000) :
  ACalls Tryz.prog noNat 41 [cellR bs lim o,.int .i64 id] H fun r H'=>r=.int .i64 (firstF (fun i=>match l[i]? with | some x=>decide (x.1=id) | none=>false) l.length l.length 0)∧Ext H.next H H':=by
 obtain⟨H1,m1,r1,n1,k1⟩:=row_newL H [.int .i64 id] (n:=1) rfl
 have E1:Ext H.next H H1:=⟨om,fun c hc=>k1 c om⟩
 refine acalls_ofN rfl za41 rfl ?_
 have ci:(AVal.int .i64 id).cells=[.int .i64 id]:=rfl
 simp only[c41,sA,sB,seval,ci,m1]
 refine (find_spec (ls H1 E1) (A.mono (Q:=(·<n0)) fun b hb=>⟨hb,E1.old b om⟩) om hl (p:=fun i=>match l[i]? with | some x=>decide (x.1=id) | none=>false) fun K i x Q E hx hQ=>?_).mono ?_
 ·rw[callvP_func _ _ _ _ _ om]
  have rK:=r1.same (H':=K) (E.old _ om)
  refine (num1_spec (id:=x.1) (jp:=x.2) rK (by have:=E.next; omega)).mono ?_
  rintro _ K' ⟨rfl,E'⟩
  simp only[hx]at hQ
  exact hQ K' E'
 ·rintro _ H' ⟨rfl,E⟩
  simp only[sA,sB,seval]
  exact⟨tt,E1.trans (E.less E1.next)⟩
open Go.Abs Go.Abs.S
section
variable {α:Type}
def Star(P:α→(Nat→Prop)→AHeap→Prop):List α→(Nat→Prop)→AHeap→Prop
 | [],_,_=>True
 | x::l,S,H=>∃S1,(∀c,S1 c→S c)∧P x S1 H∧Star P l (fun c=>S c∧¬S1 c) H
def Stay(P:α→(Nat→Prop)→AHeap→Prop):Prop:=∀x S H H',P x S H→H.next≤H'.next→(∀c,S c→H'.get c=H.get c)→P x S H'
variable {P:α→(Nat→Prop)→AHeap→Prop} {S S':Nat→Prop} {H H':AHeap} {l:List α} {x:α}
theorem Star.mono(h:Star P l S H)(q:∀c,S c→S' c):Star P l S' H:=by
 induction l generalizing S S' with
 | nil=>trivial
 | cons x l ih=>
  obtain⟨S1,h1,h2,h3⟩:=h
  exact⟨S1,fun c hc=>q c (h1 c hc),h2,ih h3 fun c hc=>⟨q c hc.1,hc.2⟩⟩
theorem Star.same(st:Stay P)(h:Star P l S H)(hn:H.next≤H'.next)(e:∀c,S c→H'.get c=H.get c):Star P l S H':=by
 induction l generalizing S with
 | nil=>trivial
 | cons x l ih=>
  obtain⟨S1,h1,h2,h3⟩:=h
  exact⟨S1,h1,st _ _ _ _ h2 hn fun c hc=>e c (h1 c hc),ih h3 fun c hc=>e c hc.1⟩
theorem Star.all(h:Star P l S H):∀x∈l,∃S1,(∀c,S1 c→S c)∧P x S1 H:=by
 induction l generalizing S with
 | nil=>simp
 | cons y l ih=>
  obtain⟨S1,h1,h2,h3⟩:=h
  intro x hx
  rcases List.mem_cons.1 hx with rfl | hx
  ·exact⟨S1,h1,h2⟩
  ·obtain⟨S2,a,b⟩:=ih h3 x hx
   exact⟨S2,fun c hc=>(a c hc).1,b⟩
def FrS(S S1 N:Nat→Prop)(H:AHeap)(S1':Nat→Prop)(H':AHeap):Prop:=H.next≤H'.next∧(∀c,S1' c→S1 c∨N c)∧(∀c,N c→¬S c)∧∀c,S c→¬S1 c→H'.get c=H.get c
theorem Star.at(st:Stay P)(h:Star P l S H){i:Nat}(hi:l[i]?=some x) :
  ∃S1,(∀c,S1 c→S c)∧P x S1 H∧∀H' N S1' x',FrS S S1 N H S1' H'→P x' S1' H'→Star P (l.set i x') (fun c=>S c∨N c) H':=by
 induction l generalizing S i with
 | nil=>simp at hi
 | cons y l ih=>
  obtain⟨S0,h1,h2,h3⟩:=h
  cases i with
  | zero=>
   simp only[List.getElem?_cons_zero,sJ]at hi
   subst hi
   refine⟨S0,h1,h2,fun H' N S1' x' F hp=>?_⟩
   obtain⟨f1,f2,f3,f4⟩:=F
   refine⟨S1',fun c hc=>(f2 c hc).imp (h1 c) fun k=>k,hp,?_⟩
   exact (h3.same st f1 fun c hc=>f4 c hc.1 hc.2).mono fun c hc=>⟨.inl hc.1,fun q=>(f2 c q).elim hc.2 fun z=>f3 c z hc.1⟩
  | succ i=>
   simp only[List.getElem?_cons_succ]at hi
   obtain⟨S1,a,b,k⟩:=ih h3 hi
   refine⟨S1,fun c hc=>(a c hc).1,b,fun H' N S1' x' F hp=>?_⟩
   obtain⟨f1,f2,f3,f4⟩:=F
   have K:=k H' N S1' x' ⟨f1,f2,fun c hc q=>f3 c hc q.1,fun c hc=>f4 c hc.1⟩ hp
   refine⟨S0,fun c hc=>.inl (h1 c hc),st _ _ _ _ h2 f1 fun c hc=>f4 c (h1 c hc) fun q=>(a c q).2 hc,?_⟩
   exact K.mono fun c hc=>hc.elim (fun q=>⟨.inl q.1,q.2⟩) fun q=>⟨.inr q,fun z=>f3 c q (h1 c z)⟩
theorem Star.snoc(h:Star P l S H){S1:Nat→Prop}(hp:P x S1 H)(hd:∀c,S1 c→¬S c):Star P (l++[x]) (fun c=>S c∨S1 c) H:=by
 induction l generalizing S with
 | nil=>exact⟨S1,fun c hc=>.inr hc,hp,trivial⟩
 | cons y l ih=>
  obtain⟨S0,h1,h2,h3⟩:=h
  refine⟨S0,fun c hc=>.inl (h1 c hc),h2,(ih h3 fun c hc q=>hd c hc q.1).mono fun c hc=>hc.elim (fun q=>⟨.inl q.1,q.2⟩) fun q=>⟨.inr q,fun z=>hd c q (h1 c z)⟩⟩
theorem Star.erase(h:Star P l S H)(i:Nat):Star P (l.eraseIdx i) S H:=by
 induction l generalizing S i with
 | nil=>trivial
 | cons y l ih=>
  obtain⟨S0,h1,h2,h3⟩:=h
  cases i with
  | zero=>exact h3.mono fun c hc=>hc.1
  | succ i=>exact⟨S0,h1,h2,ih h3 i⟩
end
theorem fm_get{α β:Type}{f:α→List β}{m:Nat}(hf:∀x,(f x).length=m):∀{l:List α} {i k:Nat} {x:α},l[i]?=some x→k<m→(l.flatMap f)[i*m+k]?=(f x)[k]?
 | [],_,_,_,h,_=>by simp at h
 | y::l,0,k,x,h,hk=>by
  simp only[List.getElem?_cons_zero,sJ]at h
  subst h
  rw[List.flatMap_cons,Nat.zero_mul,Nat.zero_add,List.getElem?_append_left (by rw[hf]; exact hk)]
 | y::l,i+1,k,x,h,hk=>by
  simp only[List.getElem?_cons_succ]at h
  rw[List.flatMap_cons,List.getElem?_append_right (by rw[hf,Nat.add_mul]; omega),hf,show (i+1)*m+k-m=i*m+k by rw[Nat.add_mul]; omega]
  exact fm_get hf h hk
theorem fm_set{α β:Type}{f:α→List β}{m:Nat}(hf:∀x,(f x).length=m):∀{l:List α} {i k:Nat} {x x':α} {y:β},l[i]?=some x→k<m→f x'=(f x).set k y→(l.flatMap f).set (i*m+k) y=(l.set i x').flatMap f
 | [],_,_,_,_,_,h,_,_=>by simp at h
 | z::l,0,k,x,x',y,h,hk,e=>by
  simp only[List.getElem?_cons_zero,sJ]at h
  subst h
  rw[List.flatMap_cons,Nat.zero_mul,Nat.zero_add,List.set_append_left _ _ (by rw[hf]; exact hk),List.set_cons_zero,List.flatMap_cons,e]
 | z::l,i+1,k,x,x',y,h,hk,e=>by
  simp only[List.getElem?_cons_succ]at h
  rw[List.flatMap_cons,List.set_append_right _ _ (by rw[hf,Nat.add_mul]; omega),hf,show (i+1)*m+k-m=i*m+k by rw[Nat.add_mul]; omega,fm_set hf h hk e,List.set_cons_succ,List.flatMap_cons]
theorem fm_len{α β:Type}{f:α→List β}{m:Nat}(hf:∀x,(f x).length=m):∀(l:List α),(l.flatMap f).length=m*l.length
 | []=>by simp
 | y::l=>by rw[List.flatMap_cons,lA,hf,fm_len hf l,List.length_cons,Nat.mul_add]; omega
open Go.Abs Go.Abs.S
open Go.Proofs.Tb (cel_blk cel_same)
structure JobV where
 id:Nat
 b:Nat
 w:Nat
 h:Nat
 s:Sta
structure Fit(w h:Nat)(s:Sta):Prop where
 hw:1≤w∧w≤6
 hh:1≤h∧h≤6
 g:Good w h s
 k:Hb w h s
 t:s.1.work+remS w h s≤200
def JobP(x:JobV)(S:Nat→Prop)(H:AHeap):Prop:=JobS S H x.b x.w x.h x.s∧Fit x.w x.h x.s
structure SeatV where
 v:AVal
 given:Nat
 served:Nat
 l:List JobV
def SeatV.cells(x:SeatV):List AVal:=[x.v,.int .i64 (x.given:Int),.int .i64 (x.served:Int)]
def JobV.ent(j:JobV):Int×AVal:=((j.id:Int),cellR j.b 14 0)
def SeatP(x:SeatV)(S:Nat→Prop)(H:AHeap):Prop:=LinM 2 H x.v (entC (x.l.map JobV.ent)) x.l.length∧Blk x.v S∧Star JobP x.l (fun c=>S c∧Blk x.v (c≠·)) H
theorem JobS.same{S:Nat→Prop}{H H':AHeap}{b w h:Nat}{s:Sta}(J:JobS S H b w h s)(hn:H.next≤H'.next)(e:∀c,S c→H'.get c=H.get c):JobS S H' b w h s:=by
 obtain⟨τ,m,lo,z,e',wb,x2,x3,ov,hv,J⟩:=J
 exact⟨τ,m,lo,z,e',wb,x2,x3,ov,hv,J.fr hn (fun c hc _=>e c hc) (J.r.same (e _ J.sb)) rfl⟩
theorem JobS.lt{S:Nat→Prop}{H:AHeap}{b w h:Nat}{s:Sta}(J:JobS S H b w h s):S b∧∀c,S c→c<H.next:=by
 obtain⟨τ,m,lo,z,e',wb,x2,x3,ov,hv,J⟩:=J
 exact⟨J.sb,J.sn⟩
theorem job_stay:Stay JobP:=fun _ _ _ _ h hn e=>⟨h.1.same hn e,h.2⟩
theorem seat_stay:Stay SeatP:=fun _ _ _ _ h hn e=>⟨h.1.same hn (h.2.1.mono fun c hc=>e c hc),h.2.1,h.2.2.same job_stay hn fun c hc=>e c hc.1⟩
theorem seat_len(x:SeatV):x.cells.length=3:=rfl
theorem set_self{α:Type}:∀{l:List α} {i:Nat} {x:α},l[i]?=some x→l.set i x=l
 | [],_,_,h=>by simp at h
 | y::l,0,x,h=>by simp only[List.getElem?_cons_zero,sJ]at h; subst h; rfl
 | y::l,i+1,x,h=>by simp only[List.getElem?_cons_succ]at h; rw[List.set_cons_succ,set_self h]
structure SchI(S:Nat→Prop)(H:AHeap)(b:Nat)(fv:AVal)(fr:List Int)(units slots ticks bs:Nat)(l:List SeatV):Prop where
 r:Row H b (sL b fv units slots ticks (.slice (some ⟨bs,3*l.length,0⟩) l.length (.known l.length)))
 f:Cel H.next H fv (ints fr)
 rs:Row H bs (l.flatMap SeatV.cells)
 st:Star SeatP l (fun c=>S c∧c≠b∧c≠bs∧Blk fv (c≠·)) H
 sb:S b
 ss:S bs
 sf:Blk fv fun c=>S c∧c≠b∧c≠bs
 ne:b≠bs
 sn:∀c,S c→c<H.next
section
variable {S:Nat→Prop} {H:AHeap} {b:Nat} {fv:AVal} {fr:List Int} {units slots ticks bs:Nat} {l:List SeatV}
theorem SchI.same(I:SchI S H b fv fr units slots ticks bs l){H':AHeap}(hn:H.next≤H'.next)(e:∀c,S c→H'.get c=H.get c):SchI S H' b fv fr units slots ticks bs l:=
 ⟨I.r.same (e _ I.sb),cel_same I.f hn (I.sf.mono fun c hc=>e c hc.1),I.rs.same (e _ I.ss),I.st.same seat_stay hn fun c hc=>e c hc.1,I.sb,I.ss,I.sf,I.ne,fun c hc=>Nat.lt_of_lt_of_le (I.sn c hc) hn⟩
theorem SchI.ext(I:SchI S H b fv fr units slots ticks bs l){H':AHeap}(E:Ext H.next H H'):SchI S H' b fv fr units slots ticks bs l:=I.same E.next fun c hc=>E.old c (I.sn c hc)
theorem SchI.seat(I:SchI S H b fv fr units slots ticks bs l){k:Nat}{x:SeatV}(hk:l[k]?=some x) :
  ∃S0,(∀c,S0 c→S c∧c≠b∧c≠bs∧Blk fv (c≠·))∧SeatP x S0 H∧∀(H':AHeap) (N S0':Nat→Prop) (x':SeatV),H.next≤H'.next→(∀c,S0' c→S0 c∨N c)→(∀c,N c→¬S c∧c<H'.next)→(∀c,c<H.next→S c→¬S0 c→c≠bs→H'.get c=H.get c)→Row H' bs ((l.set k x').flatMap SeatV.cells)→SeatP x' S0' H' →
   SchI (fun c=>S c∨N c) H' b fv fr units slots ticks bs (l.set k x'):=by
 obtain⟨S0,h1,h2,h3⟩:=I.st.at seat_stay hk
 refine⟨S0,h1,h2,fun H' N S0' x' hn hs hN he hr hp=>?_⟩
 have hb:=I.sn _ I.sb
 have K:=h3 H' N S0' x' ⟨hn,hs,fun c hc q=>(hN c hc).1 q.1,fun c hc hz=>he c (I.sn c hc.1) hc.1 hz hc.2.2.1⟩ hp
 refine⟨?_,cel_same I.f hn (fun a m r e=>he a.b (I.sn _ (I.sf a m r e).1) (I.sf a m r e).1 (fun q=>(h1 _ q).2.2.2 a m r e rfl) (I.sf a m r e).2.2),hr,?_,.inl I.sb,.inl I.ss,I.sf.mono fun c hc=>⟨.inl hc.1,hc.2⟩,I.ne,fun c hc=>hc.elim (fun q=>Nat.lt_of_lt_of_le (I.sn c q) hn) fun q=>(hN c q).2⟩
 ·rw[List.length_set]
  exact I.r.same (he _ hb I.sb (fun q=>(h1 _ q).2.1 rfl) I.ne)
 ·refine K.mono fun c hc=>?_
  rcases hc with hc | q
  ·exact⟨.inl hc.1,hc.2⟩
  ·have q1:=(hN c q).1
   exact⟨.inr q,fun z=>q1 (z ▸ I.sb),fun z=>q1 (z ▸ I.ss),I.sf.mono fun d hd z=>q1 (z ▸ hd.1)⟩
theorem SchI.job(I:SchI S H b fv fr units slots ticks bs l){k i:Nat}{x:SeatV}{j:JobV}(hk:l[k]?=some x)(hi:x.l[i]?=some j) :
  ∃S1,(∀c,S1 c→S c)∧JobP j S1 H∧∀H' S1' j',FrJ S1 H S1' H'→JobP j' S1' H'→j'.ent=j.ent →
   SchI (fun c=>S c∨(H.next≤c∧S1' c)) H' b fv fr units slots ticks bs (l.set k { x with l:=x.l.set i j' }):=by
 obtain⟨S0,h1,⟨p1,p2,p3⟩,h3⟩:=I.seat hk
 obtain⟨S1,g1,g2,g3⟩:=p3.at job_stay hi
 refine⟨S1,fun c hc=>(h1 c (g1 c hc).1).1,g2,fun H' S1' j' F hp he=>?_⟩
 have lt':=hp.1.lt.2
 have hn:=F.1
 have K:=g3 H' (fun c=>H.next≤c∧S1' c) S1' j' ⟨hn,fun c hc=>(F.2.1 c hc).imp (fun q=>q) fun q=>⟨q,hc⟩,fun c hc q=>by have:=I.sn c (h1 c q.1).1; omega,fun c hc=>F.2.2 c (I.sn c (h1 c hc.1).1)⟩ hp
 have hx:({ x with l:=x.l.set i j' }:SeatV).cells=x.cells:=rfl
 refine h3 H' (fun c=>H.next≤c∧S1' c) (fun c=>S0 c∨(H.next≤c∧S1' c)) { x with l:=x.l.set i j' } hn (fun c hc=>hc) (fun c hc=>⟨fun q=>by have:=I.sn c q; omega,lt' c hc.2⟩) (fun c hc _ hz _=>F.2.2 c hc fun q=>hz (g1 c q).1) ?_ ⟨?_,p2.mono fun c hc=>.inl hc,?_⟩
 ·have e:(l.set k { x with l:=x.l.set i j' }).flatMap SeatV.cells=l.flatMap SeatV.cells:=by
   have h0:(l.flatMap SeatV.cells).set (k*3+0) x.v=(l.set k { x with l:=x.l.set i j' }).flatMap SeatV.cells:=fm_set seat_len hk om rfl
   rw[← h0,Nat.add_zero]
   have h2:=fm_get seat_len hk (k:=0) om
   rw[Nat.add_zero]at h2
   exact set_self h2
  rw[e]
  exact I.rs.same (F.2.2 _ (I.sn _ I.ss) fun q=>(h1 _ (g1 _ q).1).2.2.1 rfl)
 ·have e:(x.l.set i j').map JobV.ent=x.l.map JobV.ent:=by
   rw[List.map_set,he]
   exact set_self (by rw[List.getElem?_map,hi]; rfl)
  show LinM 2 H' x.v (entC ((x.l.set i j').map JobV.ent)) (x.l.set i j').length
  rw[e,List.length_set]
  exact p1.same hn (fun a m r e=>F.2.2 a.b (I.sn _ (h1 _ (p2 a m r e)).1) fun z=>(g1 _ z).2 a m r e rfl)
 ·refine K.mono fun c hc=>hc.elim (fun q=>⟨.inl q.1,q.2⟩) fun q=>⟨.inr q,p2.mono fun d hd=>by have:=I.sn d (h1 d hd).1; omega⟩
end
open Go.Abs Go.Abs.S
open Go.Proofs.Tb (cel_blk cel_same row_st)
open Go.Proofs.Tc (SlK)
theorem lin_slk{P:Nat→Prop}{H:AHeap}{m k:Nat}{v:AVal}{C:List AVal}(h:LinM m H v C k)(hb:Blk v P):SlK P H m v k C:=by
 rcases h with⟨rfl,rfl,rfl⟩ | ⟨b,L,low,r,rfl,h2,h3,h4,h5,h6,h7,h8⟩
 ·exact .nil P H m
 ·refine .inr ⟨_,_,rfl,hb _ _ _ rfl,?_⟩
  have hR:Row H b L:=⟨low,h3,h4⟩
  have:=rd_row hR rfl (i:=0) (k:=m*k) (by rw[Nat.mul_comm]; omega)
  rw[this,List.drop_zero,Nat.mul_comm,h5]
theorem grantL_work{w h q:Nat}:∀(f d:Nat) (s:Sta),(grantL w h q f d s).2.1.work=s.1.work
 | 0,_,_=>rfl
 | f+1,d,s=>by
  unfold grantL
  split
  ·split
   ·rw[grantL_work f]; rfl
   ·rw[grantL_work f]; exact (step_put s.1).2.1
  ·rfl
theorem lin_cell{m k:Nat}{H:AHeap}{s:AVal}{L:List AVal}(h:LinM m H s L k){i:Nat}(hi:i<k):∃b n,aIdxA m s (.int .i64 (i:Int))=some (cellR b n (i*m))∧Blk s (b=·)∧∀(j:Nat) (x:AVal),j<m→L[i*m+j]?=some x→oLoad false 1 H (cellR b n (i*m+j))=some x:=by
 have him:i*m+m≤k*m:=by
  have:(i+1)*m≤k*m:=Nat.mul_le_mul_right _ hi
  rwa [Nat.add_mul,Nat.one_mul]at this
 have hb:Nat.blt i k=true:=by simpa[Nat.blt_eq] using hi
 rcases h with⟨_,_,h⟩ | ⟨b,C,low,r,rfl,h2,h3,h4,h5,h6,h7,h8⟩
 ·omega
 ·refine⟨b,C.length,?_,blk_some rfl,fun j x hj hx=>?_⟩
  ·rcases h2 with rfl | ⟨cap,rfl,_⟩
   ·exact idxM .i64 hi
   ·show (bif Nat.blt i k then some (AVal.ptr (some ⟨b,C.length,0+i*m⟩)) else none)=_
    rw[hb,Nat.zero_add]; rfl
  ·refine row_load ⟨low,h3,h4⟩ rfl ?_
   rw[← h5,List.getElem?_take]at hx
   split at hx
   ·exact hx
   ·simp at hx
theorem ent_len(x:Int×AVal):(entL x.1 x.2).length=2:=rfl
theorem lin_ent{H:AHeap}{v:AVal}{l:List JobV}(h:LinM 2 H v (entC (l.map JobV.ent)) l.length){i:Nat}{j:JobV}(hi:l[i]?=some j) :
  ∃b n,aIdxA 2 v (.int .i64 (i:Int))=some (cellR b n (i*2))∧Blk v (b=·)∧oLoad false 1 H (cellR b n (i*2))=some (.int .i64 (j.id:Int))∧oLoad false 1 H (cellR b n (i*2+1))=some (cellR j.b 14 0)∧oLoad true 2 H (cellR b n (i*2))=some (.agg (entL (j.id:Int) (cellR j.b 14 0))):=by
 have hil:i<l.length:=(List.getElem?_eq_some_iff.1 hi).1
 have hm:(l.map JobV.ent)[i]?=some j.ent:=by rw[List.getElem?_map,hi]; rfl
 obtain⟨b,n,h1,h2,h3⟩:=lin_cell h hil
 obtain⟨b',n',g1,g2,g3⟩:=h.at hil
 rw[h1]at g1
 simp only[sJ]at g1
 have e0:=fm_get ent_len hm (k:=0) om
 have e1:=fm_get ent_len hm (k:=1) om
 have d:((entC (l.map JobV.ent)).drop (i*2)).take 2=entL (j.id:Int) (cellR j.b 14 0):=by
  refine List.ext_getElem? fun t=>?_
  rw[List.getElem?_take,List.getElem?_drop]
  split
  ·rename_i ht
   exact fm_get ent_len hm ht
  ·rename_i ht
   rw[List.getElem?_eq_none (by show 2≤t; omega)]
 refine⟨b,n,h1,h2,h3 0 _ om e0,h3 1 _ om e1,?_⟩
 rw[g1,g2]
 exact congrArg (fun q=>some (AVal.agg q)) d
def grantS(w h q:Nat)(s:Sta):Sta:=addW (grantL w h q (q+1) 0 s).2 (grantL w h q (q+1) 0 s).1
theorem Fit.grant{w h q:Nat}{s:Sta}(F:Fit w h s)(G:Good w h (grantL w h q (q+1) 0 s).2):Fit w h (grantS w h q s)∧(grantL w h q (q+1) 0 s).1=min q (remS w h s)∧remS w h (grantS w h q s)=remS w h s-min q (remS w h s):=by
 obtain⟨h1,h2,h3⟩:=grantL_rem (q:=q) F.hw.2 F.hh.2 (q+1) 0 s om om F.k F.g
 have hk:=grantL_work (w:=w) (h:=h) (q:=q) (q+1) 0 s
 rw[Nat.sub_zero]at h1 h2
 rw[Nat.zero_add]at h1
 have e:remS w h (grantS w h q s)=remS w h (grantL w h q (q+1) 0 s).2:=rfl
 have ew:(grantS w h q s).1.work=(grantL w h q (q+1) 0 s).2.1.work+(grantL w h q (q+1) 0 s).1:=rfl
 refine⟨⟨F.hw,F.hh,⟨G.p,G.k,G.u,G.d⟩,⟨h3.q,h3.b,h3.g,h3.z⟩,?_⟩,h1,by rw[e,h2]⟩
 have:=F.t
 rw[ew,e,hk,h1,h2]; omega
def goesJ(j:JobV):Bool:=goesS j.w j.h j.s
def seekV(x:SeatV):Int:=
 let i:=firstF (fun i=>match x.l[i]? with | some j=>decide ((x.served:Int)<(j.id:Int))&&goesJ j | none=>false) x.l.length x.l.length 0
 if i<0 then firstF (fun i=>match x.l[i]? with | some j=>goesJ j | none=>false) x.l.length x.l.length 0 else i
theorem first_lt{p:Nat→Bool}{n:Nat}:∀(k i:Nat),i+k=n→∀r:Nat,firstF p n k i=(r:Int)→r<n∧p r=true
 | 0,i,_,r,h=>by simp only[firstF]at h; omega
 | k+1,i,e,r,h=>by
  unfold firstF at h
  split at h
  ·rename_i hp
   have:i=r:=om
   subst this
   exact⟨om,hp⟩
  ·exact first_lt k (i+1) om r h
section
variable {S:Nat→Prop} {H:AHeap} {b:Nat} {fv:AVal} {fr:List Int} {units slots ticks bs:Nat} {l:List SeatV}
theorem SchI.ld(I:SchI S H b fv fr units slots ticks bs l){k:Nat}{x:SeatV}(hk:l[k]?=some x) :
  oLoad false 1 H (cellR bs (3*l.length) (k*3))=some x.v∧oLoad false 1 H (cellR bs (3*l.length) (k*3+1))=some (.int .i64 (x.given:Int))∧oLoad false 1 H (cellR bs (3*l.length) (k*3+2))=some (.int .i64 (x.served:Int)):=by
 refine⟨?_,?_,?_⟩
 ·refine row_load I.rs (fm_len seat_len l) ?_
  have:=fm_get seat_len hk (k:=0) om
  exact this
 ·exact row_load I.rs (fm_len seat_len l) (fm_get seat_len hk (k:=1) om)
 ·exact row_load I.rs (fm_len seat_len l) (fm_get seat_len hk (k:=2) om)
theorem SchI.tick(I:SchI S H b fv fr units slots ticks bs l):∃H',oStore 1 H (cellR b 6 4) (.int .i64 ((ticks+1:Nat):Int))=some H'∧SchI S H' b fv fr units slots (ticks+1) bs l∧H'.next=H.next∧∀c,c≠b→H'.get c=H.get c:=by
 obtain⟨H2,m2,R2,n2,k2⟩:=row_st I.r (n:=6) rfl (i:=4) om (x:=.int .i64 ((ticks+1:Nat):Int)) rfl (l':=sL b fv units slots (ticks+1) (.slice (some ⟨bs,3*l.length,0⟩) l.length (.known l.length))) rfl
 exact⟨H2,m2,⟨R2,cel_same I.f om (I.sf.mono fun c hc=>k2 c hc.2.1),I.rs.same (k2 _ I.ne.symm),I.st.same seat_stay om fun c hc=>k2 c hc.2.1,I.sb,I.ss,I.sf,I.ne,fun c hc=>by have:=I.sn c hc; omega⟩,n2,k2⟩
theorem SchI.ents(I:SchI S H b fv fr units slots ticks bs l){k:Nat}{x:SeatV}(hk:l[k]?=some x) :
  LinM 2 H x.v (entC (x.l.map JobV.ent)) x.l.length∧Blk x.v S∧∀(i:Nat) (j:JobV),x.l[i]?=some j→∃S1,(∀c,S1 c→S c)∧JobP j S1 H:=by
 obtain⟨S0,h1,⟨p1,p2,p3⟩,_⟩:=I.seat hk
 refine⟨p1,p2.mono fun c hc=>(h1 c hc).1,fun i j hi=>?_⟩
 obtain⟨S1,a,b⟩:=p3.all j (List.mem_of_getElem? hi)
 exact⟨S1,fun c hc=>(h1 c (a c hc).1).1,b⟩
theorem SchI.slk(I:SchI S H b fv fr units slots ticks bs l){k:Nat}{x:SeatV}(hk:l[k]?=some x){K:AHeap}(E:Ext H.next H K):SlK (·<H.next) K 2 x.v (x.l.map JobV.ent).length (entC (x.l.map JobV.ent)):=by
 obtain⟨h1,h2,_⟩:=I.ents hk
 rw[List.length_map]
 exact lin_slk (h1.same E.next (h2.mono fun c hc=>E.old c (I.sn c hc))) (h2.mono I.sn)
theorem SchI.put(I:SchI S H b fv fr units slots ticks bs l){k:Nat}{x:SeatV}(hk:l[k]?=some x){o:Nat}(ho:o<3){y:AVal}(hy:y.one=true){x':SeatV}(he:x'.cells=x.cells.set o y)(hv:x'.v=x.v)(hl:x'.l=x.l) :
  ∃H',oStore 1 H (cellR bs (3*l.length) (k*3+o)) y=some H'∧SchI S H' b fv fr units slots ticks bs (l.set k x')∧H'.next=H.next∧∀c,c≠bs→H'.get c=H.get c:=by
 have hkl:k<l.length:=(List.getElem?_eq_some_iff.1 hk).1
 obtain⟨H2,m2,R2,n2,k2⟩:=row_st I.rs (n:=3*l.length) (fm_len seat_len l) (i:=k*3+o) om (x:=y) hy (fm_set seat_len hk ho he)
 obtain⟨S0,h1,h2,h3⟩:=I.seat hk
 have h2':SeatP x' S0 H:=by
  obtain⟨q1,q2,q3⟩:=h2
  refine⟨?_,?_,?_⟩
  ·rw[hv,hl]; exact q1
  ·rw[hv]; exact q2
  ·rw[hv,hl]; exact q3
 have K:=h3 H2 (fun _=>False) S0 x' om (fun c hc=>.inl hc) (fun c hc=>hc.elim) (fun c _ _ _ q=>k2 c q) R2 (seat_stay _ _ _ _ h2' om fun c hc=>k2 c (h1 c hc).2.2.1)
 refine⟨H2,m2,⟨K.r,K.f,K.rs,K.st.mono fun c hc=>⟨hc.1.elim (fun q=>q) False.elim,hc.2⟩,I.sb,I.ss,K.sf.mono fun c hc=>⟨hc.1.elim (fun q=>q) False.elim,hc.2⟩,I.ne,fun c hc=>K.sn c (.inl hc)⟩,n2,k2⟩
theorem SchI.serve(I:SchI S H b fv fr units slots ticks bs l){k:Nat}{x:SeatV}(hk:l[k]?=some x)(id:Nat) :
  ∃H',oStore 1 H (cellR bs (3*l.length) (k*3+2)) (.int .i64 (id:Int))=some H'∧SchI S H' b fv fr units slots ticks bs (l.set k { x with served:=id })∧H'.next=H.next∧∀c,c≠bs→H'.get c=H.get c:=I.put hk om rfl rfl rfl rfl
end
open Go.Abs Go.Abs.S
open Go.Proofs.Tb (cel_blk cel_same row_st)
open Go.Proofs.Tc (SlK)
open Go.Proofs.Fr (ownerF)
def tickV(q:Nat)(x:SeatV):Nat×Nat×SeatV:=
 match x.l[(seekV x).toNat]? with
 | some j=>if seekV x<0 then (0,0,x) else (j.id,(grantL j.w j.h q (q+1) 0 j.s).1,{ x with served:=j.id,l:=x.l.set (seekV x).toNat { j with s:=grantS j.w j.h q j.s } })
 | none=>(0,0,x)
theorem tickV_neg{q:Nat}{x:SeatV}(h:seekV x<0):tickV q x=(0,0,x):=by
 unfold tickV
 split
 ·exact if_pos h
 ·rfl
theorem seekV_lt{x:SeatV}{r:Nat}(h:seekV x=(r:Int)):r<x.l.length:=by
 unfold seekV at h
 simp only at h
 split at h
 ·exact (first_lt _ 0 om r h).1
 ·exact (first_lt _ 0 om r h).1
theorem tick_spec{S:Nat→Prop}{H:AHeap}{b:Nat}{fv:AVal}{fr:List Int}{units slots ticks bs:Nat}{l:List SeatV}(I:SchI S H b fv fr units slots ticks bs l){k:Nat}{x:SeatV}(ho:ownerF fr ticks=(k:Int))(hk:l[k]?=some x)
  (hu:units≤2000000) (ht:ticks≤1000000) (hl:x.l.length≤1000) :
  ACalls Tryz.prog noNat 16 [cellR b 6 0] H fun r H'=>r=.tuple [.int .i64 (k:Int),.int .i64 ((tickV units x).1:Int),.int .i64 ((tickV units x).2.1:Int)]∧∃S',SchI S' H' b fv fr units slots (ticks+1) bs (l.set k (tickV units x).2.2)∧FrJ S H S' H':=by
 have hkl:k<l.length:=(List.getElem?_eq_some_iff.1 hk).1
 have l4:oLoad false 1 H (cellR b 6 4)=some (.int .i64 (ticks:Int)):=row_load I.r rfl rfl
 have w4:IntKind.i64.wrap ((ticks:Int)+1)=((ticks+1:Nat):Int):=w64
 obtain⟨H1,m1,I1,n1,k1⟩:=I.tick
 obtain⟨Ha,ma,ra,na,ka⟩:=row_newL H1 [.ptr none] (n:=1) rfl
 obtain⟨H2,m2,r2,n2',k2'⟩:=row_st ra (n:=1) rfl (i:=0) om (x:=cellR bs (3*l.length) (k*3)) rfl (l':=[cellR bs (3*l.length) (k*3)]) rfl
 obtain⟨Hb,mb,rb,nb,kb⟩:=row_newL H2 [.nilFunc] (n:=1) rfl
 obtain⟨H3,m3,r3,n3',k3'⟩:=row_st rb (n:=1) rfl (i:=0) om (x:=.func (.func 44) [] []) rfl (l':=[.func (.func 44) [] []]) rfl
 have n2:H2.next=H1.next+1:=om
 have n3:H3.next=H2.next+1:=om
 have k2:∀c,c≠H1.next→H2.get c=H1.get c:=fun c hc=>by rw[k2' c hc,ka c hc]
 have k3:∀c,c≠H2.next→H3.get c=H2.get c:=fun c hc=>by rw[k3' c hc,kb c hc]
 have E13:Ext H1.next H1 H3:=⟨om,fun c hc=>by rw[k3 c om,k2 c om]⟩
 have I3:=I1.ext E13
 have r23:Row H3 H1.next [cellR bs (3*l.length) (k*3)]:=r2.same (k3 _ om)
 have l6:oLoad false 1 H3 (cellR H1.next 1 0)=some (cellR bs (3*l.length) (k*3)):=row_load r23 rfl rfl
 obtain⟨lv,lg,ls⟩:=I3.ld hk
 obtain⟨n1',ents,jobs⟩:=I3.ents hk
 have job:∀(K:AHeap) (i:Nat) (y:Int×AVal),Ext H3.next H3 K→(x.l.map JobV.ent)[i]?=some y→∃j S1,x.l[i]?=some j∧y=j.ent∧JobP j S1 K∧(∀c,S1 c→c<H3.next):=fun K i y E hy=>by
  rw[List.getElem?_map]at hy
  cases hj:x.l[i]? with
  | none=>rw[hj]at hy; simp at hy
  | some j=>
   rw[hj]at hy
   simp only[Option.map_some,sJ]at hy
   obtain⟨S1,a,p⟩:=jobs i j hj
   exact⟨j,S1,rfl,hy.symm,job_stay _ _ _ _ p E.next fun c hc=>E.old c (I3.sn c (a c hc)),fun c hc=>I3.sn c (a c hc)⟩
 have hll:(x.l.map JobV.ent).length=x.l.length:=List.length_map ..
 have f1:=find_spec (n0:=H3.next) (f:=.func (.func 47) [] [cellR H1.next 1 0,cellR H2.next 1 0]) (p:=fun i=>match x.l[i]? with | some j=>decide ((x.served:Int)<(j.id:Int))&&goesJ j | none=>false) lv (I3.slk hk (.refl _ _)) rL (by rw[hll]; exact hl) (fun K i y Q E hy hQ=>by
  obtain⟨j,S1,hj,rfl,⟨pj,pf⟩,pl⟩:=job K i y E hy
  rw[callvP_func _ _ _ _ _ om]
  have e:=E.next
  refine (next_spec (id:=(j.id:Int)) (served:=(x.served:Int)) pj pf.hw pf.hh (by have:=pl _ pj.lt.1; omega) (r23.same (E.old _ om)) (r3.same (E.old _ om)) om om (fun K' E'=>((I3.ext (E.trans (E'.less e))).ld hk).2.2) (fun c hc=>by have:=pl c hc; omega)).mono ?_
  rintro _ K' ⟨rfl,E'⟩
  simp only[hj]at hQ
  exact hQ K' E')
 rw[hll]at f1
 have old:∀{K:AHeap},Ext H3.next H3 K→∀c,c<H.next→¬S c→K.get c=H.get c:=fun E c hc hn=>by
  rw[E.old c om,k3 c om,k2 c om,k1 c (fun q=>hn (q ▸ I.sb))]
 refine acalls_ofN rfl za16 rfl ?_
 simp only[c16,sA,sB,seval]
 refine (smade_spec I.r).mono ?_
 rintro _ _ ⟨rfl,rfl⟩
 simp only[sA,sB,seval]
 refine (sowner_spec I.r I.f).mono ?_
 rintro _ _ ⟨rfl,rfl⟩
 simp only[sA,sB,seval,nil_cell,fldA,l4,w4,m1]
 refine (seat_spec I1.r rfl).mono ?_
 rintro _ _ ⟨rfl,rfl⟩
 rw[ho,if_pos om,Int.toNat_natCast]
 simp only[sA,sB,seval,ma,m2,mb,m3,l6]
 refine f1.mono ?_
 rintro _ H4 ⟨rfl,E4⟩
 by_cases c1:firstF (fun i=>match x.l[i]? with | some j=>decide ((x.served:Int)<(j.id:Int))&&goesJ j | none=>false) x.l.length x.l.length 0<0
 ·have l6a:oLoad false 1 H4 (cellR H1.next 1 0)=some (cellR bs (3*l.length) (k*3)):=row_load (r23.same (E4.old _ om)) rfl rfl
  have l7a:oLoad false 1 H4 (cellR H2.next 1 0)=some (.func (.func 44) [] []):=row_load (r3.same (E4.old _ om)) rfl rfl
  have f2:=find_spec (n0:=H3.next) (f:=.func (.func 44) [] []) (p:=fun i=>match x.l[i]? with | some j=>goesJ j | none=>false) ((I3.ext E4).ld hk).1 (I3.slk hk E4) E4.next (by rw[hll]; exact hl) (fun K i y Q E hy hQ=>by
   obtain⟨j,S1,hj,rfl,⟨pj,pf⟩,pl⟩:=job K i y (E4.trans (E.less E4.next)) hy
   rw[callvP_func _ _ _ _ _ om]
   have e:=E.next
   have e':=E4.next
   refine (goes_spec (id:=(j.id:Int)) pj pf.hw pf.hh (by have:=pl _ pj.lt.1; omega)).mono ?_
   rintro _ K' ⟨rfl,E'⟩
   simp only[hj]at hQ
   exact hQ K' E')
  rw[hll]at f2
  have es:firstF (fun i=>match x.l[i]? with | some j=>goesJ j | none=>false) x.l.length x.l.length 0=seekV x:=(if_pos c1).symm
  simp only[sA,sB,seval,c1,l6a,l7a]
  refine f2.mono ?_
  clear f2
  rintro _ H4' ⟨rfl,E4'⟩
  replace E4:=E4.trans (E4'.less E4.next)
  clear E4' l6a l7a H4
  rename AHeap=>H4
  have e4:=E4.next
  have I4:=I3.ext E4
  have l6':oLoad false 1 H4 (cellR H1.next 1 0)=some (cellR bs (3*l.length) (k*3)):=row_load (r23.same (E4.old _ om)) rfl rfl
  by_cases ci:seekV x<0
  ·have ci':=ci
   rw[← es]at ci'
   simp only[sA,sB,seval,ci']
   rw[tickV_neg ci]
   exact⟨tt,S,by rw[set_self hk]; exact I4,om,fun c hc=>.inl hc,fun c hc hn=>old E4 c hc hn⟩
  ·skip
   obtain⟨r,hr⟩:=Int.eq_ofNat_of_zero_le (show 0≤seekV x by omega)
   obtain⟨j,hj⟩:∃j,x.l[r]?=some j:=⟨_,List.getElem?_eq_getElem (seekV_lt hr)⟩
   have et:tickV units x=(j.id,(grantL j.w j.h units (units+1) 0 j.s).1,{ x with served:=j.id,l:=x.l.set r { j with s:=grantS j.w j.h units j.s } }):=by
    unfold tickV
    rw[hr,Int.toNat_natCast,hj]
    exact if_neg om
   rw[hr]at es
   have ci':¬(r:Int)<0:=om
   obtain⟨lv4,_,_⟩:=I4.ld hk
   obtain⟨b2,n2'',x1,x2,x3,x4,x5⟩:=lin_ent (I4.ents hk).1 hj
   obtain⟨H5,m5,I5,n5,k5⟩:=I4.serve hk j.id
   have hk5:(l.set k { x with served:=j.id })[k]?=some { x with served:=j.id }:=by rw[List.getElem?_set_self hkl]
   obtain⟨lv5,_,ls5⟩:=I5.ld hk5
   rw[List.length_set]at lv5 ls5
   obtain⟨b3,n3'',y1,y2,y3,y4,y5⟩:=lin_ent (I5.ents hk5).1 (j:=j) hj
   have hbs:=I1.sn _ I1.ss
   have r25:=(r23.same (E4.old _ om)).same (k5 _ (show H1.next≠bs by omega))
   have l6'':oLoad false 1 H5 (cellR H1.next 1 0)=some (cellR bs (3*l.length) (k*3)):=row_load r25 rfl rfl
   have lu5:oLoad false 1 H5 (cellR b 6 2)=some (.int .i64 (units:Int)):=row_load I5.r rfl rfl
   obtain⟨S1,a1,⟨J1,F1⟩,a3⟩:=I5.job hk5 hj
   simp only[sA,sB,seval,es,ci',l6',nil_cell,fld0,fldA,Nat.add_zero,lv4,x1,x3,m5]
   refine aw_drawC rfl ?_
   simp only[sR,sA,sB,seval,l6'',nil_cell,fld0,fldA,Nat.add_zero,lv5,ls5,y1,y4,lu5]
   refine (grant_spec J1 F1.hw F1.hh F1.g hu (by have:=F1.t; omega)).mono ?_
   rintro _ H6 ⟨rfl,S2,J2,F2,G2⟩
   have I6:=a3 H6 S2 { j with s:=grantS j.w j.h units j.s } F2 ⟨J2,(F1.grant G2).1⟩ rfl
   rw[List.set_set]at I6
   have f2:=F2.1
   have l66:oLoad false 1 H6 (cellR H1.next 1 0)=some (cellR bs (3*l.length) (k*3)):=row_load (r25.same (F2.2.2 _ om fun q=>by have:=I1.sn _ (a1 _ q); omega)) rfl rfl
   have ls6:=(I6.ld (List.getElem?_set_self hkl)).2.2
   rw[List.length_set]at ls6
   simp only[sR,sA,sB,seval]
   simp only[ck_nil',ck_cons,ckP_load,ckP_nil,ck_end,and_true,true_and,List.map_cons,List.map_nil,sA,sB,seval,nil_cell,fldA]
   refine⟨?_,?_⟩
   ·and_intros <;> first | rfl | exact⟨_,rfl,fun _=>⟨_,by assumption,by first | exact aeq_int _ _ | exact aeq_cellR _ _ _⟩⟩
   ·rw[et]
    exact⟨tt,_,I6,om,fun c hc=>by
     rcases hc with hc | hc
     ·exact .inl hc
     ·exact .inr om,fun c hc hn=>by rw[F2.2.2 c om (fun q=>hn (a1 _ q)),k5 c (fun q=>hn (q ▸ I.ss)),old E4 c hc hn]⟩
 ·simp only[sA,sB,seval,c1]
  have es:firstF (fun i=>match x.l[i]? with | some j=>decide ((x.served:Int)<(j.id:Int))&&goesJ j | none=>false) x.l.length x.l.length 0=seekV x:=(if_neg c1).symm
  have ci:¬seekV x<0:=es ▸ c1
  have e4:=E4.next
  have I4:=I3.ext E4
  have l6':oLoad false 1 H4 (cellR H1.next 1 0)=some (cellR bs (3*l.length) (k*3)):=row_load (r23.same (E4.old _ om)) rfl rfl
  obtain⟨r,hr⟩:=Int.eq_ofNat_of_zero_le (show 0≤seekV x by omega)
  obtain⟨j,hj⟩:∃j,x.l[r]?=some j:=⟨_,List.getElem?_eq_getElem (seekV_lt hr)⟩
  have et:tickV units x=(j.id,(grantL j.w j.h units (units+1) 0 j.s).1,{ x with served:=j.id,l:=x.l.set r { j with s:=grantS j.w j.h units j.s } }):=by
   unfold tickV
   rw[hr,Int.toNat_natCast,hj]
   exact if_neg om
  rw[hr]at es
  have ci':¬(r:Int)<0:=om
  obtain⟨lv4,_,_⟩:=I4.ld hk
  obtain⟨b2,n2'',x1,x2,x3,x4,x5⟩:=lin_ent (I4.ents hk).1 hj
  obtain⟨H5,m5,I5,n5,k5⟩:=I4.serve hk j.id
  have hk5:(l.set k { x with served:=j.id })[k]?=some { x with served:=j.id }:=by rw[List.getElem?_set_self hkl]
  obtain⟨lv5,_,ls5⟩:=I5.ld hk5
  rw[List.length_set]at lv5 ls5
  obtain⟨b3,n3'',y1,y2,y3,y4,y5⟩:=lin_ent (I5.ents hk5).1 (j:=j) hj
  have hbs:=I1.sn _ I1.ss
  have r25:=(r23.same (E4.old _ om)).same (k5 _ (show H1.next≠bs by omega))
  have l6'':oLoad false 1 H5 (cellR H1.next 1 0)=some (cellR bs (3*l.length) (k*3)):=row_load r25 rfl rfl
  have lu5:oLoad false 1 H5 (cellR b 6 2)=some (.int .i64 (units:Int)):=row_load I5.r rfl rfl
  obtain⟨S1,a1,⟨J1,F1⟩,a3⟩:=I5.job hk5 hj
  simp only[sA,sB,seval,es,ci',l6',nil_cell,fld0,fldA,Nat.add_zero,lv4,x1,x3,m5]
  refine aw_drawC rfl ?_
  simp only[sR,sA,sB,seval,l6'',nil_cell,fld0,fldA,Nat.add_zero,lv5,ls5,y1,y4,lu5]
  refine (grant_spec J1 F1.hw F1.hh F1.g hu (by have:=F1.t; omega)).mono ?_
  rintro _ H6 ⟨rfl,S2,J2,F2,G2⟩
  have I6:=a3 H6 S2 { j with s:=grantS j.w j.h units j.s } F2 ⟨J2,(F1.grant G2).1⟩ rfl
  rw[List.set_set]at I6
  have f2:=F2.1
  have l66:oLoad false 1 H6 (cellR H1.next 1 0)=some (cellR bs (3*l.length) (k*3)):=row_load (r25.same (F2.2.2 _ om fun q=>by have:=I1.sn _ (a1 _ q); omega)) rfl rfl
  have ls6:=(I6.ld (List.getElem?_set_self hkl)).2.2
  rw[List.length_set]at ls6
  simp only[sR,sA,sB,seval]
  simp only[ck_nil',ck_cons,ckP_load,ckP_nil,ck_end,and_true,true_and,List.map_cons,List.map_nil,sA,sB,seval,nil_cell,fldA]
  refine⟨?_,?_⟩
  ·and_intros <;> first | rfl | exact⟨_,rfl,fun _=>⟨_,by assumption,by first | exact aeq_int _ _ | exact aeq_cellR _ _ _⟩⟩
  ·rw[et]
   exact⟨tt,_,I6,om,fun c hc=>by
    rcases hc with hc | hc
    ·exact .inl hc
    ·exact .inr om,fun c hc hn=>by rw[F2.2.2 c om (fun q=>hn (a1 _ q)),k5 c (fun q=>hn (q ▸ I.ss)),old E4 c hc hn]⟩
open Go.Abs Go.Abs.S
open Go.Proofs.Tc (SlK)
def placeV(x:SeatV)(id:Int):Int:=firstF (fun i=>match x.l[i]? with | some j=>decide ((j.id:Int)=id) | none=>false) x.l.length x.l.length 0
theorem place_eq(x:SeatV)(id:Int):firstF (fun i=>match (x.l.map JobV.ent)[i]? with | some y=>decide (y.1=id) | none=>false) (x.l.map JobV.ent).length (x.l.map JobV.ent).length 0=placeV x id:=by
 unfold placeV
 rw[List.length_map]
 congr 1
 funext i
 rw[List.getElem?_map]
 cases x.l[i]? <;> rfl
theorem place_lt{x:SeatV}{id:Int}{r:Nat}(h:placeV x id=(r:Int)):∃j,x.l[r]?=some j∧(j.id:Int)=id:=by
 obtain⟨h1,h2⟩:=first_lt _ 0 om r h
 obtain⟨j,hj⟩:∃j,x.l[r]?=some j:=⟨_,List.getElem?_eq_getElem h1⟩
 rw[hj]at h2
 exact⟨j,hj,of_decide_eq_true h2⟩
section
variable {S:Nat→Prop} {H:AHeap} {b:Nat} {fv:AVal} {fr:List Int} {units slots ticks bs:Nat} {l:List SeatV}
theorem SchI.place(I:SchI S H b fv fr units slots ticks bs l){k:Nat}{x:SeatV}(hk:l[k]?=some x)(hl:x.l.length≤1000)(id:Int) :
  ACalls Tryz.prog noNat 41 [cellR bs (3*l.length) (k*3),.int .i64 id] H fun r H'=>r=.int .i64 (placeV x id)∧Ext H.next H H':=by
 have:=numbered_spec (n0:=H.next) (id:=id) (fun K E=>((I.ext E).ld hk).1) (I.slk hk (.refl _ _)) rL (by rw[List.length_map]; exact hl)
 refine this.mono ?_
 rintro _ _ ⟨rfl,E⟩
 exact⟨congrArg (AVal.int .i64) (place_eq x id),E⟩
def jobA(x:SeatV)(i:Int):AVal:=if i<0 then .ptr none else match x.l[i.toNat]? with | some j=>cellR j.b 14 0 | none=>.ptr none
theorem job_spec(I:SchI S H b fv fr units slots ticks bs l){k:Nat}{x:SeatV}(hk:l[k]?=some x)(hl:x.l.length≤1000)(id:Int) :
  ACalls Tryz.prog noNat 23 [cellR b 6 0,.int .i64 (k:Int),.int .i64 id] H fun r H'=>r=jobA x (placeV x id)∧Ext H.next H H':=by
 have hkl:k<l.length:=(List.getElem?_eq_some_iff.1 hk).1
 refine acalls_ofN rfl za23 rfl ?_
 simp only[c23,sA,sB,seval]
 refine (seat_spec I.r rfl).mono ?_
 rintro _ _ ⟨rfl,rfl⟩
 rw[if_pos om,Int.toNat_natCast]
 simp only[sA,sB,seval]
 refine (I.place hk hl id).mono ?_
 rintro _ H1 ⟨rfl,E1⟩
 unfold jobA
 by_cases c:placeV x id<0
 ·simp only[sA,sB,seval,c]
  exact⟨tt,E1⟩
 ·obtain⟨r,hr⟩:=Int.eq_ofNat_of_zero_le (show 0≤placeV x id by omega)
  obtain⟨j,hj,_⟩:=place_lt hr
  have I1:=I.ext E1
  have lv:=(I1.ld hk).1
  obtain⟨b2,n2,x1,x2,x3,x4,x5⟩:=lin_ent (I1.ents hk).1 hj
  have c':¬(r:Int)<0:=om
  rw[hr]
  simp only[sA,sB,seval,c',nil_cell,fld0,fldA,Nat.add_zero,lv,x1,x4,Int.toNat_natCast,hj]
  exact⟨tt,E1⟩
theorem jobs_spec(I:SchI S H b fv fr units slots ticks bs l){k:Nat}{x:SeatV}(hk:l[k]?=some x)(hl:x.l.length≤1000) :
  ACalls Tryz.prog noNat 22 [cellR b 6 0,.int .i64 (k:Int)] H fun r H'=>App H.next H' r (ints (x.l.map fun j=>(j.id:Int)))∧Ext H.next H H':=by
 have hkl:k<l.length:=(List.getElem?_eq_some_iff.1 hk).1
 obtain⟨n1,ents,_⟩:=I.ents hk
 have lv:=(I.ld hk).1
 have ln:=n1.len
 refine acalls_ofN rfl za22 rfl ?_
 simp only[c22,sA,sB,seval]
 refine (seat_spec I.r rfl).mono ?_
 rintro _ _ ⟨rfl,rfl⟩
 rw[if_pos om,Int.toNat_natCast]
 have eqn:aPf (.eqv false .ptr) [cellR bs (3*l.length) (k*3),.ptr none]=some (.bool false):=rfl
 simp only[sA,sB,seval,eqn,nil_cell,fld0,fldA,Nat.add_zero,lv,ln]
 refine aw_loop (fun mu (T:Env) K=>∃(i:Nat) (a:AVal),mu=x.l.length-i∧i≤x.l.length∧Ext H.next H K∧App H.next K a (ints ((x.l.take i).map fun j=>(j.id:Int)))∧T 6=a∧T 17=x.v∧T 18=.int .i64 (x.l.length:Int)∧T 19=.int .i64 (i:Int)) x.l.length ⟨0,nilS,om,om,.refl _ _,.nil _ _,tt,tt,tt,tt⟩ ?_
 rintro mu T K ⟨i,a,rfl,hi,E,A,t6,t17,t18,t19⟩
 by_cases c:i<x.l.length
 ·have c':(i:Int)<(x.l.length:Int):=om
  obtain⟨j,hj⟩:∃j,x.l[i]?=some j:=⟨_,List.getElem?_eq_getElem c⟩
  obtain⟨b2,n2,x1,x2,x3,x4,x5⟩:=lin_ent ((I.ext E).ents hk).1 hj
  obtain⟨K1,m1,r1,q1,k1⟩:=row_newL K [.int .i64 0,.ptr none] (n:=2) rfl
  obtain⟨K2,m2,r2,q2,k2⟩:=row_storeN r1 (n:=2) rfl (xs:=entL (j.id:Int) (cellR j.b 14 0)) rfl rfl
  have l0:oLoad false 1 K2 (cellR K.next 2 0)=some (.int .i64 (j.id:Int)):=row_load r2 rfl rfl
  have e1:=E.next
  have E2:Ext H.next H K2:=⟨om,fun c hc=>by rw[k2 c om,k1 c om,E.old c hc]⟩
  have A2:App H.next K2 a (ints ((x.l.take i).map fun j=>(j.id:Int))):=A.ext ⟨om,fun c hc=>by rw[k2 c om,k1 c om]⟩
  have ll:(ints ((x.l.take i).map fun j=>(j.id:Int))).length≤1000:=by rw[ints_len,List.length_map,List.length_take]; omega
  obtain⟨a',K3,m3,A3,E3⟩:=A2.push om (x:=.int .i64 (j.id:Int)) rfl (bytes:=8) om om
  have w1:IntKind.i64.wrap ((i:Int)+1)=((i+1:Nat):Int):=w64
  have bl:=build1 (.int .i64 0) K2 (x:=.int .i64 (j.id:Int)) rfl
  have ex:x.l.take (i+1)=x.l.take i++[j]:=by rw[List.take_add_one,hj]; rfl
  simp only[sA,sB,seval,t6,t17,t18,t19,c',x1,x5,m1,m2,fld0,l0,bl,m3,w1]
  refine⟨x.l.length-(i+1),om,i+1,a',rfl,om,E2.trans E3,?_,tt,tt,tt,tt⟩
  rw[ex,List.map_append]
  simp only[ints,List.map_append,List.map_cons,List.map_nil]at A3 ⊢
  exact A3
 ·have c':¬(i:Int)<(x.l.length:Int):=om
  obtain rfl:i=x.l.length:=om
  rw[List.take_length]at A
  simp only[sA,sB,seval,t6,t17,t18,t19,c']
  exact⟨A,E⟩
end
open Go.Abs Go.Abs.S
open Go.Proofs.Tb (row_st)
open Go.Proofs.Tc (SlK)
theorem entC_snoc(l:List JobV)(j:JobV):entC ((l++[j]).map JobV.ent)=entC (l.map JobV.ent)++entL (j.id:Int) (cellR j.b 14 0):=by
 simp[entC,JobV.ent]
theorem add_spec{S Sj:Nat→Prop}{H:AHeap}{b:Nat}{fv:AVal}{fr:List Int}{units slots ticks bs:Nat}{l:List SeatV}(I:SchI S H b fv fr units slots ticks bs l){k:Nat}{x:SeatV}(hk:l[k]?=some x){j:JobV}
  (J:JobP j Sj H) (hd:∀c,Sj c→¬S c) (hl:x.l.length≤1000) (hg:x.given≤1000000) :
  ACalls Tryz.prog noNat 10 [cellR b 6 0,.int .i64 (k:Int),cellR j.b 14 0] H fun r H'=>
   (slots≤x.l.length→r=.tuple [.int .i64 0,.int .i64 142]∧H=H') ∧
   (x.l.length<slots→r=.tuple [.int .i64 ((x.given+1:Nat):Int),.int .i64 0]∧∃(v':AVal) (N:Nat→Prop),SchI (fun c=>S c∨N c) H' b fv fr units slots ticks bs (l.set k ⟨v',x.given+1,x.served,x.l++[{ j with id:=x.given+1 }]⟩)∧(∀c,N c→Sj c∨H.next≤c)∧H.next≤H'.next∧∀c,c<H.next→¬S c→H'.get c=H.get c):=by
 have hkl:k<l.length:=(List.getElem?_eq_some_iff.1 hk).1
 obtain⟨lv,lg,_⟩:=I.ld hk
 have l3:oLoad false 1 H (cellR b 6 3)=some (.int .i64 (slots:Int)):=row_load I.r rfl rfl
 obtain⟨n1,ents,_⟩:=I.ents hk
 have ln:=n1.len
 have eqn:aPf (.eqv false .ptr) [cellR bs (3*l.length) (k*3),.ptr none]=some (.bool false):=rfl
 refine acalls_ofN rfl za10 rfl ?_
 simp only[c10,sA,sB,seval]
 refine (smade_spec I.r).mono ?_
 rintro _ _ ⟨rfl,rfl⟩
 simp only[sA,sB,seval]
 refine J.1.made.mono ?_
 rintro _ _ ⟨rfl,rfl⟩
 simp only[sA,sB,seval]
 refine (seat_spec I.r rfl).mono ?_
 rintro _ _ ⟨rfl,rfl⟩
 rw[if_pos om,Int.toNat_natCast]
 by_cases c:slots≤x.l.length
 ·have c':(slots:Int)≤(x.l.length:Int):=om
  simp only[sA,sB,seval,eqn,nil_cell,fld0,fldA,Nat.add_zero,lv,ln,l3,c']
  exact⟨fun _=>⟨tt,tt⟩,fun q=>absurd q om⟩
 have c':¬(slots:Int)≤(x.l.length:Int):=om
 have wg:IntKind.i64.wrap ((x.given:Int)+1)=((x.given+1:Nat):Int):=w64
 obtain⟨H2,m2,I2,n2,k2⟩:=I.put hk (o:=1) om (y:=.int .i64 ((x.given+1:Nat):Int)) rfl (x':={ x with given:=x.given+1 }) rfl rfl rfl
 have hk2:(l.set k { x with given:=x.given+1 })[k]?=some { x with given:=x.given+1 }:=by rw[List.getElem?_set_self hkl]
 obtain⟨lv2,lg2,_⟩:=I2.ld hk2
 rw[List.length_set]at lv2 lg2
 obtain⟨S0,h1,⟨p1,p2,p3⟩,h3⟩:=I2.seat hk2
 have J2:JobP j Sj H2:=job_stay _ _ _ _ J om fun c hc=>k2 c fun q=>hd c hc (q ▸ I.ss)
 have sj:=J2.1.lt
 obtain⟨v',H3,m3,L3,n3,b3,k3⟩:=p1.add (xs:=entL ((x.given+1:Nat):Int) (cellR j.b 14 0)) (j:=1) rfl rfl om (bytes:=16) (by show 2*(x.l.length+1)*16≤_; omega) om
 have bl:=buildM H2 (z:=[.int .i64 0,.ptr none]) (m:=2) rfl (xs:=entL ((x.given+1:Nat):Int) (cellR j.b 14 0)) rfl
 have bu:aBuild [.int .i64 0,.ptr none] [(0,1,.int .i64 ((x.given+1:Nat):Int)),(1,1,cellR j.b 14 0)]=some (.agg (entL ((x.given+1:Nat):Int) (cellR j.b 14 0))):=rfl
 have hbs:=I.sn _ I.ss
 have sameS:∀c,c<H2.next→¬S0 c→H3.get c=H2.get c:=fun c hc hn=>k3 c hc (p2.mono fun d hd q=>hn (q ▸ hd))
 have r3:Row H3 bs ((l.set k { x with given:=x.given+1 }).flatMap SeatV.cells):=I2.rs.same (sameS _ om fun q=>(h1 _ q).2.2.1 rfl)
 have lv3:oLoad false 1 H3 (cellR bs (3*l.length) (k*3))=some x.v:=by
  have:=fm_get seat_len hk2 (k:=0) om
  exact row_load r3 (by rw[fm_len seat_len,List.length_set]) this
 have lg3:oLoad false 1 H3 (cellR bs (3*l.length) (k*3+1))=some (.int .i64 ((x.given+1:Nat):Int)):=row_load r3 (by rw[fm_len seat_len,List.length_set]) (fm_get seat_len hk2 (k:=1) om)
 obtain⟨H4,m4,R4,n4,k4⟩:=row_st r3 (n:=3*l.length) (by rw[fm_len seat_len,List.length_set]) (i:=k*3+0) om (x:=v') L3.one (fm_set seat_len hk2 om (x':=⟨v',x.given+1,x.served,x.l++[{ j with id:=x.given+1 }]⟩) rfl)
 have lg4:oLoad false 1 H4 (cellR bs (3*l.length) (k*3+1))=some (.int .i64 ((x.given+1:Nat):Int)):=row_load R4 (by rw[fm_len seat_len,List.length_set,List.length_set]) (fm_get seat_len (List.getElem?_set_self (by rw[List.length_set]; exact hkl)) (k:=1) om)
 rw[Nat.add_zero]at m4
 have m3':aAppend 2 16 (H2.push (.cells (entL ((x.given+1:Nat):Int) (cellR j.b 14 0)) 0 false)) x.v (.slice (some ⟨H2.next,2,0⟩) 1 (.known 1))=some (v',H3):=m3
 have lvp:oLoad false 1 (H2.push (.cells (entL ((x.given+1:Nat):Int) (cellR j.b 14 0)) 0 false)) (cellR bs (3*l.length) (k*3))=some x.v:=by
  have:=fm_get seat_len hk2 (k:=0) om
  exact row_load (I2.rs.same (get_push_lt om)) (by rw[fm_len seat_len,List.length_set]) this
 have aeqv:aeq x.v x.v=true:=(I.slk hk (.refl _ _)).aeq
 simp only[sA,sB,seval,eqn,nil_cell,fld0,fldA,Nat.add_zero,lv,ln,l3,c',lg,wg,m2]
 refine aw_drawC rfl ?_
 simp only[sR,sA,sB,seval,nil_cell,fld0,fldA,Nat.add_zero,lv2,lg2,bu,bl,oneM,m3',m4,lg4]
 simp only[ck_nil',ck_cons,ckP_load,ckP_nil,ck_end,and_true,true_and,List.map_cons,List.map_nil,sA,sB,seval,nil_cell,fldA,fld0]
 refine⟨?_,?_⟩
 ·and_intros <;> first | rfl | exact⟨_,rfl,fun _=>⟨_,by assumption,aeqv⟩⟩
 ·refine⟨fun q=>absurd q om,fun _=>⟨v',fun c=>Sj c∨(H2.next≤c∧c<H4.next),?_,fun c hc=>hc.imp (fun q=>q) fun q=>om,om,fun c hc hn=>?_⟩⟩
  ·have hN:∀c,(Sj c∨(H2.next≤c∧c<H4.next))→¬S c∧c<H4.next:=fun c hc=>hc.elim (fun q=>⟨hd c q,by have:=sj.2 c q; omega⟩) fun q=>⟨fun z=>by have:=I.sn c z; omega,q.2⟩
   have bv:∀c,Blk x.v (c≠·)→c<H2.next→Blk v' (c≠·):=fun c h hc=>(b3 _ h).mono fun d hd'=>hd'.elim (fun q=>q) fun q=>om
   have hv':=(b3 _ p2).and L3.blk
   have S0n:∀c,S0 c→c<H2.next:=fun c hc=>by have:=I.sn c (h1 c hc).1; omega
   have e4:∀c,c<H2.next→Blk x.v (c≠·)→c≠bs→H4.get c=H2.get c:=fun c q1 q2 q3=>by rw[k4 c q3,k3 c q1 q2]
   have hdv:∀c,Sj c→Blk x.v (c≠·):=fun c hc=>p2.mono fun d hd' q=>hd c hc (q ▸ (h1 d hd').1)
   have K:=h3 H4 (fun c=>Sj c∨(H2.next≤c∧c<H4.next)) (fun c=>S0 c∨(Sj c∨(H2.next≤c∧c<H4.next))) ⟨v',x.given+1,x.served,x.l++[{ j with id:=x.given+1 }]⟩ om (fun c hc=>hc) hN (fun c q1 q2 q3 q4=>by rw[k4 c q4,sameS c q1 q3]) R4 ⟨?_,?_,?_⟩
   ·rw[List.set_set]at K
    exact K
   ·show LinM 2 H4 v' (entC ((x.l++[{ j with id:=x.given+1 }]).map JobV.ent)) (x.l++[{ j with id:=x.given+1 }]).length
    rw[entC_snoc,lA]
    exact L3.same om (hv'.mono fun c hc=>k4 c fun q=>by
     subst q
     exact hc.1.elim (fun z=>(h1 _ z).2.2.1 rfl) fun z=>om)
   ·exact hv'.mono fun c hc=>hc.1.elim .inl fun z=>.inr (.inr ⟨z,om⟩)
   ·refine ((p3.same job_stay om fun c hc=>e4 c (S0n c hc.1) hc.2 (h1 c hc.1).2.2.1).snoc (x:={ j with id:=x.given+1 }) (S1:=Sj) (job_stay _ _ _ _ (show JobP { j with id:=x.given+1 } Sj H2 from J2) om fun c hc=>e4 c (sj.2 c hc) (hdv c hc) fun q=>hd c hc (q ▸ I.ss)) fun c hc q=>hd c hc (h1 c q.1).1).mono fun c hc=>?_
    rcases hc with hc | hc
    ·exact⟨.inl hc.1,bv c hc.2 (S0n c hc.1)⟩
    ·exact⟨.inr (.inl hc),bv c (hdv c hc) (sj.2 c hc)⟩
  ·have q1:¬S0 c:=fun z=>hn (h1 c z).1
   have q2:c≠bs:=fun z=>hn (z ▸ I.ss)
   rw[k4 c q2,sameS c om q1,k2 c q2]
open Go.Abs Go.Abs.S
open Go.Proofs.Tb (row_st cel_same cel_blk)
open Go.Proofs.Fr (okB frame build_spec BuildK)
def seat0:SeatV:=⟨nilS,0,0,[]⟩
theorem seats_rep:∀n,rep [.slice none 0 (.known 0),.int .i64 0,.int .i64 0] n=(List.replicate n seat0).flatMap SeatV.cells
 | 0=>rfl
 | n+1=>by rw[List.replicate_succ,List.flatMap_cons,← seats_rep n]; rfl
theorem seats_make(H:AHeap){n:Nat}(h:n≤1000):∃H',aMake 40 [.slice none 0 (.known 0),.int .i64 0,.int .i64 0] H (.int .i64 (n:Int)) (.int .i64 (n:Int))=some (.slice (some ⟨H.next,3*n,0⟩) n (.known n),H')∧Row H' H.next ((List.replicate n seat0).flatMap SeatV.cells)∧H'.next=H.next+1∧∀c,c≠H.next→H'.get c=H.get c:=by
 have h1:natOf (.int .i64 (n:Int))=some n:=by
  show natOf (.int .i64 (Int.ofNat n))=some n
  simp only[natOf,Nat.ble_eq_true_of_le (show n≤9223372036854775807 by omega),cond_true]
 have hl:(rep [.slice none 0 (.known 0),.int .i64 0,.int .i64 0] n).length=3*n:=by rw[seats_rep,fm_len seat_len,List.length_replicate]
 refine⟨H.push (.cells (rep [.slice none 0 (.known 0),.int .i64 0,.int .i64 0] n) 0 false),?_,?_,rfl,fun c hc=>by rw[AHeap.get_push,if_neg hc]⟩
 ·simp only[aMake,h1,Nat.ble_eq_true_of_le rL,Nat.ble_eq_true_of_le (show 40*n≤281474976710656 by omega),Bool.and_self,cond_true,hl]
 ·rw[← seats_rep]; exact row_push _ _
theorem star_rep{n:Nat}{S:Nat→Prop}{H:AHeap}:Star SeatP (List.replicate n seat0) S H:=by
 induction n generalizing S with
 | zero=>trivial
 | succ n ih=>exact⟨fun _=>False,fun c hc=>hc.elim,⟨.inl ⟨rfl,rfl,rfl⟩,blk_nil _,trivial⟩,ih⟩
theorem snew_spec{n0:Nat}{H:AHeap}{s:AVal}{w:List Int}(h:Cel n0 H s (ints w))(hn0:n0≤H.next)(hl:w.length≤4611686018427387904)(q sl:Int) :
  ACalls Tryz.prog noNat 6 [s,.int .i64 q,.int .i64 sl] H fun r H'=>Ext H.next H H' ∧
   (okB w=false→r=.tuple [.ptr none,.int .i64 143]) ∧
   (okB w=true→(q<1∨1048576<q∨sl<1∨16<sl)→r=.tuple [.ptr none,.int .i64 2]) ∧
   (okB w=true→1≤q→q≤1048576→1≤sl→sl≤16→∃S b fv bs,r=.tuple [cellR b 6 0,.int .i64 0]∧SchI S H' b fv (frame w) q.toNat sl.toNat 0 bs (List.replicate w.length seat0)∧∀c,S c→H.next≤c):=by
 refine acalls_ofN rfl za6 rfl ?_
 simp only[c6,sA,sB,seval]
 refine (build_spec rfl rfl h hn0 om).mono ?_
 rintro r H1 ⟨b1,b2,E1⟩
 cases ok:okB w with
 | false=>
  obtain rfl:=b2 ok
  simp only[sA,sB,seval,ext_0,ext_1]
  exact⟨E1,fun _=>tt,fun h=>absurd h (by simp),fun h=>absurd h (by simp)⟩
 | true=>
  obtain⟨fv,rfl,C,hB⟩:=b1 ok
  have hw16:=(Go.Proofs.Fr.okB_iff w).1 ok
  by_cases c1:q<1
  ·simp only[sA,sB,seval,ext_0,ext_1,c1]
   exact⟨E1,fun h=>absurd h (by simp),fun _ _=>tt,fun _ h=>absurd h om⟩
  by_cases c2:1048576<q
  ·simp only[sA,sB,seval,ext_0,ext_1,c1,c2]
   exact⟨E1,fun h=>absurd h (by simp),fun _ _=>tt,fun _ _ h=>absurd h om⟩
  by_cases c3:sl<1
  ·simp only[sA,sB,seval,ext_0,ext_1,c1,c2,c3]
   exact⟨E1,fun h=>absurd h (by simp),fun _ _=>tt,fun _ _ _ h=>absurd h om⟩
  by_cases c4:16<sl
  ·simp only[sA,sB,seval,ext_0,ext_1,c1,c2,c3,c4]
   exact⟨E1,fun h=>absurd h (by simp),fun _ _=>tt,fun _ _ _ _ h=>absurd h om⟩
  have e1:=E1.next
  have ln:=h.len
  rw[ints_len]at ln
  obtain⟨H2,m2,r2,n2,k2⟩:=seats_make H1 (n:=w.length) om
  have hq:((q.toNat:Nat):Int)=q:=Int.toNat_of_nonneg om
  have hs:((sl.toNat:Nat):Int)=sl:=Int.toNat_of_nonneg om
  obtain⟨cs,hcs⟩:∃l:List AVal,l=[.ptr none,fv,.int .i64 q,.int .i64 sl,.int .i64 0,.slice (some ⟨H1.next,3*w.length,0⟩) w.length (.known w.length)]:=⟨_,rfl⟩
  have bu:aBuild [.ptr none,.slice none 0 (.known 0),.int .i64 0,.int .i64 0,.int .i64 0,.slice none 0 (.known 0)] [(1,1,fv),(2,1,.int .i64 q),(3,1,.int .i64 sl),(5,1,.slice (some ⟨H1.next,3*w.length,0⟩) w.length (.known w.length))]=some (.agg cs):=by
   rw[hcs]
   have hf:=Go.Proofs.Tb.cel_one C
   rcases C with⟨hh,_⟩ | ⟨a,r,rfl,_⟩
   ·rcases isE_cases hh with rfl | ⟨a,rfl⟩ <;> rfl
   ·rfl
  obtain⟨H3,m3,r3,n3,k3⟩:=row_newL H2 cs (n:=6) (by rw[hcs]; rfl)
  obtain⟨H4,m4,r4,n4,k4⟩:=row_st r3 (n:=6) (by rw[hcs]; rfl) (i:=0) om (x:=cellR H2.next 6 0) rfl (l':=sL H2.next fv q.toNat sl.toNat 0 (.slice (some ⟨H1.next,3*w.length,0⟩) w.length (.known w.length))) (by rw[hcs]; simp only[sL,hq,hs]; rfl)
  simp only[sA,sB,seval,ext_0,ext_1,c1,c2,c3,c4,ln,m2,bu,cells_agg,m3,nil_cell,fld0,fldA,m4]
  have old:∀c,c<H1.next→H4.get c=H1.get c:=fun c hc=>by rw[k4 c om,k3 c om,k2 c om]
  refine⟨⟨om,fun c hc=>by rw[old c om,E1.old c hc]⟩,fun h=>absurd h (by simp),fun _ h=>by first | (simp at h; done) | omega,fun _ _ _ _ _=>⟨fun c=>H.next≤c∧c<H4.next,H2.next,fv,H1.next,tt,?_,fun c hc=>hc.1⟩⟩
  have hv:=hB.and (cel_blk C)
  have hlr:(List.replicate w.length seat0).length=w.length:=List.length_replicate ..
  exact⟨by rw[hlr]; exact r4,cel_same C om (hv.mono fun c hc=>old c hc.2),(r2.same (k3 _ om)).same (k4 _ om),star_rep,⟨om,om⟩,⟨om,om⟩,hv.mono fun c hc=>⟨⟨hc.1,om⟩,om,om⟩,om,fun c hc=>hc.2⟩
end Go.Proofs.Sd
