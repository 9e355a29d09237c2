/- Part of a proof (S2 S3 S4 S5 N0 S6 S7 S8 S9 S10 S11 S12 S15 S13 S16 S17 S14 S18 S19 S20 S21 S22 S23 S24 S25 S26 S27 Zab UC1 ML1 ML2 ML3 ML4 ML5 USL); no condition. -/
import Derived.IntWalk
import Derived.Below
import Derived.OpenShut
import Derived.ChangeSlices
import Derived.WideShapes
import Derived.SizedLaws
import Derived.ChangeArms
import Derived.ChangeSame
import Derived.Test.YtopaelfdloklaaaGreatDoorProg
import Derived.KernelRfl
import Derived.Laws.IdiomRangeMap
import Derived.Test.YtopaelfdloklaaaGreatDoorP7
set_option linter.unusedSimpArgs false
set_option linter.unusedVariables false
set_option linter.unnecessarySimpa false
namespace Go.Abs.S
open Go.Abs
def tabN(P:Program)(N:ANat):Nat→Tr AFn
 | 0=>.e
 | n+1=>match eFn P (N.md (n % BIG)) n with
  | some c=>(tabN P N n).set n c
  | none=>tabN P N n
def tabP(P:Program)(N:ANat):Tr AFn:=tabN P N (4*BIG)
theorem tabN_get(P:Program)(N:ANat):∀(n f:Nat),(tabN P N n).get f=if f<n then eFn P (N.md (f % BIG)) f else none
 | 0,f=>by rw[if_neg om]; cases f <;> rfl
 | n+1,f=>by
  simp only[tabN]
  cases hc:eFn P (N.md (n % BIG)) n with
  | none=>
   simp only[tabN_get P N n f]
   by_cases h:f<n
   ·rw[if_pos h,if_pos om]
   ·by_cases e:f=n
    ·subst e; rw[if_neg h,if_pos om,hc]
    ·rw[if_neg h,if_neg om]
  | some c=>
   simp only[Tr.get_set,tabN_get P N n f]
   by_cases e:f=n
   ·subst e; rw[if_pos rfl,if_pos om,hc]
   ·rw[if_neg e]
    by_cases h:f<n
    ·rw[if_pos h,if_pos om]
    ·rw[if_neg h,if_neg om]
theorem tabP_ok(P:Program)(N:ANat):TabOK P (tabP P N):=by
 intro f fn h
 rw[tabP,tabN_get]at h
 split at h
 ·exact⟨_,h⟩
 ·simp at h
theorem tabP_get{P:Program}{N:ANat}{f:Nat}{c:AFn}(h:eFn P (N.md (f % BIG)) f=some c):(tabP P N).get f=some c:=by
 have hf:f<4*BIG:=by
  unfold eFn at h
  cases h4:Nat.blt f (4*BIG) with
  | true=>exact blt_lt h4
  | false=>
   exfalso
   have h4':¬f<4*BIG:=fun q=>by rw[show Nat.blt f (4*BIG)=true from Nat.ble_eq_true_of_le q]at h4; simp at h4
   have h5:4*BIG≤f:=Nat.not_lt.1 h4'
   have e1:Nat.blt f BIG=false:=by rw[blt_dec]; exact decide_eq_false om
   have e2:Nat.blt f (2*BIG)=false:=by rw[blt_dec]; exact decide_eq_false om
   have e3:Nat.blt f (3*BIG)=false:=by rw[blt_dec]; exact decide_eq_false om
   rw[e1,e2,e3,h4]at h
   simp at h
 rw[tabP,tabN_get,if_pos hf,h]
theorem eFn_plain{P:Program}{N:ANat}{f:FuncId}{c:AFn}(h:cFn P f=some c)(hm:N.md f=none)(hf:Nat.blt f BIG=true):eFn P (N.md (f % BIG)) f=some c:=by
 rw[Nat.mod_eq_of_lt (blt_lt hf),hm]
 unfold eFn
 rw[hf]
 exact h
def ACalls(P:Program)(N:ANat)(f:FuncId)(args:List AVal)(H:AHeap)(K:AVal→AHeap→Prop):Prop:=
 ∃n v H',acall N (tabP P N) n f args H=some (v,H')∧K v H'
theorem ACalls.mono{P:Program}{N:ANat}{f:FuncId}{args:List AVal}{H:AHeap}{K K':AVal→AHeap→Prop}(h:ACalls P N f args H K)(hk:∀v H',K v H'→K' v H'):ACalls P N f args H K':=by
 obtain⟨n,v,H',h1,h2⟩:=h; exact⟨n,v,H',h1,hk _ _ h2⟩
section
variable {P:Program} {N:ANat}
theorem acall_tb{n:Nat}{f:FuncId}{args:List AVal}{H:AHeap}{r}(h:acall N (tabP P N) n f args H=some r):tbA N (tabP P N) f=true:=by
 cases n with
 | zero=>simp[acall]at h
 | succ n=>
  rw[acall]at h
  unfold tbA
  cases hn:N.is f with
  | true=>rfl
  | false=>
   rw[hn]at h
   simp only[cond_false]at h ⊢
   cases ht:(tabP P N).get f with
   | none=>rw[ht]at h; simp at h
   | some c=>rfl
theorem wOp_sound{T:Tr AVal}{H:AHeap}{o:AOp}{K:AVal→AHeap→Prop}(h:wOp (ACalls P N) (en T) H K o) :
  (∃v H',aop (tbA N (tabP P N)) T H o=some (.val v,H')∧K v H')∨(∃f args H' n v H'',aop (tbA N (tabP P N)) T H o=some (.enter f args,H')∧acall N (tabP P N) n f args H'=some (v,H'')∧K v H''):=by
 cases o
 case call f args=>
  right
  simp only[wOp,sXs_en]at h
  obtain⟨n,v,H',h1,h2⟩:=h
  exact⟨f,_,H,n,v,H',by simp only[aop,acall_tb h1,cond_true],h1,h2⟩
 case callv f args=>
  right
  simp only[wOp,sX_en,sXs_en]at h
  obtain⟨g,a,b,hf,hgb,n,v,H',h1,h2⟩:=h
  exact⟨g,_,H,n,v,H',by simp only[aop,hf,hgb,acall_tb h1,Bool.and_true,cond_true],h1,h2⟩
 case pick c a b=>
  simp only[wOp,sX_en]at h
  obtain⟨b',h1,h2⟩:=h
  exact .inl ⟨_,_,by simp only[aop,h1],h2⟩
 case bad=>simp[wOp]at h
 all_goals
  left
  simp only[wOp,sX_en,sXs_en,sXO_en,sXP_en,OptP]at h
  first
   | exact⟨_,_,rfl,h⟩
   | (obtain ⟨v, h1, h2⟩ := h
      refine ⟨_, _, ?_, h2⟩
      simp only [aop, h1]
      try rfl)
theorem wStep_sound{T:Tr AVal}{H:AHeap}{o:AOper}{K:AVal→AHeap→Prop}(h:wOp (ACalls P N) (en T) H K o.op)(hg:gOK T o.guard=true) :
  ∃n v H',astep (tbA N (tabP P N)) (acall N (tabP P N) n) o T H=some (v,H')∧K v H':=by
 rcases wOp_sound h with⟨v,H',h1,h2⟩ | ⟨f,args,H',n,v,H'',h1,h2,h3⟩
 ·exact⟨0,v,H',by simp only[astep,hg,cond_true,h1],h2⟩
 ·exact⟨n,v,H'',by simp only[astep,hg,cond_true,h1,h2],h3⟩
theorem aregs_cons(tb:FuncId→Bool)(c)(o:AOper)(l:List AOper)(T:Tr AVal)(H:AHeap):aregs tb c (o::l) T H=match astep tb c o T H with | some (v,H')=>aregs tb c l (aput T o.dst v) H' | none=>none:=by
 simp only[aregs,astep]
 cases gOK T o.guard with
 | false=>rfl
 | true=>
  simp only[cond_true]
  cases aop tb T H o.op with
  | none=>rfl
  | some p=>obtain⟨nx,H'⟩:=p; cases nx <;> rfl
theorem wRegs_sound:∀(l:List AOper) {T:Tr AVal} {H:AHeap} {K:Env→AHeap→Prop},wRegs (ACalls P N) l (en T) H K →
  ∃n T' H',aregs (tbA N (tabP P N)) (acall N (tabP P N) n) l T H=some (T',H')∧K (en T') H'
 | [],T,H,K,h=>⟨0,T,H,rfl,h⟩
 | o::l,T,H,K,h=>by
  simp only[wRegs,sG_en]at h
  have:∃n v H',astep (tbA N (tabP P N)) (acall N (tabP P N) n) o T H=some (v,H')∧wRegs (ACalls P N) l (upO (en T) o.dst v) H' K:=by
   cases hg:gOK T o.guard with
   | true=>rw[hg]at h; exact wStep_sound h hg
   | false=>rw[hg]at h; exact⟨0,undefA,H,by simp only[astep,hg,cond_false],h⟩
  obtain⟨n,v,H',h1,h2⟩:=this
  rw[← en_put]at h2
  obtain⟨m,T2,H2,h3,h4⟩:=wRegs_sound l h2
  refine⟨max n m,T2,H2,?_,h4⟩
  rw[aregs_cons,astep_mono (acall_mono (Nat.le_max_left n m)) h1]
  exact aregs_mono (acall_mono (Nat.le_max_right n m)) l h3
theorem wTr_sound:∀(l:List AOper) {T:Tr AVal} {H:AHeap} {K:List (AVal×AHeap)→Env→AHeap→Prop},wTr (ACalls P N) l (en T) H K→∀j,
  ∃n ss,atrace (tbA N (tabP P N)) (acall N (tabP P N) n) l T H=some ss∧K ss (en (tsel (fun _=>true) j l ss T)) (hAt H ss l.length)
 | [],T,H,K,h,j=>⟨0,[],rfl,h⟩
 | o::l,T,H,K,h,j=>by
  simp only[wTr,sG_en]at h
  have:∃n v H',astep (tbA N (tabP P N)) (acall N (tabP P N) n) o T H=some (v,H')∧wTr (ACalls P N) l (upO (en T) o.dst v) H' fun ss=>K ((v,H')::ss):=by
   cases hg:gOK T o.guard with
   | true=>rw[hg]at h; exact wStep_sound h hg
   | false=>rw[hg]at h; exact⟨0,undefA,H,by simp only[astep,hg,cond_false],h⟩
  obtain⟨n,v,H',h1,h2⟩:=this
  rw[← en_put]at h2
  obtain⟨m,ss,h3,h4⟩:=wTr_sound l h2 (j+1)
  refine⟨max n m,(v,H')::ss,?_,?_⟩
  ·simp only[atrace,astep_mono (acall_mono (Nat.le_max_left n m)) h1,atrace_mono (acall_mono (Nat.le_max_right n m)) l h3]
  ·have hl:=(trace_at l _ H' ss 0 h3).1
   have e:hAt H' ss l.length=hAt H ((v,H')::ss) (o::l).length:=by
    simp only[List.length_cons]
    cases hr:l.length with
    | zero=>rfl
    | succ q=>
     simp only[hAt,List.getElem?_cons_succ]
     rw[List.getElem?_eq_getElem om]
   rw[← e]
   exact h4
theorem wCk_sound{tb:FuncId→Bool}{hs:List AHeap}:∀(l:List AOper) (chk:List (List Nat)) (ss:List (AVal×AHeap)) (T:Tr AVal),wCk hs l chk ss (en T)→chkRun tb hs l chk ss T=true
 | [],_,_,_,_=>rfl
 | o::l,[],_,_,_=>rfl
 | o::l,p::ps,[],_,_=>rfl
 | o::l,p::ps,(v,Hv)::ss,T,h=>by
  simp only[wCk]at h
  obtain⟨h1,h2⟩:=h
  simp only[chkRun,Bool.and_eq_true]
  refine⟨List.all_eq_true.2 fun q hq=>?_,wCk_sound l ps ss _ (by rw[en_put]; exact h2)⟩
  obtain⟨Hp,e1,e2⟩:=h1 q hq
  rw[e1]
  simp only
  cases hg:gOK T o.guard with
  | false=>rfl
  | true=>
   obtain⟨u,u1,u2⟩:=e2 (by rw[sG_en]; exact hg)
   simp only[cond_true]
   cases ho:o.op <;> rw[ho]at u1 <;> simp only[wLd,reduceCtorEq,sX_en]at u1
   ·simp only[aop,u1,vv]; exact u2
   ·simp only[aop,u1,vv]; exact u2
theorem inSeq_sound{Q:Post}{K:Env→AHeap→Prop}{e:AEx}{T:Env}{H:AHeap}(h:inSeq Q K e T H):(e=.normal∧K T H)∨(e≠.normal∧Q e T H):=by
 cases e with
 | normal=>exact .inl ⟨rfl,h⟩
 | exit i=>exact .inr ⟨by simp,h⟩
 | ret=>exact .inr ⟨by simp,h⟩
theorem wp_sound:∀(c:ACode) (Q:Post) (T:Tr AVal) (H:AHeap),wp (ACalls P N) c Q (en T) H →
  ∃n e T' H',aexec (tbA N (tabP P N)) (acall N (tabP P N) n) n c T H=some (e,T',H')∧Q e (en T') H':=by
 intro c
 induction c with
 | skip=>intro Q T H h; exact⟨0,_,_,_,rfl,h⟩
 | reg l=>
  intro Q T H h
  obtain⟨n,T',H',h1,h2⟩:=wRegs_sound l h
  exact⟨n,.normal,T',H',by simp only[aexec,h1],h2⟩
 | draw l chk=>
  intro Q T H h
  simp only[wp,wDraw]at h
  obtain⟨n,ss,h1,h2,h3⟩:=wTr_sound (claims H.next l) h 0
  exact⟨n,.normal,_,_,by simp only[aexec,adraw,h1,wCk_sound (claims H.next l) chk ss T h2,cond_true],h3⟩
 | seq a b iha ihb=>
  intro Q T H h
  obtain⟨n,e,T1,H1,h1,h2⟩:=iha _ T H h
  rcases inSeq_sound h2 with⟨rfl,h2⟩ | ⟨hne,h2⟩
  ·obtain⟨m,e2,T2,H2,h3,h4⟩:=ihb _ T1 H1 h2
   refine⟨max n m,e2,T2,H2,?_,h4⟩
   simp only[aexec,aexec_mono (acall_mono (Nat.le_max_left n m)) (Nat.le_max_left n m) a _ _ _ h1]
   exact aexec_mono (acall_mono (Nat.le_max_right n m)) (Nat.le_max_right n m) b _ _ _ h3
  ·refine⟨n,e,T1,H1,?_,h2⟩
   cases e with
   | normal=>exact absurd rfl hne
   | exit i=>simp only[aexec,h1]
   | ret=>simp only[aexec,h1]
 | cond c a b iha ihb=>
  intro Q T H h
  simp only[wp,sX_en]at h
  obtain⟨v,hv,h⟩:=h
  cases v with
  | true=>
   obtain⟨n,e,T1,H1,h1,h2⟩:=iha _ T H h
   exact⟨n,e,T1,H1,by simp only[aexec,hv,h1],h2⟩
  | false=>
   obtain⟨n,e,T1,H1,h1,h2⟩:=ihb _ T H h
   exact⟨n,e,T1,H1,by simp only[aexec,hv,h1],h2⟩
 | block id c ih=>
  intro Q T H h
  obtain⟨n,e,T1,H1,h1,h2⟩:=ih _ T H h
  cases e with
  | exit j=>
   simp only[inBlk]at h2
   cases hb:Nat.beq j id with
   | true=>rw[hb]at h2; exact⟨n,.normal,T1,H1,by simp only[aexec,h1,hb,cond_true],h2⟩
   | false=>rw[hb]at h2; exact⟨n,.exit j,T1,H1,by simp only[aexec,h1,hb,cond_false],h2⟩
  | normal=>exact⟨n,.normal,T1,H1,by simp only[aexec,h1],h2⟩
  | ret=>exact⟨n,.ret,T1,H1,by simp only[aexec,h1],h2⟩
 | loop c ih=>
  intro Q T H h
  simp only[wp]at h
  obtain⟨I,⟨m,hm⟩,hI⟩:=h
  have key:∀(m:Nat) (T:Tr AVal) (H:AHeap),I m (en T) H→∃n e T' H',aexec (tbA N (tabP P N)) (acall N (tabP P N) n) n (.loop c) T H=some (e,T',H')∧Q e (en T') H':=by
   intro m
   induction m using Nat.strongRecOn with
   | ind m ihm=>
    intro T H hi
    obtain⟨n,e,T1,H1,h1,h2⟩:=ih _ T H (hI m _ _ hi)
    rcases inSeq_sound h2 with⟨rfl,m',hm',h2⟩ | ⟨hne,h2⟩
    ·obtain⟨k,e2,T2,H2,h3,h4⟩:=ihm m' hm' T1 H1 h2
     refine⟨max n k+1,e2,T2,H2,?_,h4⟩
     simp only[aexec,aloop]
     rw[aexec_mono (acall_mono (show n≤max n k+1 by omega)) (show n≤max n k+1 by omega) c _ _ _ h1]
     simp only[aexec]at h3
     exact aloop_mono (fun T H r hr=>aexec_mono (acall_mono (show k≤max n k+1 by omega)) (show k≤max n k+1 by omega) c T H r hr) k (max n k) T1 H1 _ (Nat.le_max_right n k) h3
    ·refine⟨n+1,e,T1,H1,?_,h2⟩
     simp only[aexec,aloop]
     rw[aexec_mono (acall_mono (Nat.le_succ n)) (Nat.le_succ n) c _ _ _ h1]
     cases e with
     | normal=>exact absurd rfl hne
     | exit i=>rfl
     | ret=>rfl
  exact key m T H hm
 | exit id=>intro Q T H h; exact⟨0,_,_,_,rfl,h⟩
 | ret=>intro Q T H h; exact⟨0,_,_,_,rfl,h⟩
def argE(args:List AVal):Env:=fun i=>match args[i]? with
 | some v=>v
 | none=>undefA
theorem putArgs_en:∀(args:List AVal) (i:Nat) (T:Tr AVal),en (putArgs args i T)=fun j=>if i≤j then (match args[j-i]? with | some v=>v | none=>en T j) else en T j
 | [],i,T=>by funext j; simp[putArgs]
 | x::r,i,T=>by
  rw[putArgs,putArgs_en r (i+1),en_set]
  funext j
  by_cases h:i+1≤j
  ·rw[if_pos h,if_pos om,show j-i=(j-(i+1))+1 by omega]
   simp only[List.getElem?_cons_succ]
   split
   ·rfl
   ·have hb:Nat.beq j i=false:=by rw[beq_dec]; exact decide_eq_false om
    simp only[up,hb,cond_false]
  ·rw[if_neg h]
   by_cases e:i=j
   ·subst e
    simp[up]
   ·rw[if_neg om]
    have hb:Nat.beq j i=false:=by rw[beq_dec]; exact decide_eq_false om
    simp only[up,hb,cond_false]
theorem putArgs_e(args:List AVal):en (putArgs args 0 .e)=argE args:=by
 rw[putArgs_en]
 funext j
 simp only[Nat.zero_le,if_true,Nat.sub_zero,argE]
 split
 ·rfl
 ·rfl
def wRes(T:Env)(H:AHeap):List ARes→Option (List AVal)
 | []=>some []
 | .t i::r=>match wRes T H r with
  | some l=>some (T i::l)
  | none=>none
 | .cell g n i::r=>match oLoad g n H (T i),wRes T H r with
  | some x,some l=>some (x::l)
  | _,_=>none
theorem wRes_en(T:Tr AVal)(H:AHeap):∀l:List ARes,wRes (en T) H l=ares T H l
 | []=>rfl
 | .t i::r=>by simp only[wRes,ares,wRes_en T H r]; rfl
 | .cell g n i::r=>by simp only[wRes,ares,wRes_en T H r]; rfl
def fin(res:List ARes)(K:AVal→AHeap→Prop):Post:=fun e T H=>match e with
 | .exit _=>False
 | _=>OptP (wRes T H res) fun l=>K (aresV l) H
theorem acalls_of{f:FuncId}{c:AFn}{args:List AVal}{H:AHeap}{K:AVal→AHeap→Prop}(hn:N.is f=false)(hc:eFn P (N.md (f % BIG)) f=some c)(hl:Nat.ble args.length c.nt=true)(h:wp (ACalls P N) c.body (fin c.res K) (argE args) H):ACalls P N f args H K:=by
 rw[← putArgs_e]at h
 obtain⟨n,e,T',H',h1,h2⟩:=wp_sound _ _ _ _ h
 have:∃l,ares T' H' c.res=some l∧K (aresV l) H'∧∀i,e≠.exit i:=by
  cases e with
  | exit i=>exact h2.elim
  | normal=>obtain⟨l,q1,q2⟩:=h2; rw[wRes_en]at q1; exact⟨l,q1,q2,fun i=>by simp⟩
  | ret=>obtain⟨l,q1,q2⟩:=h2; rw[wRes_en]at q1; exact⟨l,q1,q2,fun i=>by simp⟩
 obtain⟨l,q1,q2,q3⟩:=this
 refine⟨n+1,aresV l,H',?_,q2⟩
 rw[acall,hn,tabP_get hc]
 simp only[cond_false,hl,cond_true,h1]
 cases e with
 | exit i=>exact absurd rfl (q3 i)
 | normal=>simp only[q1]
 | ret=>simp only[q1]
end
end Go.Abs.S
namespace Go.Abs.S
open Go.Abs
end Go.Abs.S
namespace Go.Abs.S
open Go.Abs
theorem up_same(T:Env)(i:Nat)(v:AVal):up T i v i=v:=by simp[up]
theorem up_ne(T:Env)(i j:Nat)(v:AVal)(h:j≠i):up T i v j=T j:=by
 have:Nat.beq j i=false:=by rw[beq_dec]; exact decide_eq_false h
 simp[up,this]
theorem push_next(H:AHeap)(o:AObj):(H.push o).next=H.next+1:=rfl
theorem set_next(H:AHeap)(b:Nat)(o:AObj):(H.set b o).next=H.next:=rfl
def nilS:AVal:=.slice none 0 (.known 0)
theorem rd_at{H:AHeap}{a:Ad}{n i:Nat}{xs:List AVal}(h:rdCells H a n=some xs)(hi:i<n):∃x,xs[i]?=some x∧rdCells H ⟨a.b,a.lim,a.o+i⟩ 1=some [x]:=by
 obtain⟨l,low,ro,_,h1,h2,h3,h4,rfl⟩:=rd_spec h
 have hlt:a.o+i<l.length:=om
 refine⟨l[a.o+i],?_,?_⟩
 ·rw[List.getElem?_take_of_lt hi,List.getElem?_drop,List.getElem?_eq_getElem hlt]
 ·unfold rdCells
  simp only[h1,Nat.ble_eq_true_of_le h2,Nat.ble_eq_true_of_le h3,Nat.ble_eq_true_of_le (show a.o+i+1≤a.lim by omega),Bool.and_self,cond_true]
  rw[List.drop_eq_getElem_cons hlt]
  rfl
theorem rd_whole{H:AHeap}{b low:Nat}{l:List AVal}{ro:Bool}(h:H.get b=some (.cells l low ro))(hl:low≤l.length):rdCells H ⟨b,l.length,0⟩ l.length=some l:=by
 unfold rdCells
 simp only[h,Nat.ble_eq_true_of_le hl,Nat.ble_eq_true_of_le rL,Nat.zero_add,Bool.and_self,cond_true,List.drop_zero,List.take_length]
def cellR(b n i:Nat):AVal:=.ptr (some ⟨b,n,i⟩)
def Row(H:AHeap)(b:Nat)(l:List AVal):Prop:=∃low,H.get b=some (.cells l low false)∧low≤l.length
theorem row_load{H:AHeap}{b n:Nat}{l:List AVal}(h:Row H b l)(hn:l.length=n){i:Nat}{x:AVal}(hi:l[i]?=some x):oLoad false 1 H (cellR b n i)=some x:=by
 subst hn
 obtain⟨low,h1,h2⟩:=h
 have hlt:=(List.getElem?_eq_some_iff.1 hi).1
 obtain⟨y,h4,h5⟩:=rd_at (rd_whole h1 h2) hlt
 rw[hi]at h4
 simp only[sJ]at h4
 subst h4
 simp only[Nat.zero_add]at h5
 simp only[oLoad,cellR,h5,cond_false]
end Go.Abs.S
namespace Go.Abs.S
open Go.Abs
section
variable {C:CS} {Q:Post} {T:Env} {H:AHeap} {K:Env→AHeap→Prop} {r:List AOper} {d:Option Nat}
theorem aw_skip:wp C .skip Q T H=Q .normal T H:=_root_.id rfl
theorem aw_reg(ops:List AOper):wp C (.reg ops) Q T H=wRegs C ops T H (Q .normal):=_root_.id rfl
theorem aw_seq(a b:ACode):wp C (.seq a b) Q T H=wp C a (inSeq Q (wp C b Q)) T H:=_root_.id rfl
open Classical in
theorem aw_cond(c:Opd)(a b:ACode):wp C (.cond c a b) Q T H=if sX T c=.bool true then wp C a Q T H else if sX T c=.bool false then wp C b Q T H else False:=by
 simp only[wp]
 by_cases h:sX T c=.bool true
 ·rw[if_pos h,h]; simp
 ·rw[if_neg h]
  by_cases h':sX T c=.bool false
  ·rw[if_pos h',h']; simp
  ·rw[if_neg h']
   simp only[eq_iff_iff,iff_false,not_exists,not_and]
   intro v hv
   cases v
   ·exact absurd hv h'
   ·exact absurd hv h
theorem aw_block(id:Nat)(c:ACode):wp C (.block id c) Q T H=wp C c (inBlk id Q) T H:=_root_.id rfl
theorem aw_exit(id:Nat):wp C (.exit id) Q T H=Q (.exit id) T H:=_root_.id rfl
theorem aw_ret:wp C .ret Q T H=Q .ret T H:=_root_.id rfl
theorem inSeq_normal:inSeq Q K .normal T H=K T H:=_root_.id rfl
theorem inSeq_exit(i:Nat):inSeq Q K (.exit i) T H=Q (.exit i) T H:=_root_.id rfl
theorem inSeq_ret:inSeq Q K .ret T H=Q .ret T H:=_root_.id rfl
theorem inBlk_exit(id i:Nat):inBlk id Q (.exit i) T H=if i=id then Q .normal T H else Q (.exit i) T H:=by
 simp only[inBlk]
 by_cases h:i=id
 ·subst h; rw[if_pos rfl,Nat.beq_refl]; rfl
 ·rw[if_neg h,show Nat.beq i id=false by rw[beq_dec]; exact decide_eq_false h]; rfl
theorem inBlk_normal(id:Nat):inBlk id Q .normal T H=Q .normal T H:=_root_.id rfl
theorem inBlk_ret(id:Nat):inBlk id Q .ret T H=Q .ret T H:=_root_.id rfl
theorem aw_loop{c:ACode}(I:Nat→Env→AHeap→Prop)(m:Nat)(h0:I m T H)(h:∀m T H,I m T H→wp C c (inSeq Q fun T' H'=>∃m',m'<m∧I m' T' H') T H):wp C (.loop c) Q T H:=⟨I,⟨m,h0⟩,h⟩
def OptK(o:Option AVal)(C:CS)(r:List AOper)(T:Env)(d:Option Nat)(H:AHeap)(K:Env→AHeap→Prop):Prop:=OptP o fun v=>wRegs C r (upO T d v) H K
def OptH(o:Option (AVal×AHeap))(C:CS)(r:List AOper)(T:Env)(d:Option Nat)(K:Env→AHeap→Prop):Prop:=OptP o fun p=>wRegs C r (upO T d p.1) p.2 K
def OptS(o:Option AHeap)(C:CS)(r:List AOper)(T:Env)(d:Option Nat)(K:Env→AHeap→Prop):Prop:=OptP o fun H'=>wRegs C r (upO T d undefA) H' K
def kont(C:CS)(r:List AOper)(T:Env)(d:Option Nat)(K:Env→AHeap→Prop):AVal→AHeap→Prop:=fun v H'=>wRegs C r (upO T d v) H' K
theorem OptK_some(v:AVal):OptK (some v) C r T d H K=wRegs C r (upO T d v) H K:=OptP_some _ _
theorem OptH_some(v:AVal)(H':AHeap):OptH (some (v,H')) C r T d K=wRegs C r (upO T d v) H' K:=OptP_some _ _
theorem OptS_some(H':AHeap):OptS (some H') C r T d K=wRegs C r (upO T d undefA) H' K:=OptP_some _ _
theorem kont_app(v:AVal):kont C r T d K v H=wRegs C r (upO T d v) H K:=_root_.id rfl
theorem ar_nil:wRegs C [] T H K=K T H:=_root_.id rfl
open Classical in
theorem ar_guard(o:AOp)(t:Nat)(b:Bool)(ht:t<1000000):wRegs C (⟨d,o,some (t,b)⟩::r) T H K=if T t=.bool b then wRegs C (⟨d,o,none⟩::r) T H K else wRegs C r (upO T d undefA) H K:=by
 simp only[wRegs,sG_lt T ht]
 by_cases h:T t=.bool b
 ·rw[if_pos h,h]; cases b <;> rfl
 ·rw[if_neg h]
  have:sGv b (T t)=false:=by
   unfold sGv
   cases hv:T t <;> simp only[gVb]
   rename_i v
   rw[hv]at h
   cases b <;> cases v <;> simp at h ⊢
  rw[this]; rfl
theorem ar_mv(x:Opd):wRegs C (⟨d,.mv x,none⟩::r) T H K=wRegs C r (upO T d (sX T x)) H K:=_root_.id rfl
open Classical in
theorem ar_pick(c a b:Opd):wRegs C (⟨d,.pick c a b,none⟩::r) T H K=if sX T c=.bool true then wRegs C r (upO T d (sX T a)) H K else if sX T c=.bool false then wRegs C r (upO T d (sX T b)) H K else False:=by
 simp only[wRegs,sG,wOp,cond_true]
 by_cases h:sX T c=.bool true
 ·rw[if_pos h,h]; simp
 ·rw[if_neg h]
  by_cases h':sX T c=.bool false
  ·rw[if_pos h',h']; simp
  ·rw[if_neg h']
   simp only[eq_iff_iff,iff_false,not_exists,not_and]
   intro v hv
   cases v
   ·exact absurd hv h'
   ·exact absurd hv h
theorem ar_new(z:List AVal):wRegs C (⟨d,.new z,none⟩::r) T H K=wRegs C r (upO T d (oNew H z).1) (oNew H z).2 K:=_root_.id rfl
theorem ar_box(x:Opd):wRegs C (⟨d,.box x,none⟩::r) T H K=wRegs C r (upO T d (oNew H (sX T x).cells).1) (oNew H (sX T x).cells).2 K:=_root_.id rfl
theorem ar_build(z:List AVal)(ps:List (Nat×Nat×Opd)):wRegs C (⟨d,.build z ps,none⟩::r) T H K=OptK (aBuild z (sXP T ps)) C r T d H K:=_root_.id rfl
theorem ar_buildSl(n:Nat)(z:List AVal)(ps:List (Nat×Nat×Opd)):wRegs C (⟨d,.buildSl n z ps,none⟩::r) T H K=OptH (aBuildSl n z H (sXP T ps)) C r T d K:=_root_.id rfl
theorem ar_load(a:Bool)(n:Nat)(x:Opd):wRegs C (⟨d,.load a n x,none⟩::r) T H K=OptK (oLoad a n H (sX T x)) C r T d H K:=_root_.id rfl
theorem ar_store(n:Nat)(a x:Opd):wRegs C (⟨d,.store n a x,none⟩::r) T H K=OptS (oStore n H (sX T a) (sX T x)) C r T d K:=_root_.id rfl
theorem ar_nilChk(x:Opd):wRegs C (⟨d,.nilChk x,none⟩::r) T H K=OptK (aNilChk (sX T x)) C r T d H K:=_root_.id rfl
theorem ar_bin(op:BinOp)(x y:Opd):wRegs C (⟨d,.bin op x y,none⟩::r) T H K=OptK (aBin op (sX T x) (sX T y)) C r T d H K:=_root_.id rfl
theorem ar_un(op:UnOp)(x:Opd):wRegs C (⟨d,.un op x,none⟩::r) T H K=OptK (aUn op (sX T x)) C r T d H K:=_root_.id rfl
theorem ar_conv(k:IntKind)(x:Opd):wRegs C (⟨d,.conv k x,none⟩::r) T H K=OptK (aConv k (sX T x)) C r T d H K:=_root_.id rfl
theorem ar_convSB(x:Opd):wRegs C (⟨d,.convSB x,none⟩::r) T H K=OptH (aSB H (sX T x)) C r T d K:=_root_.id rfl
theorem ar_convBS(x:Opd):wRegs C (⟨d,.convBS x,none⟩::r) T H K=OptK (aBS H (sX T x)) C r T d H K:=_root_.id rfl
theorem ar_mkFunc(fn:Fn)(a b:List Opd):wRegs C (⟨d,.mkFunc fn a b,none⟩::r) T H K=wRegs C r (upO T d (.func fn (sXs T a) (sXs T b))) H K:=_root_.id rfl
theorem ar_mkIface(t:TypeId)(x:Opd):wRegs C (⟨d,.mkIface t x,none⟩::r) T H K=wRegs C r (upO T d (.iface t (sX T x))) H K:=_root_.id rfl
theorem ar_mkSlice(b:Nat)(z:List AVal)(l c:Opd):wRegs C (⟨d,.mkSlice b z l c,none⟩::r) T H K=OptH (aMake b z H (sX T l) (sX T c)) C r T d K:=_root_.id rfl
theorem ar_sl(n:Nat)(x:Opd)(lo hi mx:Option Opd):wRegs C (⟨d,.sl n x lo hi mx,none⟩::r) T H K=OptK (aSl n (sX T x) (sXO T lo) (sXO T hi) (sXO T mx)) C r T d H K:=_root_.id rfl
theorem ar_slStr(x:Opd)(lo hi:Option Opd):wRegs C (⟨d,.slStr x lo hi,none⟩::r) T H K=OptK (aSlStr (sX T x) (sXO T lo) (sXO T hi)) C r T d H K:=_root_.id rfl
theorem ar_fieldA(o:Nat)(x:Opd):wRegs C (⟨d,.fieldA o x,none⟩::r) T H K=OptK (aField o (sX T x)) C r T d H K:=_root_.id rfl
theorem ar_field(a:Bool)(n o:Nat)(x:Opd):wRegs C (⟨d,.field a n o x,none⟩::r) T H K=OptK (aFieldV a n o (sX T x)) C r T d H K:=_root_.id rfl
theorem ar_idxA(n:Nat)(x i:Opd):wRegs C (⟨d,.idxA n x i,none⟩::r) T H K=OptK (aIdxA n (sX T x) (sX T i)) C r T d H K:=_root_.id rfl
theorem ar_idxArr(m n:Nat)(x i:Opd):wRegs C (⟨d,.idxArr m n x i,none⟩::r) T H K=OptK (aIdxArr m n (sX T x) (sX T i)) C r T d H K:=_root_.id rfl
theorem ar_idx(m n:Nat)(a:Bool)(x i:Opd):wRegs C (⟨d,.idx m n a x i,none⟩::r) T H K=OptK (aIdx m n a (sX T x) (sX T i)) C r T d H K:=_root_.id rfl
theorem ar_idxS(x i:Opd):wRegs C (⟨d,.idxS x i,none⟩::r) T H K=OptK (aIdxS (sX T x) (sX T i)) C r T d H K:=_root_.id rfl
theorem ar_extract(i:Nat)(x:Opd):wRegs C (⟨d,.extract i x,none⟩::r) T H K=OptK (aExtract i (sX T x)) C r T d H K:=_root_.id rfl
theorem ar_append(n b:Nat)(s x:Opd):wRegs C (⟨d,.append n b s x,none⟩::r) T H K=OptH (aAppend n b H (sX T s) (sX T x)) C r T d K:=_root_.id rfl
theorem ar_len(s:Bool)(x:Opd):wRegs C (⟨d,.len s x,none⟩::r) T H K=OptK (aLenK s (sX T x)) C r T d H K:=_root_.id rfl
theorem ar_call(f:FuncId)(args:List Opd):wRegs C (⟨d,.call f args,none⟩::r) T H K=C f (sXs T args) H (kont C r T d K):=_root_.id rfl
def callvP(C:CS)(f:AVal)(args:List AVal)(H:AHeap)(K:AVal→AHeap→Prop):Prop:=∃g a b,f=.func (.func g) a b∧Nat.blt g BIG=true∧C g (a++args++b) H K
theorem callvP_func(g:Nat)(a b args:List AVal)(K:AVal→AHeap→Prop)(hg:g<1024):callvP C (.func (.func g) a b) args H K=C g (a++args++b) H K:=by
 simp only[callvP,AVal.func.injEq,Fn.func.injEq]
 apply propext
 constructor
 ·rintro ⟨g,a,b,⟨rfl,rfl,rfl⟩,_,h⟩; exact h
 ·intro h; exact⟨_,_,_,⟨rfl,rfl,rfl⟩,Nat.ble_eq_true_of_le hg,h⟩
theorem ar_callv(f:Opd)(args:List Opd):wRegs C (⟨d,.callv f args,none⟩::r) T H K=callvP C (sX T f) (sXs T args) H (kont C r T d K):=_root_.id rfl
theorem ar_pf(f:PF)(xs:List Opd):wRegs C (⟨d,.pf f xs,none⟩::r) T H K=OptK (aPf f (sXs T xs)) C r T d H K:=_root_.id rfl
theorem ar_hf(f:HF)(xs:List Opd):wRegs C (⟨d,.hf f xs,none⟩::r) T H K=OptH (aHf f H (sXs T xs)) C r T d K:=_root_.id rfl
theorem ar_slA(m n:Nat)(x:Opd)(lo hi mx:Option Opd):wRegs C (⟨d,.slA m n x lo hi mx,none⟩::r) T H K=OptK (aSlArr m n (sX T x) (sXO T lo) (sXO T hi) (sXO T mx)) C r T d H K:=_root_.id rfl
theorem upO_some(i:Nat)(v:AVal):upO T (some i) v=up T i v:=_root_.id rfl
theorem upO_none(v:AVal):upO T none v=T:=_root_.id rfl
theorem sX_t(i:Nat):sX T (.t i)=T i:=_root_.id rfl
theorem sX_c(v:AVal):sX T (.c v)=v:=_root_.id rfl
theorem sX_f(i:Nat):sX T (.f i)=.func (.func i) [] []:=_root_.id rfl
theorem fin_t(i:Nat)(K:AVal→AHeap→Prop):fin [.t i] K .ret T H=K (T i) H:=by
 simp only[fin,wRes,OptP_some]; rfl
theorem fin_t2(i j:Nat)(K:AVal→AHeap→Prop):fin [.t i,.t j] K .ret T H=K (.tuple [T i,T j]) H:=by
 simp only[fin,wRes,OptP_some]; rfl
theorem fin_t3(i j k:Nat)(K:AVal→AHeap→Prop):fin [.t i,.t j,.t k] K .ret T H=K (.tuple [T i,T j,T k]) H:=by
 simp only[fin,wRes,OptP_some]; rfl
def CMono(C:CS):Prop:=∀f a H (K K':AVal→AHeap→Prop),(∀v H,K v H→K' v H)→C f a H K→C f a H K'
theorem calls_mono(P:Program)(N:ANat):CMono (ACalls P N):=fun _ _ _ _ _ h hc=>hc.mono h
theorem wOp_mono(hC:CMono C){K K':AVal→AHeap→Prop}(h:∀v H,K v H→K' v H){o:AOp}(hw:wOp C T H K o):wOp C T H K' o:=by
 cases o
 case call f args=>exact hC _ _ _ _ _ h hw
 case callv f args=>obtain⟨g,a,b,h1,h0,h2⟩:=hw; exact⟨g,a,b,h1,h0,hC _ _ _ _ _ h h2⟩
 case pick c a b=>obtain⟨v,h1,h2⟩:=hw; exact⟨v,h1,h _ _ h2⟩
 case bad=>exact hw
 all_goals first
  | exact h _ _ hw
  | exact OptP.mono hw fun v hv=>h _ _ hv
theorem wTr_regs(hC:CMono C):∀(l:List AOper) {T:Env} {H:AHeap} {K:List (AVal×AHeap)→Env→AHeap→Prop} {K':Env→AHeap→Prop},(∀ss T H,K' T H→K ss T H)→wRegs C l T H K'→wTr C l T H K:=by
 intro l
 induction l with
 | nil=>intro T H K K' h hw; exact h _ _ _ hw
 | cons o l ih=>
  intro T H K K' h hw
  simp only[wRegs,wTr]at hw ⊢
  cases hg:sG T o.guard with
  | false=>rw[hg]at hw; exact ih (fun ss T H=>h _ T H) hw
  | true=>
   rw[hg]at hw
   simp only[cond_true]at hw ⊢
   exact wOp_mono hC (fun v H' hw=>ih (fun ss T H=>h _ T H) hw) hw
def allNil:List (List Nat)→Bool
 | []=>true
 | []::r=>allNil r
 | _::_=>false
theorem ck_nil{hs:List AHeap}:∀(l:List AOper) (ps:List (List Nat)) (ss:List (AVal×AHeap)) (T:Env),allNil ps=true→wCk hs l ps ss T
 | [],_,_,_,_=>trivial
 | o::l,[],_,_,_=>trivial
 | o::l,[]::ps,[],_,_=>trivial
 | o::l,[]::ps,(v,Hv)::ss,T,h=>⟨fun p hp=>by simp at hp,ck_nil l ps ss _ h⟩
 | o::l,(q::p)::ps,_,_,h=>by simp[allNil]at h
def noNew:List AOper→Bool
 | []=>true
 | o::r=>match newOf o.op with
  | some _=>false
  | none=>noNew r
theorem claims_noNew:∀(l:List AOper),noNew l=true→∀(b:Nat) (H:AHeap),claims b l=l∧reserves H l=H
 | [],_,b,H=>⟨rfl,rfl⟩
 | o::r,h,b,H=>by
  cases hz:newOf o.op with
  | some p=>simp[noNew,hz]at h
  | none=>
   simp only[noNew,hz]at h
   exact⟨by simp only[claims,hz,(claims_noNew r h b H).1],by simp only[reserves,hz,(claims_noNew r h b H).2]⟩
theorem wTr_mono(hC:CMono C):∀(l:List AOper) {T:Env} {H:AHeap} {K K':List (AVal×AHeap)→Env→AHeap→Prop},(∀ss T H,K ss T H→K' ss T H)→wTr C l T H K→wTr C l T H K':=by
 intro l
 induction l with
 | nil=>intro T H K K' h hw; exact h _ _ _ hw
 | cons o l ih=>
  intro T H K K' h hw
  simp only[wTr]at hw ⊢
  cases hg:sG T o.guard with
  | false=>rw[hg]at hw; exact ih (fun ss T H=>h _ T H) hw
  | true=>
   rw[hg]at hw
   simp only[cond_true]at hw ⊢
   exact wOp_mono hC (fun v H' hw=>ih (fun ss T H=>h _ T H) hw) hw
theorem wRegs_mono(hC:CMono C):∀(l:List AOper) {T:Env} {H:AHeap} {K K':Env→AHeap→Prop},(∀T H,K T H→K' T H)→wRegs C l T H K→wRegs C l T H K':=by
 intro l
 induction l with
 | nil=>intro T H K K' h hw; exact h _ _ hw
 | cons o l ih=>
  intro T H K K' h hw
  simp only[wRegs]at hw ⊢
  cases hg:sG T o.guard with
  | false=>rw[hg]at hw; exact ih h hw
  | true=>
   rw[hg]at hw
   simp only[cond_true]at hw ⊢
   exact wOp_mono hC (fun v H' hw=>ih h hw) hw
theorem inSeq_mono{Q Q':Post}{K K':Env→AHeap→Prop}(h:∀e T H,Q e T H→Q' e T H)(hk:∀T H,K T H→K' T H)(e:AEx)(T:Env)(H:AHeap)(hq:inSeq Q K e T H):inSeq Q' K' e T H:=by
 cases e with
 | normal=>exact hk _ _ hq
 | exit i=>exact h _ _ _ hq
 | ret=>exact h _ _ _ hq
theorem wp_mono'(hC:CMono C):∀(c:ACode) {Q Q':Post} {T:Env} {H:AHeap},(∀e T H,Q e T H→Q' e T H)→wp C c Q T H→wp C c Q' T H:=by
 intro c
 induction c with
 | skip=>intro Q Q' T H h hw; exact h _ _ _ hw
 | reg l=>intro Q Q' T H h hw; exact wRegs_mono hC l (h .normal) hw
 | draw l chk=>intro Q Q' T H h hw; exact wTr_mono hC _ (fun ss T' H' hk=>⟨hk.1,h _ _ _ hk.2⟩) hw
 | seq a b iha ihb=>intro Q Q' T H h hw; exact iha (inSeq_mono h fun T H hk=>ihb h hk) hw
 | cond c a b iha ihb=>
  intro Q Q' T H h hw
  obtain⟨v,h1,h2⟩:=hw
  refine⟨v,h1,?_⟩
  cases v with
  | true=>exact iha h h2
  | false=>exact ihb h h2
 | block id c ih=>
  intro Q Q' T H h hw
  refine ih (fun e T H hk=>?_) hw
  cases e with
  | exit j=>
   simp only[inBlk]at hk ⊢
   cases hb:Nat.beq j id with
   | true=>rw[hb]at hk; exact h _ _ _ hk
   | false=>rw[hb]at hk; exact h _ _ _ hk
  | normal=>exact h _ _ _ hk
  | ret=>exact h _ _ _ hk
 | loop c ih=>
  intro Q Q' T H h hw
  obtain⟨I,hm,hI⟩:=hw
  exact⟨I,hm,fun m T H hi=>ih (inSeq_mono h fun _ _ hk=>hk) (hI m T H hi)⟩
 | exit id=>intro Q Q' T H h hw; exact h _ _ _ hw
 | ret=>intro Q Q' T H h hw; exact h _ _ _ hw
def norm:ACode→ACode
 | .draw l chk=>bif allNil chk&&noNew l then .reg l else .draw l chk
 | .seq a b=>.seq (norm a) (norm b)
 | .cond c a b=>.cond c (norm a) (norm b)
 | .block id c=>.block id (norm c)
 | .loop c=>.loop (norm c)
 | c=>c
theorem wp_norm(hC:CMono C):∀(c:ACode) {Q:Post} {T:Env} {H:AHeap},wp C (norm c) Q T H→wp C c Q T H:=by
 intro c
 induction c with
 | skip=>intro Q T H hw; exact hw
 | reg l=>intro Q T H hw; exact hw
 | draw l chk=>
  intro Q T H hw
  simp only[norm]at hw
  cases hb:allNil chk&&noNew l with
  | false=>rw[hb]at hw; exact hw
  | true=>
   rw[hb]at hw
   simp only[Bool.and_eq_true]at hb
   simp only[wp,wDraw,(claims_noNew l hb.2 H.next H).1,(claims_noNew l hb.2 H.next H).2]
   exact wTr_regs hC l (K:=fun ss T' H'=>wCk (H::ss.map (·.2)) l chk ss T∧Q .normal T' H') (fun ss T' H' hk=>⟨ck_nil l chk ss T hb.1,hk⟩) hw
 | seq a b iha ihb=>intro Q T H hw; exact wp_mono' hC a (inSeq_mono (fun _ _ _ h=>h) fun T H hk=>ihb hk) (iha hw)
 | cond c a b iha ihb=>
  intro Q T H hw
  obtain⟨v,h1,h2⟩:=hw
  refine⟨v,h1,?_⟩
  cases v with
  | true=>exact iha h2
  | false=>exact ihb h2
 | block id c ih=>intro Q T H hw; exact ih hw
 | loop c ih=>
  intro Q T H hw
  obtain⟨I,hm,hI⟩:=hw
  exact⟨I,hm,fun m T H hi=>ih (hI m T H hi)⟩
 | exit id=>intro Q T H hw; exact hw
 | ret=>intro Q T H hw; exact hw
def cN(P:Program)(f:FuncId):Option AFn:=match cFn P f with
 | some c=>some ⟨c.nt,norm c.body,c.res⟩
 | none=>none
theorem acalls_ofN{P:Program}{N:ANat}{f:FuncId}{c:AFn}{args:List AVal}{H:AHeap}{K:AVal→AHeap→Prop}(hn:N.is f=false)(hc:cN P f=some c)(hl:Nat.ble args.length c.nt=true)(h:wp (ACalls P N) c.body (fin c.res K) (argE args) H)(hm:N.md f=none:=by rfl)(hfb:Nat.blt f BIG=true:=by rfl):ACalls P N f args H K:=by
 unfold cN at hc
 cases hf:cFn P f with
 | none=>rw[hf]at hc; simp at hc
 | some c'=>
  rw[hf]at hc
  simp only[sJ]at hc
  subst hc
  exact acalls_of hn (eFn_plain hf hm hfb) hl (wp_norm (calls_mono P N) _ h)
end
theorem argE_0(a:AVal)(r:List AVal):argE (a::r) 0=a:=_root_.id rfl
theorem argE_1(a b:AVal)(r:List AVal):argE (a::b::r) 1=b:=_root_.id rfl
theorem argE_2(a b c:AVal)(r:List AVal):argE (a::b::c::r) 2=c:=_root_.id rfl
theorem argE_3(a b c d:AVal)(r:List AVal):argE (a::b::c::d::r) 3=d:=_root_.id rfl
theorem argE_4(a b c d e:AVal)(r:List AVal):argE (a::b::c::d::e::r) 4=e:=_root_.id rfl
theorem bin_lss(k:IntKind)(a b:Int):aBin .lss (.int k a) (.int k b)=some (.bool (decide (a<b))):=by
 simp[aBin,isShift,aIntF_eq,aInt]
theorem bin_leq(k:IntKind)(a b:Int):aBin .leq (.int k a) (.int k b)=some (.bool (decide (a≤b))):=by
 simp[aBin,isShift,aIntF_eq,aInt]
theorem bin_gtr(k:IntKind)(a b:Int):aBin .gtr (.int k a) (.int k b)=some (.bool (decide (b<a))):=by
 simp[aBin,isShift,aIntF_eq,aInt]
theorem bin_geq(k:IntKind)(a b:Int):aBin .geq (.int k a) (.int k b)=some (.bool (decide (b≤a))):=by
 simp[aBin,isShift,aIntF_eq,aInt]
theorem bin_eql(k:IntKind)(a b:Int):aBin .eql (.int k a) (.int k b)=some (.bool (decide (a=b))):=by
 simp only[aBin,isShift,aIntF_eq,aInt,cond_false,if_true]
 by_cases h:a=b <;> simp[h]
theorem bin_neq(k:IntKind)(a b:Int):aBin .neq (.int k a) (.int k b)=some (.bool (!decide (a=b))):=by
 simp only[aBin,isShift,aIntF_eq,aInt,cond_false,if_true]
 by_cases h:a=b <;> simp[h,bne]
theorem bin_add(k:IntKind)(a b:Int):aBin .add (.int k a) (.int k b)=some (.int k (k.wrap (a+b))):=by
 simp[aBin,isShift,aIntF_eq,aInt]
theorem bin_sub(k:IntKind)(a b:Int):aBin .sub (.int k a) (.int k b)=some (.int k (k.wrap (a-b))):=by
 simp[aBin,isShift,aIntF_eq,aInt]
theorem bin_mul(k:IntKind)(a b:Int):aBin .mul (.int k a) (.int k b)=some (.int k (k.wrap (a*b))):=by
 simp[aBin,isShift,aIntF_eq,aInt]
end Go.Abs.S
namespace Go.Abs
section
variable {P:Program} {Prot:Gh} {w0:World} {ρ:Pl} {H:AHeap} {w:World}
theorem Rel.keep(R:Rel Prot w0 ρ H w){w':World}(hb:RowKit.Below w.heap.size w w'):Rel Prot w0 ρ H w':=by
 refine⟨hb.os.trans R.os,hb.tape.trans R.tape,hb.output.trans R.output,Nat.le_trans R.size hb.size,fun c hc=>?_,fun b l L h=>?_,fun b l L h=>?_,R.free,R.inj,R.dead,R.glob⟩
 ·obtain⟨h1,h2⟩:=R.prot c hc
  exact⟨h1,(hb.block c (Nat.lt_of_lt_of_le h1 R.size)).trans h2⟩
 ·obtain⟨h1,h2⟩:=R.dom b l L h
  exact⟨h1,Nat.lt_of_lt_of_le h2 hb.size⟩
 ·obtain⟨x,o,h1,h2,h3⟩:=R.obj b l L h
  exact⟨x,o,h1,(hb.block _ (R.dom b l L h).2).trans h2,h3⟩
end
end Go.Abs
namespace Go.Abs.S
open Go.Abs
section
variable {C:CS} {T:Env} {H:AHeap} {r:List AOper} {d:Option Nat}
abbrev KT:=List (AVal×AHeap)→Env→AHeap→Prop
variable {K:KT}
open Classical in
open Classical in
end
end Go.Abs.S
namespace Go.Abs.S
open Go.Abs
end Go.Abs.S
namespace Go.Abs.S
open Go.Abs Go.WideShapes Go.ChangeShapes
variable {H:Type} {enc:TypeId×Value→H}
end Go.Abs.S
namespace Go.Abs.S
open Go.Abs
end Go.Abs.S
namespace Go.Abs.S
open Go.Abs
theorem str_len(s:List UInt8):aLenK true (.str s)=some (.int .i64 (s.length:Int)):=_root_.id rfl
theorem str_eql(x y:List UInt8):aBin .eql (.str x) (.str y)=some (.bool (decide (x=y))):=by
 simp only[aBin,aStr]
 by_cases h:x=y <;> simp[h]
theorem str_neq(x y:List UInt8):aBin .neq (.str x) (.str y)=some (.bool (!decide (x=y))):=by
 simp only[aBin,aStr]
 by_cases h:x=y <;> simp[h]
theorem conv_in(k k':IntKind)(n:Int):aConv k (.int k' n)=some (.int k (k.wrap n)):=by
 simp only[aConv,wrF_eq]
theorem un_not(b:Bool):aUn .not (.bool b)=some (.bool (!b)):=_root_.id rfl
theorem undef_bool(b:Bool):(undefA=AVal.bool b)=False:=by simp[undefA]
end Go.Abs.S
namespace Go.Abs.S
open Go.Abs
theorem pf_min(a b:Int):aPf (.mm false) [.int .i64 a,.int .i64 b]=some (.int .i64 (if b<a then b else a)):=by
 simp only[aPf,aMMs,aMM,aMM1,ltF_eq,cond_false]
 by_cases h:b<a <;> simp[h]
end Go.Abs.S
namespace Go.Abs.S
open Go.Abs
theorem rep_one(z:AVal):∀k,rep [z] k=List.replicate k z
 | 0=>rfl
 | k+1=>by simp only[rep,rep_one z k,List.replicate_succ]; rfl
end Go.Abs.S
namespace Go.Abs.S
open Go.Abs
end Go.Abs.S
namespace Go.Abs.S
open Go.Abs Go.WideShapes Go.ChangeShapes
variable {H:Type} {enc:TypeId×Value→H}
end Go.Abs.S
namespace Go.Abs.S
open Go.Abs Go.WideShapes Go.ChangeShapes
variable {H:Type} {enc:TypeId×Value→H}
end Go.Abs.S
namespace Go.Abs.S
open Go.Abs Go.WideShapes Go.ChangeShapes
variable {H:Type} {enc:TypeId×Value→H}
end Go.Abs.S
namespace Go.Abs.S
open Go.Abs
def oneM(H:AHeap)(m:Nat):AVal:=.slice (some ⟨H.next,m,0⟩) 1 (.known 1)
theorem srcM{m:Nat}{xs:List AVal}(H:AHeap)(hx:xs.length=m):aSrc m (H.push (.cells xs 0 false)) (oneM H m)=some (1,xs):=by
 subst hx
 have:=rd_whole (H:=H.push (.cells xs 0 false)) (b:=H.next) (l:=xs) (low:=0) (ro:=false) (by rw[AHeap.get_push,if_pos rfl]) (Nat.zero_le _)
 simp only[aSrc,oneM,Nat.one_mul,this]
end Go.Abs.S
namespace Go.Abs.S
open Go.Abs
end Go.Abs.S
namespace Go.Abs.S
open Go.Abs
end Go.Abs.S
namespace Go.Abs.S
open Go.Abs
def hold(c:ACode):ACode:=c
end Go.Abs.S
namespace Go.Abs.S
open Go.Abs
theorem sW:type_of% (And.intro (And.intro (And.intro (And.intro (And.intro (And.intro (And.intro (@pf_min) (@undef_bool)) (And.intro (@str_len) (@str_eql))) (And.intro (And.intro (@str_neq) (@conv_in)) (@un_not))) (And.intro (And.intro (And.intro (@eq_self.{1}) (@decide_true)) (@decide_false)) (And.intro (And.intro (@Bool.not_true) (@Bool.not_false)) (@argE_0)))) (And.intro (And.intro (And.intro (And.intro (@argE_1) (@argE_2)) (And.intro (@argE_3) (@argE_4))) (And.intro (And.intro (@aw_skip) (@aw_reg)) (@aw_seq))) (And.intro (And.intro (And.intro (@aw_cond) (@aw_exit)) (@aw_ret)) (And.intro (And.intro (@inSeq_normal) (@inSeq_exit)) (@inSeq_ret))))) (And.intro (And.intro (And.intro (And.intro (And.intro (@inBlk_exit) (@inBlk_normal)) (And.intro (@inBlk_ret) (@OptK_some))) (And.intro (And.intro (@OptH_some) (@OptS_some)) (@kont_app))) (And.intro (And.intro (And.intro (@ar_nil) (@ar_guard)) (@ar_mv)) (And.intro (And.intro (@ar_pick) (@ar_new)) (@ar_box)))) (And.intro (And.intro (And.intro (And.intro (@ar_build) (@ar_buildSl)) (@ar_load)) (And.intro (And.intro (@ar_store) (@ar_nilChk)) (@ar_bin))) (And.intro (And.intro (And.intro (@ar_un) (@ar_conv)) (@ar_convSB)) (And.intro (And.intro (@ar_convBS) (@ar_mkFunc)) (@ar_mkIface)))))) (And.intro (And.intro (And.intro (And.intro (And.intro (And.intro (@ar_mkSlice) (@ar_sl)) (And.intro (@ar_slStr) (@ar_fieldA))) (And.intro (And.intro (@ar_field) (@ar_idxA)) (@ar_idxArr))) (And.intro (And.intro (And.intro (@ar_idx) (@ar_idxS)) (@ar_extract)) (And.intro (And.intro (@ar_append) (@ar_len)) (@ar_call)))) (And.intro (And.intro (And.intro (And.intro (@ar_callv) (@callvP_func)) (@ar_pf)) (And.intro (And.intro (@ar_hf) (@ar_slA)) (@upO_some))) (And.intro (And.intro (And.intro (@upO_none) (@sX_t)) (@sX_c)) (And.intro (And.intro (@sX_f) (@fin_t)) (@fin_t2))))) (And.intro (And.intro (And.intro (And.intro (And.intro (@fin_t3) (@up_same)) (And.intro (@up_ne) (@ne_eq.{1}))) (And.intro (And.intro (@not_false_eq_true) (@AVal.bool.injEq)) (@decide_eq_true_eq))) (And.intro (And.intro (And.intro (@decide_eq_false_iff_not) (@Int.ofNat_eq_natCast)) (@Int.cast_ofNat_Int)) (And.intro (And.intro (@bin_lss) (@bin_leq)) (@bin_gtr)))) (And.intro (And.intro (And.intro (And.intro (@bin_geq) (@bin_eql)) (@bin_neq)) (And.intro (And.intro (@bin_add) (@bin_sub)) (@bin_mul))) (And.intro (And.intro (And.intro (@Bool.not_eq_true') (@Bool.not_eq_false')) (@Bool.true_eq_false)) (And.intro (And.intro (@Bool.false_eq_true) (@if_true.{1})) (@if_false.{1}))))))):=And.intro (And.intro (And.intro (And.intro (And.intro (And.intro (And.intro (@pf_min) (@undef_bool)) (And.intro (@str_len) (@str_eql))) (And.intro (And.intro (@str_neq) (@conv_in)) (@un_not))) (And.intro (And.intro (And.intro (@eq_self.{1}) (@decide_true)) (@decide_false)) (And.intro (And.intro (@Bool.not_true) (@Bool.not_false)) (@argE_0)))) (And.intro (And.intro (And.intro (And.intro (@argE_1) (@argE_2)) (And.intro (@argE_3) (@argE_4))) (And.intro (And.intro (@aw_skip) (@aw_reg)) (@aw_seq))) (And.intro (And.intro (And.intro (@aw_cond) (@aw_exit)) (@aw_ret)) (And.intro (And.intro (@inSeq_normal) (@inSeq_exit)) (@inSeq_ret))))) (And.intro (And.intro (And.intro (And.intro (And.intro (@inBlk_exit) (@inBlk_normal)) (And.intro (@inBlk_ret) (@OptK_some))) (And.intro (And.intro (@OptH_some) (@OptS_some)) (@kont_app))) (And.intro (And.intro (And.intro (@ar_nil) (@ar_guard)) (@ar_mv)) (And.intro (And.intro (@ar_pick) (@ar_new)) (@ar_box)))) (And.intro (And.intro (And.intro (And.intro (@ar_build) (@ar_buildSl)) (@ar_load)) (And.intro (And.intro (@ar_store) (@ar_nilChk)) (@ar_bin))) (And.intro (And.intro (And.intro (@ar_un) (@ar_conv)) (@ar_convSB)) (And.intro (And.intro (@ar_convBS) (@ar_mkFunc)) (@ar_mkIface)))))) (And.intro (And.intro (And.intro (And.intro (And.intro (And.intro (@ar_mkSlice) (@ar_sl)) (And.intro (@ar_slStr) (@ar_fieldA))) (And.intro (And.intro (@ar_field) (@ar_idxA)) (@ar_idxArr))) (And.intro (And.intro (And.intro (@ar_idx) (@ar_idxS)) (@ar_extract)) (And.intro (And.intro (@ar_append) (@ar_len)) (@ar_call)))) (And.intro (And.intro (And.intro (And.intro (@ar_callv) (@callvP_func)) (@ar_pf)) (And.intro (And.intro (@ar_hf) (@ar_slA)) (@upO_some))) (And.intro (And.intro (And.intro (@upO_none) (@sX_t)) (@sX_c)) (And.intro (And.intro (@sX_f) (@fin_t)) (@fin_t2))))) (And.intro (And.intro (And.intro (And.intro (And.intro (@fin_t3) (@up_same)) (And.intro (@up_ne) (@ne_eq.{1}))) (And.intro (And.intro (@not_false_eq_true) (@AVal.bool.injEq)) (@decide_eq_true_eq))) (And.intro (And.intro (And.intro (@decide_eq_false_iff_not) (@Int.ofNat_eq_natCast)) (@Int.cast_ofNat_Int)) (And.intro (And.intro (@bin_lss) (@bin_leq)) (@bin_gtr)))) (And.intro (And.intro (And.intro (And.intro (@bin_geq) (@bin_eql)) (@bin_neq)) (And.intro (And.intro (@bin_add) (@bin_sub)) (@bin_mul))) (And.intro (And.intro (And.intro (@Bool.not_eq_true') (@Bool.not_eq_false')) (@Bool.true_eq_false)) (And.intro (And.intro (@Bool.false_eq_true) (@if_true.{1})) (@if_false.{1}))))))
theorem sL:type_of% (And.intro (And.intro (@List.nil_append.{0}) (@List.cons_append.{0})) (@List.append_nil.{0})):=And.intro (And.intro (@List.nil_append.{0}) (@List.cons_append.{0})) (@List.append_nil.{0})
theorem sXs_n(T:Env):sXs T []=[]:=_root_.id rfl
theorem sXs_c(T:Env)(x:Opd)(r:List Opd):sXs T (x::r)=sX T x::sXs T r:=_root_.id rfl
theorem sXO_n(T:Env):sXO T none=none:=_root_.id rfl
theorem sXO_s(T:Env)(x:Opd):sXO T (some x)=some (sX T x):=_root_.id rfl
theorem sXP_n(T:Env):sXP T []=[]:=_root_.id rfl
theorem sXP_c(T:Env)(o n:Nat)(x:Opd)(r:List (Nat×Nat×Opd)):sXP T ((o,n,x)::r)=(o,n,sX T x)::sXP T r:=_root_.id rfl
theorem sA:type_of% (And.intro sW (And.intro sL (And.intro @aw_block (And.intro @sXs_n (And.intro @sXs_c (And.intro @sXO_n (And.intro @sXO_s (And.intro @sXP_n @sXP_c)))))))):=And.intro sW (And.intro sL (And.intro @aw_block (And.intro @sXs_n (And.intro @sXs_c (And.intro @sXO_n (And.intro @sXO_s (And.intro @sXP_n @sXP_c)))))))
end Go.Abs.S
namespace Go.Abs.S
open Go.Abs
end Go.Abs.S
namespace Go.Abs.S
open Go.Abs
end Go.Abs.S
namespace Go.Abs.S
open Go.Abs
end Go.Abs.S
namespace Go.Abs.S
open Go.Abs
end Go.Abs.S
namespace Go.Abs.S
open Go.Abs
end Go.Abs.S
namespace Go.Abs.S
open Go.Abs Go.WideShapes Go.ChangeShapes
variable {H:Type} {enc:TypeId×Value→H}
end Go.Abs.S
namespace Go.Abs.S
open Go.Abs
abbrev zi(n:Nat):Opd:=.c (.int .i64 (.ofNat n))
abbrev zn:Opd:=.c (.slice none 0 (.known 0))
abbrev zI(n:Nat):AVal:=.int .i64 (.ofNat n)
abbrev zU(n:Nat):AVal:=.int .u8 (.ofNat n)
abbrev zN:AVal:=.slice none 0 (.known 0)
abbrev zo(d:Nat)(p:AOp):AOper:=⟨some d,p,none⟩
abbrev zp(p:AOp):AOper:=⟨none,p,none⟩
abbrev zg(d:Nat)(p:AOp)(t:Nat)(b:Bool):AOper:=⟨some d,p,some (t,b)⟩
abbrev zm(d x:Nat):AOper:=⟨some d,.mv (.t x),none⟩
abbrev zc(d x:Nat):AOper:=⟨some d,.nilChk (.t x),none⟩
abbrev zf(d n x:Nat):AOper:=⟨some d,.fieldA n (.t x),none⟩
abbrev zl(d x:Nat):AOper:=⟨some d,.load false 1 (.t x),none⟩
abbrev ze(d n x:Nat):AOper:=⟨some d,.extract n (.t x),none⟩
abbrev zb(d:Nat)(o:BinOp)(x y:Nat):AOper:=⟨some d,.bin o (.t x) (.t y),none⟩
abbrev zk(d:Nat)(o:BinOp)(x n:Nat):AOper:=⟨some d,.bin o (.t x) (.c (.int .i64 (.ofNat n))),none⟩
abbrev zx(d f:Nat)(l:List Opd):AOper:=⟨some d,.call f l,none⟩
abbrev zh(d x:Nat):AOper:=⟨some d,.len false (.t x),none⟩
abbrev zd(d x y:Nat):AOper:=⟨some d,.idxA 1 (.t x) (.t y),none⟩
abbrev zv(d:Nat)(k:IntKind)(x:Nat):AOper:=⟨some d,.conv k (.t x),none⟩
abbrev zs(x y:Nat):AOper:=⟨none,.store 1 (.t x) (.t y),none⟩
abbrev zq(l:List AOper)(c:ACode):ACode:=.seq (.reg l) c
abbrev zr(l:List AOper)(x:Nat)(a b c:ACode):ACode:=.seq (.seq (.reg l) (.cond (.t x) a b)) c
theorem zI_eq(n:Nat):zI n=.int .i64 (n:Int):=_root_.id rfl
theorem zU_eq(n:Nat):zU n=.int .u8 (n:Int):=_root_.id rfl
theorem zN_eq:zN=.slice none 0 (.known 0):=_root_.id rfl
theorem sB:type_of% (And.intro @zI_eq (And.intro @zU_eq zN_eq)):=And.intro @zI_eq (And.intro @zU_eq zN_eq)
end Go.Abs.S
namespace Go.Proofs.St
open Go.Abs Go.Abs.S
noncomputable section
def c47:AFn:=⟨47,zq [zo 1 (.box (.t 0)),zo 2 (.mv (.c (.map none)))] (zq [zl 7 1,zc 8 7,zf 9 0 8,zo 3 (.new [.ptr none]),zs 3 9] (zq [zo 10 (.hf .mkMap []),zo 11 (.mkFunc (.func 80) [] [.t 3]),zp (.hf (.mf (.upd .str)) [.t 10,.c (.str [115,105,122,101]),.t 11]),zo 12 (.mkFunc (.func 82) [] [.t 3]),zp (.hf (.mf (.upd .str)) [.t 10,.c (.str [115,97,109,112,108,101,115]),.t 12]),zo 13 (.mkFunc (.func 83) [] [.t 3]),zp (.hf (.mf (.upd .str)) [.t 10,.c (.str [98,111,117,110,99,101,115]),.t 13]),zo 14 (.mkFunc (.func 84) [] [.t 3]),zp (.hf (.mf (.upd .str)) [.t 10,.c (.str [115,101,101,100]),.t 14]),zo 15 (.mkFunc (.func 86) [] [.t 3]),zp (.hf (.mf (.upd .str)) [.t 10,.c (.str [101,121,101]),.t 15]),zo 16 (.mkFunc (.func 89) [] [.t 3]),zp (.hf (.mf (.upd .str)) [.t 10,.c (.str [97,116]),.t 16]),zo 17 (.mkFunc (.func 90) [] [.t 3]),zp (.hf (.mf (.upd .str)) [.t 10,.c (.str [117,112]),.t 17]),zo 18 (.mkFunc (.func 91) [] [.t 3]),zp (.hf (.mf (.upd .str)) [.t 10,.c (.str [119,105,100,101]),.t 18]),zo 19 (.mkFunc (.func 93) [] [.t 3]),zp (.hf (.mf (.upd .str)) [.t 10,.c (.str [115,107,121]),.t 19]),zm 20 10,zm 4 20] (.seq (zq [zm 21 4,zo 22 .bad] (.block 0 (.loop (zq [zo 23 .bad,ze 24 0 23] (.seq (.cond (.t 24) .skip (.exit 0)) (.block 1 (zq [zo 25 .bad,ze 26 0 25,ze 27 1 25,zo 5 (.new [.str []]),zo 6 (.new [.nilFunc]),zs 5 26,zs 6 27] (.reg [zm 28 4,zl 29 5,zo 30 (.mkFunc (.func 95) [] [.t 1,.t 5,.t 6]),zp (.hf (.mf (.upd .str)) [.t 28,.t 29,.t 30])])))))))) (zq [zm 31 4,zo 32 (.mkFunc (.func 96) [] [.t 1]),zp (.hf (.mf (.upd .str)) [.t 31,.c (.str [100,105,102,102,117,115,101]),.t 32])] (zq [zm 33 4,zo 34 (.mkFunc (.func 98) [] [.t 1]),zp (.hf (.mf (.upd .str)) [.t 33,.c (.str [109,105,114,114,111,114]),.t 34])] (zq [zm 35 4,zo 36 (.mkFunc (.func 99) [] [.t 1]),zp (.hf (.mf (.upd .str)) [.t 35,.c (.str [103,108,111,119]),.t 36])] (zq [zm 37 4,zl 38 1,zo 39 (.mkFunc (.func 100) [.t 38] []),zp (.hf (.mf (.upd .str)) [.t 37,.c (.str [115,104,97,100,101,114]),.t 39])] (zq [zm 40 4,zl 41 1,zo 42 (.mkFunc (.func 101) [.t 41] []),zp (.hf (.mf (.upd .str)) [.t 40,.c (.str [98,97,108,108]),.t 42])] (zq [zm 43 4,zl 44 1,zo 45 (.mkFunc (.func 102) [.t 44] []),zp (.hf (.mf (.upd .str)) [.t 43,.c (.str [109,101,115,104]),.t 45])] (zq [zm 46 4,zm 2 46] .ret)))))))))),[.t 2]⟩
end
end Go.Proofs.St
namespace Go.Abs
section
variable {P:Program} {Prot:Gh} {w0:World} {ρ:Pl} {H:AHeap} {w:World}
theorem Rel.noIter(R:Rel Prot w0 ρ H w){it since last:Nat}{m:Option Nat}{seen:Array Nat}(hi:w.heap[it]?=some (.mapIter m since seen last)){b l:Nat}{L:Loc}(h:ρ b l=some L):L.c≠it:=by
 intro e
 obtain⟨x,o,_,h2,h3⟩:=R.obj b l L h
 rw[e,hi]at h2
 simp only[sJ]at h2
 subst h2
 cases x with
 | cells c low ro=>simp only[ORel]at h3; obtain⟨C,e,lo,hi,h,_⟩:=h3; cases h
 | map es c=>simp only[ORel]at h3; obtain⟨_,ES,h,_⟩:=h3; cases h
 | iter s p=>simp only[ORel]at h3; cases h3.2
theorem Rel.rebase(R:Rel Prot w0 ρ H w){it since last:Nat}{m:Option Nat}{seen:Array Nat}(hi:w.heap[it]?=some (.mapIter m since seen last)):Rel ⟨fun c=>Prot.prot c∨c=it,Prot.dead⟩ w ρ H w:=by
 refine⟨rfl,rfl,rfl,Nat.le_refl _,fun c hc=>⟨?_,rfl⟩,R.dom,R.obj,fun b l L x h hx hr hc=>?_,R.inj,R.dead,R.glob⟩
 ·rcases hc with hc | rfl
  ·exact Nat.lt_of_lt_of_le (R.prot c hc).1 R.size
  ·exact (Array.getElem?_eq_some_iff.1 hi).1
 ·rcases hc with hc | hc
  ·exact R.free b l L x h hx hr hc
  ·exact R.noIter hi h hc
theorem Rel.unbase(R:Rel Prot w0 ρ H w){it:Nat}{D:Nat→Prop}{ρ':Pl}{H':AHeap}{w':World}(R':Rel ⟨fun c=>Prot.prot c∨c=it,D⟩ w ρ' H' w'):Rel ⟨Prot.prot,D⟩ w0 ρ' H' w'∧w'.heap[it]?=w.heap[it]?:=by
 refine⟨⟨R'.os.trans R.os,R'.tape.trans R.tape,R'.output.trans R.output,Nat.le_trans R.size R'.size,fun c hc=>⟨(R.prot c hc).1,((R'.prot c (.inl hc)).2).trans (R.prot c hc).2⟩,R'.dom,R'.obj,fun b l L x h hx hr hc=>R'.free b l L x h hx hr (.inl hc),R'.inj,R'.dead,R'.glob⟩,(R'.prot it (.inr rfl)).2⟩
theorem Rel.iterSet(R:Rel Prot w0 ρ H w){it since last:Nat}{m:Option Nat}{seen:Array Nat}(hi:w.heap[it]?=some (.mapIter m since seen last))(hp:¬Prot.prot it){w':World}{o:Obj}
  (h1:w'.os=w.os) (h2:w'.tape=w.tape) (h3:w'.output=w.output) (h4:w'.heap=w.heap.setIfInBounds it o):Rel Prot w0 ρ H w':=by
 have hs:w'.heap.size=w.heap.size:=by rw[h4,Array.size_setIfInBounds]
 have hg:∀c,c≠it→w'.heap[c]?=w.heap[c]?:=fun c hc=>by rw[h4,Array.getElem?_setIfInBounds,if_neg (fun e=>hc e.symm)]
 refine⟨h1.trans R.os,h2.trans R.tape,h3.trans R.output,by rw[hs]; exact R.size,fun c hc=>?_,fun b l L h=>?_,fun b l L h=>?_,R.free,R.inj,R.dead,R.glob⟩
 ·obtain⟨q1,q2⟩:=R.prot c hc
  exact⟨q1,(hg c (fun e=>hp (e ▸ hc))).trans q2⟩
 ·obtain⟨q1,q2⟩:=R.dom b l L h
  exact⟨q1,by rw[hs]; exact q2⟩
 ·obtain⟨x,o,q1,q2,q3⟩:=R.obj b l L h
  exact⟨x,o,q1,(hg _ (R.noIter hi h)).trans q2,q3⟩
theorem Rel.heap_eq(R:Rel Prot w0 ρ H w){H':AHeap}(hn:H'.next=H.next)(hg:∀b,H'.get b=H.get b):Rel Prot w0 ρ H' w:=
 ⟨R.os, R.tape, R.output, R.size, R.prot, fun b l L h => by rw [hn]; exact R.dom b l L h, fun b l L h => by rw [hg]; exact R.obj b l L h, fun b l L x h hx => R.free b l L x h (by rw [← hg]; exact hx),
  fun b l L b' l' L' x h h' e hx => R.inj b l L b' l' L' x h h' e (by rw [← hg]; exact hx), fun b h => by rw [hn]; exact R.dead b h, fun b l low h => R.glob b l low (by rw [← hg]; exact h)⟩
end
section
variable {P:Program} {w:World}
theorem run_next_at{it bm since c0 clock:Nat}{seen:Array Nat}{es:Array MapEntry}(ty:TypeId)(hi:w.heap[it]?=some (.mapIter (some bm) since seen c0))(hb:w.heap[bm]?=some (.map es clock))
  (hold:∀x∈es.toList,x.born<since) (hsc:since≤c0) :
  ((leftOf es seen).size=0∧(Instr.next (.pointer (some ⟨it,0,none⟩)) false ty).run P w=.ok (.tuple #[.bool false]) w) ∨
  ∃e∈(leftOf es seen).toList,∃w1:World,(Instr.next (.pointer (some ⟨it,0,none⟩)) false ty).run P w=.ok (.tuple #[.bool true,e.key,e.val]) w1 ∧
   w1.heap=w.heap.setIfInBounds it (.mapIter (some bm) since (seen.push e.born) clock)∧w1.os=w.os∧w1.tape=w.tape∧w1.output=w.output:=by
 simp only[Instr.next,getObj,Sem.run_bind,Sem.run,hi,hb,Result.andThen,next_test_false seen es since c0 hold hsc,Bool.false_eq_true,if_false]
 unfold leftOf
 have hmem:∀x∈(Array.filter (fun e=>!seen.contains e.born) es).toList,x.born<since:=fun x hx=>hold x (by simp at hx ⊢; exact hx.1)
 generalize Array.filter (fun e=>!seen.contains e.born) es=L at hmem ⊢
 have e1:L.filter (fun x=>decide (x.born<since))=L:=Array.filter_eq_self.2 (fun x hx=>by simpa using hmem x (by simpa using hx))
 have e2:L.filter (fun x=>decide (x.born ≥ since))=#[]:=by
  rw[Array.filter_eq_empty_iff]
  intro x hx
  have:=hmem x (by simpa using hx)
  simp
  omega
 simp only[e1,e2,Array.append_empty]
 by_cases h0:L.size=0
 ·left
  have:L=#[]:=Array.eq_empty_of_size_eq_zero h0
  subst this
  refine⟨rfl,?_⟩
  simp[choose,Sem.run,Question.forced]
 ·right
  have hne:L.isEmpty=false:=by simp[Array.isEmpty,h0]
  simp only[hne,Bool.false_eq_true,if_false,Array.empty_append,Array.size_map]
  have hch:∃(j:Nat) (w1:World),j<L.size∧(w1.heap=w.heap∧w1.os=w.os∧w1.tape=w.tape∧w1.output=w.output)∧(choose (Question.mapNext L.size)).run P w=.ok j w1:=by
   by_cases hf:L.size≤1
   ·exact⟨0,w,om,⟨rfl,rfl,rfl,rfl⟩,by simp[choose,Sem.run,Question.forced,hf]⟩
   ·exact⟨_,w.drew,Nat.mod_lt _ om,⟨rfl,rfl,rfl,rfl⟩,by
     simp only[choose,Sem.run,Question.forced,decide_eq_true_eq,hf,if_false,Question.cut]
     rfl⟩
  obtain⟨j,w1,hj,⟨q1,q2,q3,q4⟩,hrun⟩:=hch
  have hset:∀o':Obj,(setObj it o').run P w1=.ok () { w1 with heap:=w1.heap.setIfInBounds it o' }:=fun o'=>by
   simp only[setObj,Sem.run]
   rw[q1,hi]
  refine⟨L[j],by simp,{ w1 with heap:=w1.heap.setIfInBounds it (.mapIter (some bm) since (seen.push L[j].born) clock) },?_,by rw[q1],q2,q3,q4⟩
  simp only[hrun,Array.getElem?_map,Array.getElem?_eq_getElem hj,Option.map_some,Sem.run_bind,hset,Result.andThen]
  rfl
theorem run_entry_at{it bm since clock:Nat}{seen:Array Nat}{es:Array MapEntry}{e:MapEntry}(hi:w.heap[it]?=some (.mapIter (some bm) since (seen.push e.born) clock))(hb:w.heap[bm]?=some (.map es clock))
  (hf:es.find? (fun x=>x.born==e.born)=some e):(Instr.entry (.pointer (some ⟨it,0,none⟩))).run P w=.ok (.tuple #[e.key,e.val]) w:=by
 simp only[Instr.entry,getObj,Sem.run_bind,Sem.run,hi,hb,Result.andThen,Array.back?_push,bne_self_eq_false,Bool.false_eq_true,if_false,hf]
 rfl
end
end Go.Abs
namespace Go.Abs
def opAt(ops:Array Oper)(i:Nat):Oper:=match ops[i]? with
 | some o=>o
 | none => ⟨none, .move (.tmp 0), 0, "", #[], none⟩
structure OpIs(P:Program)(n:Nat)(ops:Array Oper)(i:Nat)(d:Option Nat)(ao:AOp):Prop where
 at_:ops[i]?=some (opAt ops i)
 op:cOp P (opAt ops i).op=some ao
 guard:(opAt ops i).guard=none
 dst:(opAt ops i).dst=d
 ok:okDst n d=true
structure OpAt(n:Nat)(ops:Array Oper)(i:Nat)(d:Option Nat)(o:Op):Prop where
 at_:ops[i]?=some (opAt ops i)
 op:(opAt ops i).op=o
 guard:(opAt ops i).guard=none
 dst:(opAt ops i).dst=d
 ok:okDst n d=true
section
variable {P:Program} {Prot:Gh} {w0:World} {ρ:Pl} {H:AHeap} {w:World} {tb:FuncId→Bool}
theorem wanted_none{o:Oper}(h:o.guard=none)(f:Nat→Option Bool):Region.wanted o f=true:=by
 unfold Region.wanted; rw[h]
theorem op_one(htb:∀f,Nat.blt f BIG=true→tb f=true→hasBody P f=true){ds:List Deferred}{n:Nat}{ops:Array Oper}{Q:Exit→Act→World→Prop}{i:Nat}{is:List Nat}{d:Option Nat}{ao:AOp}(ho:OpIs P n ops i d ao)
  {T:Tr AVal} {a:Act} (R:Rel Prot w0 ρ H w) (ht:TmpsRel ρ n T a.tmps) (hd:a.defers=ds) {v:AVal} {H1:AHeap} (hv:aop tb T H ao=some (.val v,H1))
  (hk:∀ρ1 a1 w1,ρ.le ρ1→Rel Prot w0 ρ1 H1 w1→TmpsRel ρ1 n (aput T d v) a1.tmps→a1.defers=ds→wpOps P ops Q is a1 w1):wpOps P ops Q (i::is) a w:=by
 obtain⟨ρ1,w1,nx,q1,q2,q3,q4⟩:=op_sim htb R ht (opAt ops i) ho.op hv
 simp only[wpOps,ho.at_]
 rw[if_pos (wanted_none ho.guard _)]
 left
 have hd':∀u,(a.put d u).defers=ds:=fun u=>by cases d <;> simpa[Act.put] using hd
 simp only[Oper.wp,q2]
 cases nx <;> simp only[NxRel]at q4
 case value u=>
  simp only[Oper.upon,ho.dst]
  exact hk ρ1 _ _ q1 q3 (put_rel (ht.mono q1) ho.ok q4) (hd' _)
 case skip=>
  simp only[Oper.upon,ho.dst]
  exact hk ρ1 _ _ q1 q3 (put_rel (ht.mono q1) ho.ok q4) (hd' _)
theorem op_val{n:Nat}{ops:Array Oper}{Q:Exit→Act→World→Prop}{i:Nat}{is:List Nat}{d:Option Nat}{o:Op}(ho:OpAt n ops i d o){a:Act}{u:Value}{w1:World}
  (hr:(execOp a.eval (opAt ops i)).run P w=.ok (.value u) w1) (hk:wpOps P ops Q is (a.put d u) w1):wpOps P ops Q (i::is) a w:=by
 simp only[wpOps,ho.at_]
 rw[if_pos (wanted_none ho.guard _)]
 left
 simp only[Oper.wp,hr,Oper.upon,ho.dst]
 exact hk
theorem op_new{ds:List Deferred}{n:Nat}{ops:Array Oper}{Q:Exit→Act→World→Prop}{i:Nat}{is:List Nat}{d:Option Nat}{e:TypeId}(ho:OpAt n ops i d (.alloc e)){z:List AVal}(hz:zeroOf P e=some z)
  {T:Tr AVal} {a:Act} (R:Rel Prot w0 ρ H w) (ht:TmpsRel ρ n T a.tmps) (hd:a.defers=ds) {b:Nat} (hdead:Prot.dead b) (hx:H.get b=some (.cells z 0 false))
  (hk:∀ρ1 a1 w1,ρ.le ρ1→Rel ⟨Prot.prot,fun d=>Prot.dead d∧d≠b⟩ w0 ρ1 H w1→TmpsRel ρ1 n (aput T d (.ptr (some ⟨b,z.length,0⟩))) a1.tmps→a1.defers=ds→wpOps P ops Q is a1 w1):wpOps P ops Q (i::is) a w:=by
 obtain⟨ρ1,w1,u,q1,q2,q3,q4⟩:=claim_run (P:=P) R ht (o:=opAt ops i) (s:=none) (.inl ⟨e,ho.op,hz,rfl⟩) hdead hx
 have hd':∀u,(a.put d u).defers=ds:=fun u=>by cases d <;> simpa[Act.put] using hd
 refine op_val ho q2 (hk ρ1 _ _ q1 q3 (put_rel (ht.mono q1) ho.ok q4) (hd' _))
end
abbrev Key:=List UInt8×AVal
def cvL(N:Nat)(g:FuncId)(rv:AVal)(i:Nat):AVal:=.func (.func g) [] [rv,.ptr (some ⟨N+2*i,1,0⟩),.ptr (some ⟨N+2*i+1,1,0⟩)]
def entL(N:Nat)(g:FuncId)(rv:AVal)(s:Nat→Bool):Nat→List Key→List Ent
 | _,[]=>[]
 | i,(nm,v)::r=>(.str nm,bif s i then cvL N g rv i else v,i)::entL N g rv s (i+1) r
structure LH(N m:Nat)(g:FuncId)(rv:AVal)(ks:List Key)(H0:AHeap)(s:Nat→Bool)(H:AHeap):Prop where
 next:H.next=N+2*ks.length
 old:∀b,b<N→b≠m→H.get b=H0.get b
 map:H.get m=some (.map (entL N g rv s 0 ks) ks.length)
 nm:∀i p,ks[i]?=some p→H.get (N+2*i)=some (.cells [bif s i then .str p.1 else .str []] (bif s i then 1 else 0) false)
 dv:∀i p,ks[i]?=some p→H.get (N+2*i+1)=some (.cells [bif s i then p.2 else .nilFunc] (bif s i then 1 else 0) false)
def deadL(N:Nat)(ks:List Key)(s:Nat→Bool)(d:Nat):Prop:=∃i,i<ks.length∧s i=false∧(d=N+2*i∨d=N+2*i+1)
def upS(s:Nat→Bool)(i:Nat):Nat→Bool:=fun j=>bif Nat.beq j i then true else s j
theorem upS_same(s:Nat→Bool)(i:Nat):upS s i i=true:=by simp[upS,Nat.beq_refl]
theorem upS_ne{s:Nat→Bool}{i j:Nat}(h:j≠i):upS s i j=s j:=by
 unfold upS
 rw[beq_dec,decide_eq_false h]; rfl
section
variable {N:Nat} {g:FuncId} {rv:AVal}
theorem entL_len(s:Nat→Bool):∀(ks:List Key) (k:Nat),(entL N g rv s k ks).length=ks.length
 | [],_=>rfl
 | (_,_)::r,k=>by simp only[entL,List.length_cons,entL_len s r]
theorem entL_at(s:Nat→Bool):∀(ks:List Key) (k i:Nat) (p:Key),ks[i]?=some p→(entL N g rv s k ks)[i]?=some (.str p.1,bif s (k+i) then cvL N g rv (k+i) else p.2,k+i)
 | [],_,_,_,h=>by simp at h
 | (nm,v)::r,k,0,p,h=>by
  simp only[List.getElem?_cons_zero,sJ]at h
  subst h
  simp[entL]
 | (nm,v)::r,k,i+1,p,h=>by
  simp only[List.getElem?_cons_succ]at h
  have:=entL_at s r (k+1) i p h
  simp only[entL,List.getElem?_cons_succ,this]
  rw[show k+1+i=k+(i+1) by omega]
theorem entL_find(s:Nat→Bool):∀(ks:List Key) (k j i:Nat) (p:Key),(ks.map (·.1)).Nodup→ks[i]?=some p→mFind .str (.str p.1) (entL N g rv s k ks) j=some (some (j+i,(.str p.1,bif s (k+i) then cvL N g rv (k+i) else p.2,k+i)))
 | [],_,_,_,_,_,h=>by simp at h
 | (nm,v)::r,k,j,0,p,_,h=>by
  simp only[List.getElem?_cons_zero,sJ]at h
  subst h
  simp[entL,mFind,kEq]
 | (nm,v)::r,k,j,i+1,p,hn,h=>by
  simp only[List.getElem?_cons_succ]at h
  simp only[List.map_cons,List.nodup_cons]at hn
  have hne:(p.1==nm)=false:=by
   cases hh:p.1==nm with
   | false=>rfl
   | true=>
    rw[beq_iff_eq]at hh
    exact absurd (List.mem_map.2 ⟨p,List.mem_of_getElem? h,hh⟩) hn.1
  have:=entL_find s r (k+1) (j+1) i p hn.2 h
  simp only[entL,mFind,kEq,hne,this]
  rw[show k+1+i=k+(i+1) by omega,show j+1+i=j+(i+1) by omega]
theorem entL_set(s:Nat→Bool):∀(ks:List Key) (k i:Nat) (p:Key),ks[i]?=some p→mSet (entL N g rv s k ks) i (.str p.1,cvL N g rv (k+i),k+i)=entL N g rv (upS s (k+i)) k ks
 | [],_,_,_,h=>by simp at h
 | (nm,v)::r,k,0,p,h=>by
  simp only[List.getElem?_cons_zero,sJ]at h
  subst h
  have tail:∀(r:List Key) (j:Nat),k<j→entL N g rv s j r=entL N g rv (upS s k) j r:=by
   intro r
   induction r with
   | nil=>intro j _; rfl
   | cons q r ih=>
    intro j hj
    obtain⟨a,b⟩:=q
    simp only[entL,ih (j+1) om]
    rw[upS_ne (show j≠k by omega)]
  simp only[entL,mSet,Nat.add_zero,tail r (k+1) om,upS_same,cond_true]
 | (nm,v)::r,k,i+1,p,h=>by
  simp only[List.getElem?_cons_succ]at h
  have:=entL_set s r (k+1) i p h
  rw[show k+1+i=k+(i+1) by omega]at this
  simp only[entL,mSet,this]
  rw[upS_ne (show k≠k+(i+1) by omega)]
theorem cell1_store{H:AHeap}{b:Nat}{y x:AVal}(hx:x.cells=[x])(h1:x.one=true)(hg:H.get b=some (.cells [y] 0 false)):oStore 1 H (.ptr (some ⟨b,1,0⟩)) x=some (H.set b (.cells [x] 1 false)):=by
 have e:Nat.ble 0 1=true:=rfl
 have e':Nat.ble 1 1=true:=rfl
 simp[oStore,wrCells,hx,hg,h1,e,e']
theorem cell1_load{H:AHeap}{b low:Nat}{y:AVal}(hl:low≤1)(hg:H.get b=some (.cells [y] low false)):oLoad false 1 H (.ptr (some ⟨b,1,0⟩))=some y:=by
 have e':Nat.ble 1 1=true:=rfl
 simp[oLoad,rdCells,hg,Nat.ble_eq_true_of_le hl,e']
end
end Go.Abs
namespace Go.Abs
structure MLCode(P:Program)(n:Nat)(A4 A5 A6:Array Oper)(g:FuncId)(t0 t1:TypeId):Prop where
 n4:A4.size=2
 nx:OpAt n A4 0 (some 23) (.next (.tmp 22) false)
 ex:OpIs P n A4 1 (some 24) (.extract 0 (.t 23))
 n5:A5.size=7
 en:OpAt n A5 0 (some 25) (.entry (.tmp 22))
 e0:OpIs P n A5 1 (some 26) (.extract 0 (.t 25))
 e1:OpIs P n A5 2 (some 27) (.extract 1 (.t 25))
 a0:OpAt n A5 3 (some 5) (.alloc t0)
 z0:zeroOf P t0=some [.str []]
 a1:OpAt n A5 4 (some 6) (.alloc t1)
 z1:zeroOf P t1=some [.nilFunc]
 s0:OpIs P n A5 5 none (.store 1 (.t 5) (.t 26))
 s1:OpIs P n A5 6 none (.store 1 (.t 6) (.t 27))
 n6:A6.size=4
 m0:OpIs P n A6 0 (some 28) (.mv (.t 4))
 m1:OpIs P n A6 1 (some 29) (.load false 1 (.t 5))
 m2:OpIs P n A6 2 (some 30) (.mkFunc (.func g) [] [.t 1,.t 5,.t 6])
 m3:OpIs P n A6 3 none (.hf (.mf (.upd .str)) [.t 28,.t 29,.t 30])
structure LInv(Prot:Gh)(w0:World)(ds:List Deferred)(n N m:Nat)(g:FuncId)(rv:AVal)(ks:List Key)(H0:AHeap)(it:Nat)(s:Nat→Bool)(ρ:Pl)(T:Tr AVal)(H:AHeap)(a:Act)(w:World)(seen:Array Nat)(L:Loc):Prop where
 rel:Rel ⟨Prot.prot,fun d=>Prot.dead d∨deadL N ks s d⟩ w0 ρ H w
 lh:LH N m g rv ks H0 s H
 ht:TmpsRel ρ n T a.tmps
 hd:a.defers=ds
 t1:T.get 1=some rv
 t4:T.get 4=some (.map (some m))
 t22:T.get 22=some (.val (.pointer (some ⟨it,0,none⟩)))
 mp:ρ m 0=some L
 hi:w.heap[it]?=some (.mapIter (some L.c) ks.length seen ks.length)
 sn:∀i,i<ks.length→seen.contains i=s i
section
variable {ρ:Pl}
theorem EntriesRel.len:∀{es:List Ent} {ES:List MapEntry},EntriesRel ρ es ES→es.length=ES.length
 | [],ES,h=>by simp only[EntriesRel]at h; subst h; rfl
 | x::l,ES,h=>by
  simp only[EntriesRel]at h
  obtain⟨e,r,rfl,_,h⟩:=h
  simp[EntriesRel.len h]
theorem EntriesRel.at_:∀{es:List Ent} {ES:List MapEntry},EntriesRel ρ es ES→∀{i:Nat} {x:Ent},es[i]?=some x→∃E,ES[i]?=some E∧EntryRel ρ x E
 | [],_,_,i,x,hx=>by simp at hx
 | y::l,ES,h,i,x,hx=>by
  simp only[EntriesRel]at h
  obtain⟨e,r,rfl,h1,h⟩:=h
  cases i with
  | zero=>simp only[List.getElem?_cons_zero,sJ]at hx; subst hx; exact⟨e,rfl,h1⟩
  | succ i=>simp only[List.getElem?_cons_succ]at hx ⊢; exact EntriesRel.at_ h hx
end
section
variable {P:Program} {Prot:Gh} {w0:World} {ds:List Deferred} {n N m:Nat} {g:FuncId} {rv:AVal} {ks:List Key} {H0:AHeap} {it:Nat} {tb:FuncId→Bool} {A4 A5 A6:Array Oper} {t0 t1:TypeId}
theorem born_at{s:Nat→Bool}{ρ:Pl}{ES:List MapEntry}(hE:EntriesRel ρ (entL N g rv s 0 ks) ES):ES.length=ks.length∧∀(i:Nat) (E:MapEntry),ES[i]?=some E→E.born=i∧i<ks.length:=by
 have hl:=hE.len
 rw[entL_len]at hl
 refine⟨hl.symm,fun i E h=>?_⟩
 have hlt:=(List.getElem?_eq_some_iff.1 h).1
 have hk:i<ks.length:=om
 obtain⟨E',h1,h2⟩:=hE.at_ (entL_at s ks 0 i ks[i] (List.getElem?_eq_getElem hk))
 rw[h]at h1
 simp only[sJ]at h1
 subst h1
 exact⟨by have:=h2.2.2; simpa using this,hk⟩
theorem born_nodup{ES:List MapEntry}(h:∀(i:Nat) (E:MapEntry),ES[i]?=some E→E.born=i):(ES.map (·.born)).Nodup:=by
 have e:ES.map (·.born)=List.range ES.length:=by
  apply List.ext_getElem?
  intro i
  rw[List.getElem?_map]
  cases hi:ES[i]? with
  | none=>
   rw[List.getElem?_eq_none_iff]at hi
   rw[List.getElem?_eq_none (by simpa using hi)]; rfl
  | some E=>
   have hlt:=(List.getElem?_eq_some_iff.1 hi).1
   rw[Option.map_some,h i E hi,List.getElem?_range hlt]
 rw[e]
 exact List.nodup_range
theorem exec_next{a:Act}{w:World}{ty:Nat}{x:Value}(ho:OpAt n A4 0 (some 23) (.next (.tmp 22) false))(hx:a.eval (.tmp 22)=x){r:Result Value}(hr:∀ty,(Instr.next x false ty).run P w=r){u:Value}{w1:World}(hr':r=.ok u w1) :
  (execOp a.eval (opAt A4 0)).run P w=.ok (.value u) w1:=by
 have h:=ho.op
 generalize opAt A4 0=oo at *
 obtain⟨dst,op,type,pos,after,guard⟩:=oo
 simp only at h
 subst h
 show (do pure (Next.value (← Instr.next (a.eval (.tmp 22)) false type)):Sem Next).run P w=_
 rw[hx]
 simp only[Sem.run_bind,hr type,hr',Result.andThen_ok]
 rfl
theorem exec_entry{a:Act}{w:World}{x:Value}(ho:OpAt n A5 0 (some 25) (.entry (.tmp 22)))(hx:a.eval (.tmp 22)=x){u:Value}{w1:World}(hr:(Instr.entry x).run P w=.ok u w1) :
  (execOp a.eval (opAt A5 0)).run P w=.ok (.value u) w1:=by
 have h:=ho.op
 generalize opAt A5 0=oo at *
 obtain⟨dst,op,type,pos,after,guard⟩:=oo
 simp only at h
 subst h
 show (do pure (Next.value (← Instr.entry (a.eval (.tmp 22)))):Sem Next).run P w=_
 rw[hx]
 simp only[Sem.run_bind,hr,Result.andThen_ok]
 rfl
theorem ev_get{T:Tr AVal}{t:Nat}{v:AVal}(h:T.get t=some v):ev T (.t t)=v:=by simp only[ev,h]
theorem get_set_ne{T:Tr AVal}{t k:Nat}{v:AVal}(h:t≠k):(T.set k v).get t=T.get t:=by rw[Tr.get_set,if_neg h]
theorem get_set_eq{T:Tr AVal}{k:Nat}{v:AVal}:(T.set k v).get k=some v:=by rw[Tr.get_set,if_pos rfl]
def LBody(i4 i5 i6:Nat)(A4 A5 A6:Array Oper):Code:=.seq (.region i4 A4 false) (.seq (.cond (.tmp 24) .skip (.exit 0)) (.block 1 (.seq (.region i5 A5 false) (.region i6 A6 false))))
theorem round_ok(htb:∀f,Nat.blt f BIG=true→tb f=true→hasBody P f=true)(C:MLCode P n A4 A5 A6 g t0 t1)(hks:(ks.map (·.1)).Nodup)(hv:∀p∈ks,p.2.cells=[p.2]∧p.2.one=true)(hmN:m<N)(hD:∀d,Prot.dead d→d<N)(hip:¬Prot.prot it)
  {s:Nat→Bool} {ρ:Pl} {T:Tr AVal} {H:AHeap} {a:Act} {w:World} {seen:Array Nat} {L:Loc} (I:LInv Prot w0 ds n N m g rv ks H0 it s ρ T H a w seen L) {i4 i5 i6:Nat} {Q:Exit→Act→World→Prop}
  (hend:(∀i,i<ks.length→s i=true)→∀ρ' T' a' w',ρ.le ρ'→LInv Prot w0 ds n N m g rv ks H0 it s ρ' T' H a' w' seen L→Q (.exit 0) a' w')
  (hgo:∀i ρ' T' H' a' w' seen',i<ks.length→s i=false→ρ.le ρ'→LInv Prot w0 ds n N m g rv ks H0 it (upS s i) ρ' T' H' a' w' seen' L→Q .normal a' w') :
  (LBody i4 i5 i6 A4 A5 A6).wp P Q a w:=by
 obtain⟨R,lh,ht,hd,g1,g4,g22,mp,hi,sn⟩:=I
 obtain⟨L',ES,hL,_,hb,hE⟩:=map_at R (mv:=.map (some L.c)) (by simp only[VRel]; exact⟨L,mp,rfl⟩) lh.map
 rw[mp]at hL
 simp only[sJ]at hL
 subst hL
 obtain⟨hlen,hborn⟩:=born_at hE
 have hold:∀x∈ES.toList,x.born<ks.length:=by
  intro x hx
  obtain⟨i,h⟩:=List.mem_iff_getElem?.1 hx
  have:=hborn i x h
  omega
 have ev22:a.eval (.tmp 22)=.pointer (some ⟨it,0,none⟩):=by
  have:=ht.at_ 22
  rw[ev_get g22]at this
  simp only[VRel]at this
  exact this.1
 have w24:∀{a:Act} {T:Tr AVal} {ρ:Pl} {b:Bool},TmpsRel ρ n (aput T (some 24) (.bool b)) a.tmps→a.eval (.tmp 24)=.bool b:=by
  intro a T ρ b h
  have:=h.at_ 24
  rw[ev_get (v:=.bool b) (by simp only[aput]; exact get_set_eq)]at this
  simp only[VRel]at this
  exact this
 have w22:∀(a:Act) (u:Value),a.defers=ds→(a.put (some 23) u).defers=ds:=fun a u h=>h
 unfold LBody
 refine wp_seq (wp_region ?_)
 rw[C.n4]
 show wpOps P A4 _ [0,1] a w
 rcases run_next_at (P:=P) 0 hi hb hold rL with⟨h0,_⟩ | ⟨e,he,w1,hrun,hw1,ho1,ho2,ho3⟩
 ·-- over
  have hall:∀i,i<ks.length→s i=true:=by
   intro i hlt
   cases hs:s i with
   | true=>rfl
   | false=>
    exfalso
    have hil:i<ES.toList.length:=om
    have hE':ES.toList[i]?=some ES.toList[i]:=List.getElem?_eq_getElem hil
    have hbi:=(hborn i _ hE').1
    have:ES.toList[i]∈(leftOf ES seen).toList:=by
     unfold leftOf
     rw[Array.toList_filter]
     refine List.mem_filter.2 ⟨List.getElem_mem hil,?_⟩
     rw[hbi,sn i hlt,hs]; rfl
    rw[Array.eq_empty_of_size_eq_zero h0]at this
    simp at this
  have hr:∀ty,(Instr.next (.pointer (some ⟨it,0,none⟩)) false ty).run P w=.ok (.tuple #[.bool false]) w:=by
   intro ty
   rcases run_next_at (P:=P) ty hi hb hold rL with⟨_,h⟩ | ⟨e,he,_⟩
   ·exact h
   ·rw[Array.eq_empty_of_size_eq_zero h0]at he; simp at he
  refine op_val C.nx (exec_next (ty:=0) C.nx ev22 hr rfl) ?_
  have ht1:TmpsRel ρ n (aput T (some 23) (.tuple [.bool false])) (a.put (some 23) (.tuple #[.bool false])).tmps:=put_rel ht C.nx.ok (by simp[VRel,VRels])
  refine op_one htb C.ex (R.rebase hi) ht1 (w22 a _ hd) (v:=.bool false) (H1:=H) (by simp only[aop,ev,aput,get_set_eq]; rfl) ?_
  intro ρ1 a1 w1 hle R1 ht2 hd2
  obtain⟨R2,hit⟩:=R.unbase R1
  refine wp_seq (wp_cond_false (w24 ht2) (wp_exit ?_))
  refine hend hall ρ1 _ a1 w1 hle ⟨R2,lh,ht2,hd2,?_,?_,?_,hle _ _ _ mp,hit.trans hi,sn⟩
  ·simp only[aput]; rw[get_set_ne dD,get_set_ne dD]; exact g1
  ·simp only[aput]; rw[get_set_ne dD,get_set_ne dD]; exact g4
  ·simp only[aput]; rw[get_set_ne dD,get_set_ne dD]; exact g22
 ·-- one that is left
  have hbound:it<w.heap.size:=(Array.getElem?_eq_some_iff.1 hi).1
  obtain⟨hm1,hm2⟩:=mem_left he
  obtain⟨i,hie⟩:=List.mem_iff_getElem?.1 hm1
  obtain⟨hbi,hik⟩:=hborn i e hie
  have hsi:s i=false:=by rw[← sn i hik,← hbi]; exact hm2
  obtain⟨p,hp⟩:∃p,ks[i]?=some p:=⟨_,List.getElem?_eq_getElem hik⟩
  obtain⟨E',hE1,hek,hev,_⟩:=hE.at_ (entL_at s ks 0 i p hp)
  rw[hie]at hE1
  simp only[sJ]at hE1
  subst hE1
  simp only[Nat.zero_add,hsi,cond_false]at hek hev
  have R1:Rel ⟨Prot.prot,fun d=>Prot.dead d∨deadL N ks s d⟩ w0 ρ H w1:=R.iterSet hi hip ho1 ho2 ho3 hw1
  have hi1:w1.heap[it]?=some (.mapIter (some L.c) ks.length (seen.push e.born) ks.length):=by
   rw[hw1]; simp[hbound]
  have hb1:w1.heap[L.c]?=some (.map ES ks.length):=by
   rw[hw1,Array.getElem?_setIfInBounds,if_neg (fun h=>R.noIter hi mp h.symm)]; exact hb
  have hfind:ES.find? (fun x=>x.born==e.born)=some e:=by
   rw[← Array.find?_toList]; exact find_born e _ (born_nodup fun i E h=>(hborn i E h).1) hm1
  refine op_val C.nx (exec_next (ty:=0) C.nx ev22 (fun ty=>rfl) hrun) ?_
  have ht1:TmpsRel ρ n (aput T (some 23) (.tuple [.bool true,.str p.1,p.2])) (a.put (some 23) (.tuple #[.bool true,e.key,e.val])).tmps:=
   put_rel ht C.nx.ok (by simp only[VRel,VRels]; exact⟨_,rfl,_,_,rfl,rfl,_,_,rfl,hek,_,_,rfl,hev,rfl⟩)
  refine op_one htb C.ex (R1.rebase hi1) ht1 (w22 a _ hd) (v:=.bool true) (H1:=H) (by simp only[aop,ev,aput,get_set_eq]; rfl) ?_
  intro ρ2 a2 w2 hle2 R2' ht2 hd2
  obtain⟨R2,hit2⟩:=R1.unbase R2'
  have hi2:=hit2.trans hi1
  refine wp_seq (wp_cond_true (w24 ht2) (wp_skip ?_))
  refine wp_block (wp_seq (wp_region ?_))
  rw[C.n5]
  show wpOps P A5 _ [0,1,2,3,4,5,6] a2 w2
  obtain⟨L3,ES3,hL3,_,hb3,hE3⟩:=map_at R2 (mv:=.map (some L.c)) (by simp only[VRel]; exact⟨L,hle2 _ _ _ mp,rfl⟩) lh.map
  rw[hle2 _ _ _ mp]at hL3
  simp only[sJ]at hL3
  subst hL3
  obtain⟨hlen3,hborn3⟩:=born_at hE3
  obtain⟨e3,hie3,hek3,hev3,_⟩:=hE3.at_ (entL_at s ks 0 i p hp)
  simp only[Nat.zero_add,hsi,cond_false]at hek3 hev3
  have hbe:e.born=e3.born:=by rw[hbi,(hborn3 i e3 hie3).1]
  have hfind3:ES3.find? (fun x=>x.born==e3.born)=some e3:=by
   rw[← Array.find?_toList]; exact find_born e3 _ (born_nodup fun i E h=>(hborn3 i E h).1) (List.mem_of_getElem? hie3)
  rw[hbe]at hi2
  have ev22':a2.eval (.tmp 22)=.pointer (some ⟨it,0,none⟩):=by
   have:=ht2.at_ 22
   rw[ev_get (v:=.val (.pointer (some ⟨it,0,none⟩))) (by simp only[aput]; rw[get_set_ne dD,get_set_ne dD]; exact g22)]at this
   simp only[VRel]at this
   exact this.1
  refine op_val C.en (exec_entry C.en ev22' (run_entry_at hi2 hb3 hfind3)) ?_
  generalize hT2:aput (aput T (some 23) (.tuple [.bool true,.str p.1,p.2])) (some 24) (.bool true)=T2 at ht2
  have k1:T2.get 1=some rv:=by rw[← hT2]; simp only[aput]; rw[get_set_ne dD,get_set_ne dD]; exact g1
  have k4:T2.get 4=some (.map (some m)):=by rw[← hT2]; simp only[aput]; rw[get_set_ne dD,get_set_ne dD]; exact g4
  have k22:T2.get 22=some (.val (.pointer (some ⟨it,0,none⟩))):=by rw[← hT2]; simp only[aput]; rw[get_set_ne dD,get_set_ne dD]; exact g22
  have ht3:TmpsRel ρ2 n (aput T2 (some 25) (.tuple [.str p.1,p.2])) (a2.put (some 25) (.tuple #[e3.key,e3.val])).tmps:=
   put_rel ht2 C.en.ok (by simp only[VRel,VRels]; exact⟨_,rfl,_,_,rfl,hek3,_,_,rfl,hev3,rfl⟩)
  obtain⟨hpc,hpo⟩:=hv p (List.mem_of_getElem? hp)
  have hnm:=lh.nm i p hp
  have hdv:=lh.dv i p hp
  simp only[hsi,cond_false]at hnm hdv
  have RB:=R2.rebase hi2
  refine op_one htb C.e0 RB ht3 (hd2:(a2.put (some 25) _).defers=ds) (v:=.str p.1) (H1:=H) (by simp only[aop,ev,aput,get_set_eq]; rfl) ?_
  intro ρ4 a4 w4 hle4 R4 ht4 hd4
  refine op_one htb C.e1 R4 ht4 hd4 (v:=p.2) (H1:=H) (by simp only[aop,ev,aput]; rw[get_set_ne dD,get_set_eq]; rfl) ?_
  intro ρ5 a5 w5 hle5 R5 ht5 hd5
  refine op_new (b:=N+2*i) C.a0 C.z0 R5 ht5 hd5 (.inr ⟨i,hik,hsi,.inl rfl⟩) hnm ?_
  intro ρ6 a6 w6 hle6 R6 ht6 hd6
  refine op_new (b:=N+2*i+1) C.a1 C.z1 R6 ht6 hd6 ⟨.inr ⟨i,hik,hsi,.inr rfl⟩,om⟩ hdv ?_
  intro ρ7 a7 w7 hle7 R7 ht7 hd7
  simp only[List.length_cons,List.length_nil,Nat.zero_add]at ht7
  refine op_one htb C.s0 R7 ht7 hd7 (v:=undefA) (H1:=H.set (N+2*i) (.cells [.str p.1] 1 false)) (by
   simp only[aop,ev,aput]
   rw[get_set_ne dD,get_set_eq,get_set_ne dD,get_set_ne dD,get_set_ne dD,get_set_eq]
   simp only[cell1_store (x:=.str p.1) rfl rfl hnm]) ?_
  intro ρ8 a8 w8 hle8 R8 ht8 hd8
  have hdv1:(H.set (N+2*i) (.cells [.str p.1] 1 false)).get (N+2*i+1)=some (.cells [.nilFunc] 0 false):=by rw[AHeap.get_set,if_neg om]; exact hdv
  refine op_one htb C.s1 R8 ht8 hd8 (v:=undefA) (H1:=(H.set (N+2*i) (.cells [.str p.1] 1 false)).set (N+2*i+1) (.cells [p.2] 1 false)) (by
   simp only[aop,ev,aput]
   rw[get_set_eq,get_set_ne dD,get_set_ne dD,get_set_eq]
   simp only[cell1_store hpc hpo hdv1]) ?_
  intro ρ9 a9 w9 hle9 R9 ht9 hd9
  generalize hH9:(H.set (N+2*i) (.cells [.str p.1] 1 false)).set (N+2*i+1) (.cells [p.2] 1 false)=H9 at R9
  generalize hT9:aput (aput (aput (aput (aput (aput (aput T2 (some 25) (.tuple [.str p.1,p.2])) (some 26) (.str p.1)) (some 27) p.2) (some 5) (.ptr (some ⟨N+2*i,1,0⟩))) (some 6) (.ptr (some ⟨N+2*i+1,1,0⟩))) none undefA) none undefA=T9 at ht9
  have j1:T9.get 1=some rv:=by rw[← hT9]; simp only[aput]; rw[get_set_ne dD,get_set_ne dD,get_set_ne dD,get_set_ne dD,get_set_ne dD]; exact k1
  have j4:T9.get 4=some (.map (some m)):=by rw[← hT9]; simp only[aput]; rw[get_set_ne dD,get_set_ne dD,get_set_ne dD,get_set_ne dD,get_set_ne dD]; exact k4
  have j22:T9.get 22=some (.val (.pointer (some ⟨it,0,none⟩))):=by rw[← hT9]; simp only[aput]; rw[get_set_ne dD,get_set_ne dD,get_set_ne dD,get_set_ne dD,get_set_ne dD]; exact k22
  have j5:T9.get 5=some (.ptr (some ⟨N+2*i,1,0⟩)):=by rw[← hT9]; simp only[aput]; rw[get_set_ne dD,get_set_eq]
  have j6:T9.get 6=some (.ptr (some ⟨N+2*i+1,1,0⟩)):=by rw[← hT9]; simp only[aput]; rw[get_set_eq]
  have hm9:H9.get m=some (.map (entL N g rv s 0 ks) ks.length):=by rw[← hH9,AHeap.get_set,if_neg om,AHeap.get_set,if_neg om]; exact lh.map
  have hn9:H9.get (N+2*i)=some (.cells [.str p.1] 1 false):=by rw[← hH9,AHeap.get_set,if_neg om,AHeap.get_set,if_pos rfl]
  show Exit.then _ _ .normal a9 w9
  refine wp_region ?_
  rw[C.n6]
  show wpOps P A6 _ [0,1,2,3] a9 w9
  refine op_one htb C.m0 R9 ht9 hd9 (v:=.map (some m)) (H1:=H9) (by simp only[aop,ev_get j4]) ?_
  intro ρa aa wa hlea Ra hta hda
  refine op_one htb C.m1 Ra hta hda (v:=.str p.1) (H1:=H9) (by
   simp only[aop]
   rw[ev_get (show (aput T9 (some 28) (.map (some m))).get 5=_ by simp only[aput]; rw[get_set_ne dD]; exact j5),cell1_load (Nat.le_refl 1) hn9]; rfl) ?_
  intro ρb ab wb hleb Rb htb' hdb
  refine op_one htb C.m2 Rb htb' hdb (v:=cvL N g rv i) (H1:=H9) (by
   simp only[aop,evs]
   rw[ev_get (show (aput (aput T9 (some 28) (.map (some m))) (some 29) (.str p.1)).get 1=_ by simp only[aput]; rw[get_set_ne dD,get_set_ne dD]; exact j1),
    ev_get (show (aput (aput T9 (some 28) (.map (some m))) (some 29) (.str p.1)).get 5=_ by simp only[aput]; rw[get_set_ne dD,get_set_ne dD]; exact j5),
    ev_get (show (aput (aput T9 (some 28) (.map (some m))) (some 29) (.str p.1)).get 6=_ by simp only[aput]; rw[get_set_ne dD,get_set_ne dD]; exact j6)]
   rfl) ?_
  intro ρc ac wc hlec Rc htc hdc
  have hfnd:=entL_find (N:=N) (g:=g) (rv:=rv) s ks 0 0 i p hks hp
  have hset:=entL_set (N:=N) (g:=g) (rv:=rv) s ks 0 i p hp
  simp only[Nat.zero_add]at hfnd hset
  have hup:aHf (.mf (.upd .str)) H9 [.map (some m),.str p.1,cvL N g rv i]=some (.tuple [],H9.set m (.map (entL N g rv (upS s i) 0 ks) ks.length)):=by
   simp only[aHf,aMF,hm9,aMf,isK,cond_true,hfnd,hset]
  refine op_one htb C.m3 Rc htc hdc (v:=.tuple []) (H1:=H9.set m (.map (entL N g rv (upS s i) 0 ks) ks.length)) (by
   simp only[aop,evs]
   rw[ev_get (show (aput (aput (aput T9 (some 28) (.map (some m))) (some 29) (.str p.1)) (some 30) (cvL N g rv i)).get 28=some (.map (some m)) by simp only[aput]; rw[get_set_ne dD,get_set_ne dD,get_set_eq]),
    ev_get (show (aput (aput (aput T9 (some 28) (.map (some m))) (some 29) (.str p.1)) (some 30) (cvL N g rv i)).get 29=some (.str p.1) by simp only[aput]; rw[get_set_ne dD,get_set_eq]),
    ev_get (show (aput (aput (aput T9 (some 28) (.map (some m))) (some 29) (.str p.1)) (some 30) (cvL N g rv i)).get 30=some (cvL N g rv i) by simp only[aput]; rw[get_set_eq])]
   rw[hup]; rfl) ?_
  intro ρd ad wd hled Rd htd hdd
  have hle9:ρ2.le ρd:=Pl.le_trans hle4 (Pl.le_trans hle5 (Pl.le_trans hle6 (Pl.le_trans hle7 (Pl.le_trans hle8 (Pl.le_trans hle9 (Pl.le_trans hlea (Pl.le_trans hleb (Pl.le_trans hlec hled))))))))
  obtain⟨Re,hite⟩:=R2.unbase Rd
  show Exit.inBlock 1 _ .normal ad wd
  refine hgo i ρd _ _ ad wd (seen.push e3.born) hik hsi (Pl.le_trans hle2 hle9) ⟨Re.fewer fun d hd=>?_,⟨?_,?_,?_,?_,?_⟩,htd,hdd,?_,?_,?_,hle9 _ _ _ (hle2 _ _ _ mp),hite.trans hi2,?_⟩
  ·rcases hd with hd | ⟨j,hj,hsj,hdj⟩
   ·have:=hD d hd
    exact⟨⟨.inl hd,om⟩,om⟩
   ·have hji:j≠i:=fun e=>by rw[e,upS_same]at hsj; simp at hsj
    rw[upS_ne hji]at hsj
    exact⟨⟨.inr ⟨j,hj,hsj,hdj⟩,om⟩,om⟩
  ·show H9.next=_
   rw[← hH9]; exact lh.next
  ·intro b hb hbm
   rw[AHeap.get_set,if_neg hbm,← hH9,AHeap.get_set,if_neg om,AHeap.get_set,if_neg om]
   exact lh.old b hb hbm
  ·rw[AHeap.get_set,if_pos rfl]
  ·intro j q hq
   rw[AHeap.get_set,if_neg om,← hH9,AHeap.get_set,if_neg om,AHeap.get_set]
   by_cases hji:j=i
   ·subst hji
    rw[hp]at hq
    simp only[sJ]at hq
    subst hq
    rw[if_pos rfl,upS_same]; rfl
   ·rw[if_neg om,upS_ne hji]
    exact lh.nm j q hq
  ·intro j q hq
   rw[AHeap.get_set,if_neg om,← hH9,AHeap.get_set]
   by_cases hji:j=i
   ·subst hji
    rw[hp]at hq
    simp only[sJ]at hq
    subst hq
    rw[if_pos rfl,upS_same]; rfl
   ·rw[if_neg om,AHeap.get_set,if_neg om,upS_ne hji]
    exact lh.dv j q hq
  ·simp only[aput]; rw[get_set_ne dD,get_set_ne dD,get_set_ne dD]; exact j1
  ·simp only[aput]; rw[get_set_ne dD,get_set_ne dD,get_set_ne dD]; exact j4
  ·simp only[aput]; rw[get_set_ne dD,get_set_ne dD,get_set_ne dD]; exact j22
  ·intro j hj
   rw[contains_push,(hborn3 i e3 hie3).1,sn j hj]
   by_cases hji:j=i
   ·subst hji; rw[upS_same]; simp
   ·rw[upS_ne hji]; simp[hji]
end
end Go.Abs
namespace Go.Abs
section
variable {P:Program} {Prot:Gh} {w0:World} {ds:List Deferred} {n N m:Nat} {g:FuncId} {rv:AVal} {ks:List Key} {H0:AHeap} {it:Nat} {tb:FuncId→Bool} {A3 A4 A5 A6:Array Oper} {t0 t1:TypeId}
def remS(k:Nat)(s:Nat→Bool):Nat:=((List.range k).filter fun i=>!s i).length
theorem remS_up{k i:Nat}{s:Nat→Bool}(hi:i<k)(hs:s i=false):remS k (upS s i)<remS k s:=by
 unfold remS
 refine filter_lt (fun i=>!s i) (fun j=>!upS s i j) (fun x hx=>?_) i (by simp[hs]) (by simp[upS_same]) _ (List.mem_range.2 hi)
 by_cases h:x=i
 ·subst h; rw[upS_same]at hx; simp at hx
 ·rw[upS_ne h]at hx; exact hx
theorem rounds_ok(htb:∀f,Nat.blt f BIG=true→tb f=true→hasBody P f=true)(C:MLCode P n A4 A5 A6 g t0 t1)(hks:(ks.map (·.1)).Nodup)(hv:∀p∈ks,p.2.cells=[p.2]∧p.2.one=true)(hmN:m<N)(hD:∀d,Prot.dead d→d<N)(hip:¬Prot.prot it)
  {i4 i5 i6:Nat} {Q:Exit→Act→World→Prop} {L:Loc} {ρ0:Pl}
  (hend:∀s ρ' T' H' a' w' seen,ρ0.le ρ'→(∀i,i<ks.length→s i=true)→LInv Prot w0 ds n N m g rv ks H0 it s ρ' T' H' a' w' seen L→Q (.exit 0) a' w') :
  ∀(k:Nat) (s:Nat→Bool) (ρ:Pl) (T:Tr AVal) (H:AHeap) (a:Act) (w:World) (seen:Array Nat),ρ0.le ρ→remS ks.length s<k→LInv Prot w0 ds n N m g rv ks H0 it s ρ T H a w seen L→Code.rounds P (LBody i4 i5 i6 A4 A5 A6) Q k a w
 | 0,_,_,_,_,_,_,_,_,h,_=>absurd h (Nat.not_lt_zero _)
 | k+1,s,ρ,T,H,a,w,seen,hle,h,I=>by
  rw[rounds_succ]
  refine round_ok htb C hks hv hmN hD hip I (fun hall ρ' T' a' w' hl I'=>hend s ρ' T' H a' w' seen (Pl.le_trans hle hl) hall I') fun i ρ' T' H' a' w' seen' hi hs hl I'=>?_
  exact rounds_ok htb C hks hv hmN hD hip hend k _ ρ' T' H' a' w' seen' (Pl.le_trans hle hl) (by have:=remS_up hi hs; omega) I'
def pushZ:List Key→AHeap→AHeap
 | [],H=>H
 | _::r,H=>pushZ r ((H.push (.cells [.str []] 0 false)).push (.cells [.nilFunc] 0 false))
theorem pushZ_next:∀(ks:List Key) (H:AHeap),(pushZ ks H).next=H.next+2*ks.length
 | [],H=>rfl
 | p::r,H=>by
  simp only[pushZ,pushZ_next r,List.length_cons]
  show H.next+1+1+_=_
  omega
theorem pushZ_old:∀(ks:List Key) (H:AHeap) {b:Nat},b<H.next→(pushZ ks H).get b=H.get b
 | [],H,b,_=>rfl
 | p::r,H,b,h=>by
  simp only[pushZ]
  rw[pushZ_old r _ (b:=b) (show b<H.next+1+1 by omega),AHeap.get_push,if_neg (by show b≠H.next+1; omega),AHeap.get_push,if_neg om]
theorem pushZ_at:∀(ks:List Key) (H:AHeap) {i:Nat},i<ks.length→(pushZ ks H).get (H.next+2*i)=some (.cells [.str []] 0 false)∧(pushZ ks H).get (H.next+2*i+1)=some (.cells [.nilFunc] 0 false)
 | [],H,i,h=>absurd h (Nat.not_lt_zero _)
 | p::r,H,0,_=>by
  simp only[pushZ]
  rw[pushZ_old r _ (show H.next+2*0<H.next+1+1 by omega),pushZ_old r _ (show H.next+2*0+1<H.next+1+1 by omega)]
  refine⟨?_,?_⟩
  ·rw[AHeap.get_push,if_neg (by show H.next+2*0≠H.next+1; omega),AHeap.get_push,if_pos om]
  ·rw[AHeap.get_push,if_pos (by show H.next+2*0+1=H.next+1; omega)]
 | p::r,H,i+1,h=>by
  simp only[pushZ]
  have:=pushZ_at r ((H.push (.cells [.str []] 0 false)).push (.cells [.nilFunc] 0 false)) (i:=i) (by simpa using h)
  have e:((H.push (.cells [.str []] 0 false)).push (.cells [.nilFunc] 0 false)).next=H.next+2:=rfl
  rw[e]at this
  rw[show H.next+2*(i+1)=H.next+2+2*i by omega]
  exact this
theorem pushZ_rel{ρ:Pl}{w:World}{pr:Nat→Prop}:∀(ks:List Key) (D:Nat→Prop) (H:AHeap),Rel ⟨pr,D⟩ w0 ρ H w→Rel ⟨pr,fun d=>D d∨∃i,i<ks.length∧(d=H.next+2*i∨d=H.next+2*i+1)⟩ w0 ρ (pushZ ks H) w
 | [],D,H,R=>R.fewer fun d hd=>by
  rcases hd with hd | ⟨i,hi,_⟩
  ·exact hd
  ·exact absurd hi (Nat.not_lt_zero _)
 | p::r,D,H,R=>by
  have R1:=R.reserve (.cells [.str []] 0 false) rfl
  have R2:=R1.reserve (.cells [.nilFunc] 0 false) rfl
  have:=pushZ_rel r _ _ R2
  refine Rel.fewer this fun d hd=>?_
  rcases hd with hd | ⟨i,hi,hd⟩
  ·exact .inl (.inl (.inl hd))
  ·cases i with
   | zero=>
    rcases hd with hd | hd
    ·exact .inl (.inl (.inr om))
    ·exact .inl (.inr (show d=H.next+1 by omega))
   | succ i=>
    refine .inr ⟨i,by simpa using hi,?_⟩
    show d=H.next+1+1+2*i∨d=H.next+1+1+2*i+1
    omega
structure MLHead(P:Program)(n:Nat)(A3:Array Oper)(ty:TypeId):Prop where
 n3:A3.size=2
 mv:OpIs P n A3 0 (some 21) (.mv (.t 4))
 rg:OpAt n A3 1 (some 22) (.range ty (.tmp 21))
 ut:∃k e,P.underlying ty=some (.map k e)
theorem exec_range{a:Act}{w:World}{ty:Nat}{x:Value}(ho:OpAt n A3 1 (some 22) (.range ty (.tmp 21)))(hx:a.eval (.tmp 21)=x){u:Value}{w1:World}(hr:(Instr.range ty x).run P w=.ok u w1) :
  (execOp a.eval (opAt A3 1)).run P w=.ok (.value u) w1:=by
 have h:=ho.op
 generalize opAt A3 1=oo at *
 obtain⟨dst,op,type,pos,after,guard⟩:=oo
 simp only at h
 subst h
 show (do pure (Next.value (← Instr.range ty (a.eval (.tmp 21)))):Sem Next).run P w=_
 rw[hx]
 simp only[Sem.run_bind,hr,Result.andThen_ok]
 rfl
theorem below_alloc(w:World)(o:Obj):RowKit.Below w.heap.size w (w.alloc o):=by
 refine⟨rfl,rfl,rfl,?_,fun c hc=>?_⟩
 ·show w.heap.size≤(w.heap.push o).size
  simp
 ·exact heap_alloc_old w o hc
theorem mloop_ok(htb:∀f,Nat.blt f BIG=true→tb f=true→hasBody P f=true){ty:TypeId}(C3:MLHead P n A3 ty)(C:MLCode P n A4 A5 A6 g t0 t1)(hks:(ks.map (·.1)).Nodup)(hv:∀p∈ks,p.2.cells=[p.2]∧p.2.one=true)
  {ρ:Pl} {T:Tr AVal} {H:AHeap} {a:Act} {w:World} (R:Rel Prot w0 ρ H w) (ht:TmpsRel ρ n T a.tmps) (hd:a.defers=ds) (hm:H.get m=some (.map (entL H.next g rv (fun _=>false) 0 ks) ks.length)) (hmn:m<H.next) (g1:T.get 1=some rv) (g4:T.get 4=some (.map (some m)))
  {i3 i4 i5 i6:Nat} {Q:Exit→Act→World→Prop}
  (hQ:∀ρ' T' H' a' w' s,ρ.le ρ'→Rel Prot w0 ρ' H' w'→(∀i,i<ks.length→s i=true)→LH H.next m g rv ks H s H'→TmpsRel ρ' n T' a'.tmps→a'.defers=ds→T'.get 1=some rv→T'.get 4=some (.map (some m))→Q .normal a' w') :
  (Code.seq (.region i3 A3 false) (.block 0 (.loop (LBody i4 i5 i6 A4 A5 A6)))).wp P Q a w:=by
 have hD:∀d,Prot.dead d→d<H.next:=fun d h=>(R.dead d h).1
 refine wp_seq (wp_region ?_)
 rw[C3.n3]
 show wpOps P A3 _ [0,1] a w
 refine op_one htb C3.mv R ht hd (v:=.map (some m)) (H1:=H) (by simp only[aop,ev_get g4]) ?_
 intro ρ1 a1 w1 hle1 R1 ht1 hd1
 obtain⟨L,ES,hL,_,hb,hE⟩:=map_at R1 (mv:=a1.eval (.tmp 21)) (by have:=ht1.at_ 21; rw[ev_get (v:=.map (some m)) (by simp only[aput]; exact get_set_eq)]at this; exact this) hm
 have e21:a1.eval (.tmp 21)=.map (some L.c):=by
  have:=ht1.at_ 21
  rw[ev_get (v:=.map (some m)) (by simp only[aput]; exact get_set_eq)]at this
  simp only[VRel]at this
  obtain⟨L',h1,h2⟩:=this
  rw[hL]at h1
  simp only[sJ]at h1
  rw[h1]; exact h2
 obtain⟨kt,et,hut⟩:=C3.ut
 have hrg:=run_range_map w1 ty kt et L.c ES ks.length hut hb
 refine op_val C3.rg (exec_range C3.rg e21 hrg) ?_
 have R2:Rel Prot w0 ρ1 H (w1.alloc (.mapIter (some L.c) ks.length #[] ks.length)):=R1.keep (below_alloc _ _)
 have ht2:TmpsRel ρ1 n (aput (aput T (some 21) (.map (some m))) (some 22) (.val (.pointer (some ⟨w1.heap.size,0,none⟩)))) (a1.put (some 22) (.pointer (some ⟨w1.heap.size,0,none⟩))).tmps:=
  put_rel ht1 C3.rg.ok (by simp only[VRel]; exact⟨trivial,rfl⟩)
 have R3:=pushZ_rel ks Prot.dead H R2
 have hip:¬Prot.prot w1.heap.size:=fun h=>by
  have h1:=(R1.prot _ h).1
  have h2:=R1.size
  omega
 show Exit.then _ _ .normal _ _
 refine wp_block (wp_loop_rounds (ks.length+1) ?_)
 have hrem:remS ks.length (fun _=>false)<ks.length+1:=by
  have h:∀f:Nat→Bool,((List.range ks.length).filter f).length<ks.length+1:=fun f=>by
   have:=List.length_filter_le f (List.range ks.length)
   rw[List.length_range]at this
   omega
  exact h _
 refine rounds_ok (N:=H.next) (m:=m) (rv:=rv) (ks:=ks) (H0:=H) (it:=w1.heap.size) (ds:=ds) (L:=L) (ρ0:=ρ1) htb C hks hv hmn hD hip ?_ (ks.length+1) (fun _=>false) ρ1 _ (pushZ ks H) _ _ #[] (Pl.le_refl _) hrem
  ⟨R3.fewer fun d hd=>?_,⟨pushZ_next ks H,fun b hb _=>pushZ_old ks H hb,by rw[pushZ_old ks H hmn]; exact hm,fun i p hp=>?_,fun i p hp=>?_⟩,ht2,hd1,?_,?_,?_,hL,heap_alloc_new _ _,fun i _=>by simp⟩
 ·intro s ρ' T' H' a' w' seen hl hall I
  have hdead:∀d,¬deadL H.next ks s d:=by
   rintro d ⟨i,hi,hs,_⟩
   rw[hall i hi]at hs; simp at hs
  show Exit.inBlock 0 Q (.exit 0) a' w'
  simp only[Exit.inBlock,if_true]
  exact hQ ρ' T' H' a' w' s (Pl.le_trans hle1 hl) (I.rel.fewer fun d hd=>.inl hd) hall I.lh I.ht I.hd I.t1 I.t4
 ·rcases hd with hd | ⟨i,hi,_,hd⟩
  ·exact .inl hd
  ·exact .inr ⟨i,hi,hd⟩
 ·exact (pushZ_at ks H (List.getElem?_eq_some_iff.1 hp).1).1
 ·exact (pushZ_at ks H (List.getElem?_eq_some_iff.1 hp).1).2
 ·simp only[aput]; rw[get_set_ne dD,get_set_ne dD]; exact g1
 ·simp only[aput]; rw[get_set_ne dD,get_set_ne dD]; exact g4
 ·simp only[aput]; rw[get_set_eq]
end
end Go.Abs
namespace Go.Abs
open Go.Abs.S
def toExit:AEx→Exit
 | .normal=>.normal
 | .exit id=>.exit id
 | .ret=>.ret
section
variable {P:Program} {Prot:Gh} {w0:World} {ρ:Pl} {H:AHeap} {w:World}
theorem tb_noNat{tab:Tr AFn}(hT:TabOK P tab):∀f,Nat.blt f BIG=true→tbA noNat tab f=true→hasBody P f=true:=by
 intro f hf h
 have hg:∃fn,tab.get f=some fn:=by
  unfold tbA noNat at h
  simp only[cond_false]at h
  split at h
  ·exact⟨_,by assumption⟩
  ·simp at h
 obtain⟨fn,hg⟩:=hg
 obtain⟨md,he⟩:=hT _ _ hg
 rcases eFn_0 hf he with h9 | ⟨m,h9⟩
 ·obtain⟨fc,c,q1,q2,q3,_⟩:=cFn_spec h9; exact body_of hf q1 q2 q3
 ·obtain⟨fc,c,b,r,q1,q2,q3,_⟩:=cFnP_spec h9; exact body_of hf q1 q2 q3
theorem piece_ok(hfol:P.follows .mixedOrders=true){n:Nat}{c:Code}{ac:ACode}(hc:cCode P n c=some ac){Qs:Post}{T:Tr AVal}(h:wp (ACalls P noNat) ac Qs (en T) H){ds:List Deferred}{a:Act}(R:Rel Prot w0 ρ H w)(ht:TmpsRel ρ n T a.tmps)(hd:a.defers=ds)
  {Q:Exit→Act→World→Prop} (hQ:∀e T' H' ρ' a' w',Qs e (en T') H'→ρ.le ρ'→Rel Prot w0 ρ' H' w'→TmpsRel ρ' n T' a'.tmps→a'.defers=ds→Q (toExit e) a' w'):c.wp P Q a w:=by
 obtain⟨k,e,T',H',h1,h2⟩:=wp_sound _ _ _ _ h
 refine wp_mono (code_sim hfol (tb_noNat (tabP_ok P noNat)) (acall_ok hfol noNat_ok (tabP_ok P noNat) k) (ds:=ds) c ac hc ρ T T' H H' e a w R ht hd h1) ?_
 rintro e' a' w' ⟨he,ρ',hl,R',ht',hd'⟩
 have:=hQ e T' H' ρ' a' w' h2 hl R' ht' hd'
 cases e with
 | normal=>simp only at he; subst he; exact this
 | exit id=>simp only at he; subst he; exact this
 | ret=>simp only at he; subst he; exact this
end
end Go.Abs
namespace Go.Proofs.St
open Go.Abs Go.Abs.S
open Go Go.Abs Go.Abs.S
def cl:Code→Code
 | .seq a _=>a
 | c=>c
def cr:Code→Code
 | .seq _ b=>b
 | c=>c
def rgO:Code→Array Oper
 | .region _ ops _=>ops
 | _=>#[]
def rgI:Code→Nat
 | .region i _ _=>i
 | _=>0
def blC:Code→Code
 | .block _ c=>c
 | c=>c
def loC:Code→Code
 | .loop c=>c
 | c=>c
noncomputable section
def B20:Code:=match Tryz.f47.body with
 | some c=>c
 | none=>.skip
def X20:Code:=cl (cr (cr (cr B20)))
def R20:Code:=cr (cr (cr (cr B20)))
def LB20:Code:=loC (blC (cr X20))
def A3:Array Oper:=rgO (cl X20)
def A4:Array Oper:=rgO (cl LB20)
def A5:Array Oper:=rgO (cl (blC (cr (cr LB20))))
def A6:Array Oper:=rgO (cr (blC (cr (cr LB20))))
end
theorem b20:Tryz.f47.body=some B20:=by kernel_rfl
theorem shape20:B20=.seq (cl B20) (.seq (cl (cr B20)) (.seq (cl (cr (cr B20))) (.seq (.seq (.region (rgI (cl X20)) A3 false) (.block 0 (.loop (LBody (rgI (cl LB20)) (rgI (cl (blC (cr (cr LB20))))) (rgI (cr (blC (cr (cr LB20))))) A4 A5 A6)))) R20))):=by kernel_rfl
theorem head20:MLHead Tryz.prog 47 A3 129:=⟨by kernel_rfl,⟨by kernel_rfl,by kernel_rfl,by kernel_rfl,by kernel_rfl,by kernel_rfl⟩,⟨by kernel_rfl,by kernel_rfl,by kernel_rfl,by kernel_rfl,by kernel_rfl⟩,⟨_,_,Tryz.underlying129⟩⟩
theorem code20:MLCode Tryz.prog 47 A4 A5 A6 95 9 133:=⟨by kernel_rfl,⟨by kernel_rfl,by kernel_rfl,by kernel_rfl,by kernel_rfl,by kernel_rfl⟩,⟨by kernel_rfl,by kernel_rfl,by kernel_rfl,by kernel_rfl,by kernel_rfl⟩,by kernel_rfl,⟨by kernel_rfl,by kernel_rfl,by kernel_rfl,by kernel_rfl,by kernel_rfl⟩,⟨by kernel_rfl,by kernel_rfl,by kernel_rfl,by kernel_rfl,by kernel_rfl⟩,⟨by kernel_rfl,by kernel_rfl,by kernel_rfl,by kernel_rfl,by kernel_rfl⟩,⟨by kernel_rfl,by kernel_rfl,by kernel_rfl,by kernel_rfl,by kernel_rfl⟩,by kernel_rfl,⟨by kernel_rfl,by kernel_rfl,by kernel_rfl,by kernel_rfl,by kernel_rfl⟩,by kernel_rfl,⟨by kernel_rfl,by kernel_rfl,by kernel_rfl,by kernel_rfl,by kernel_rfl⟩,⟨by kernel_rfl,by kernel_rfl,by kernel_rfl,by kernel_rfl,by kernel_rfl⟩,by kernel_rfl,⟨by kernel_rfl,by kernel_rfl,by kernel_rfl,by kernel_rfl,by kernel_rfl⟩,⟨by kernel_rfl,by kernel_rfl,by kernel_rfl,by kernel_rfl,by kernel_rfl⟩,⟨by kernel_rfl,by kernel_rfl,by kernel_rfl,by kernel_rfl,by kernel_rfl⟩,⟨by kernel_rfl,by kernel_rfl,by kernel_rfl,by kernel_rfl,by kernel_rfl⟩⟩
def asl:ACode→ACode
 | .seq a _=>a
 | c=>c
def asr:ACode→ACode
 | .seq _ b=>b
 | c=>c
theorem p0:cCode Tryz.prog 47 (cl B20)=some (asl c47.body):=by kernel_rfl
theorem p1:cCode Tryz.prog 47 (cl (cr B20))=some (asl (asr c47.body)):=by kernel_rfl
theorem p2:cCode Tryz.prog 47 (cl (cr (cr B20)))=some (asl (asr (asr c47.body))):=by kernel_rfl
theorem p3:cCode Tryz.prog 47 R20=some (asr (asr (asr (asr c47.body)))):=by kernel_rfl
def ksL(sp:AVal):List Key:=[([115,105,122,101],.func (.func 80) [] [sp]),([115,97,109,112,108,101,115],.func (.func 82) [] [sp]),([98,111,117,110,99,101,115],.func (.func 83) [] [sp]),([115,101,101,100],.func (.func 84) [] [sp]),([101,121,101],.func (.func 86) [] [sp]),([97,116],.func (.func 89) [] [sp]),([117,112],.func (.func 90) [] [sp]),([119,105,100,101],.func (.func 91) [] [sp]),([115,107,121],.func (.func 93) [] [sp])]
def restL(rp r:AVal):List Ent:=[(.str [100,105,102,102,117,115,101],.func (.func 96) [] [rp],9),(.str [109,105,114,114,111,114],.func (.func 98) [] [rp],10),(.str [103,108,111,119],.func (.func 99) [] [rp],11),(.str [115,104,97,100,101,114],.func (.func 100) [r] [],12),(.str [98,97,108,108],.func (.func 101) [r] [],13),(.str [109,101,115,104],.func (.func 102) [r] [],14)]
theorem ks_nodup(sp:AVal):((ksL sp).map (·.1)).Nodup:=by
 show ([[115,105,122,101],[115,97,109,112,108,101,115],[98,111,117,110,99,101,115],[115,101,101,100],[101,121,101],[97,116],[117,112],[119,105,100,101],[115,107,121]]:List (List UInt8)).Nodup
 decide
theorem ks_one(sp:AVal):∀p∈ksL sp,p.2.cells=[p.2]∧p.2.one=true:=by
 intro p hp
 simp only[ksL,List.mem_cons,List.not_mem_nil,or_false]at hp
 rcases hp with rfl | rfl | rfl | rfl | rfl | rfl | rfl | rfl | rfl <;> exact⟨rfl,rfl⟩
theorem upd_new{H:AHeap}{m:Nat}{es:List Ent}{c:Nat}{k:List UInt8}{v:AVal}(hg:H.get m=some (.map es c))(hf:mFind .str (.str k) es 0=some none) :
  ∃H',aHf (.mf (.upd .str)) H [.map (some m),.str k,v]=some (.tuple [],H')∧H'.next=H.next∧H'.get m=some (.map (es++[(.str k,v,c)]) (c+1))∧∀b,b≠m→H'.get b=H.get b:=
 ⟨H.set m (.map (es++[(.str k,v,c)]) (c+1)),by simp only[aHf,aMF,hg,aMf,isK,cond_true,hf],rfl,by rw[AHeap.get_set,if_pos rfl],fun b hb=>by rw[AHeap.get_set,if_neg hb]⟩
def pushK:List Key→AHeap→AHeap
 | [],H=>H
 | (nm,v)::r,H=>pushK r ((H.push (.cells [.str nm] 1 false)).push (.cells [v] 1 false))
theorem pushK_next:∀(ks:List Key) (H:AHeap),(pushK ks H).next=H.next+2*ks.length
 | [],H=>rfl
 | p::r,H=>by
  obtain⟨a,b⟩:=p
  simp only[pushK,pushK_next r,List.length_cons]
  show H.next+1+1+_=_
  omega
theorem pushK_out:∀(ks:List Key) (H:AHeap) {b:Nat},(b<H.next∨H.next+2*ks.length≤b)→(pushK ks H).get b=H.get b
 | [],H,b,_=>rfl
 | (x,y)::r,H,b,h=>by
  simp only[pushK,List.length_cons]at h ⊢
  rw[pushK_out r _ (b:=b) (show b<H.next+1+1∨H.next+1+1+2*r.length≤b by omega),AHeap.get_push,if_neg (by show b≠H.next+1; omega),AHeap.get_push,if_neg om]
theorem pushK_at:∀(ks:List Key) (H:AHeap) {i:Nat} {p:Key},ks[i]?=some p→(pushK ks H).get (H.next+2*i)=some (.cells [.str p.1] 1 false)∧(pushK ks H).get (H.next+2*i+1)=some (.cells [p.2] 1 false)
 | [],H,i,p,h=>by simp at h
 | (x,y)::r,H,0,p,h=>by
  simp only[List.getElem?_cons_zero,sJ]at h
  subst h
  simp only[pushK]
  rw[pushK_out r _ (show H.next+2*0<H.next+1+1∨_ by omega),pushK_out r _ (show H.next+2*0+1<H.next+1+1∨_ by omega)]
  refine⟨?_,?_⟩
  ·rw[AHeap.get_push,if_neg (by show H.next+2*0≠H.next+1; omega),AHeap.get_push,if_pos om]
  ·rw[AHeap.get_push,if_pos (by show H.next+2*0+1=H.next+1; omega)]
 | (x,y)::r,H,i+1,p,h=>by
  simp only[List.getElem?_cons_succ]at h
  simp only[pushK]
  have:=pushK_at r ((H.push (.cells [.str x] 1 false)).push (.cells [y] 1 false)) h
  have e:((H.push (.cells [.str x] 1 false)).push (.cells [y] 1 false)).next=H.next+2:=rfl
  rw[e]at this
  rw[show H.next+2*(i+1)=H.next+2+2*i by omega]
  exact this
def preL(H:AHeap)(a:Ad):AHeap:=((H.push (.cells [.ptr (some a)] 0 false)).push (.cells [.ptr (some ⟨a.b,a.lim,a.o+0⟩)] 1 false)).push (.map [] 0)
def rpL(H:AHeap):AVal:=.ptr (some ⟨H.next,1,0⟩)
def spL(H:AHeap):AVal:=.ptr (some ⟨H.next+1,1,0⟩)
def allE(H:AHeap)(a:Ad):List Ent:=entL (H.next+3) 95 (rpL H) (fun _=>true) 0 (ksL (spL H))++restL (rpL H) (.ptr (some a))
def linesA(H:AHeap):List AVal→Option (AVal×AHeap)
 | [.ptr (some a)]=>some (.map (some (H.next+2)),(pushK (ksL (spL H)) (preL H a)).set (H.next+2) (.map (allE H a) 15))
 | _=>none
theorem _root_.Go.Abs.Rel.heap_eq'{Prot:Gh}{w0:World}{ρ:Pl}{H:AHeap}{w:World}(R:Rel Prot w0 ρ H w){H':AHeap}(hn:H'.next=H.next)(hg:∀b,b<H.next→H'.get b=H.get b)(hj:∀b l low,H.next≤b→H'.get b≠some (.cells l low true)):Rel Prot w0 ρ H' w:=by
 refine ⟨R.os, R.tape, R.output, R.size, R.prot, fun b l L h => by rw [hn]; exact R.dom b l L h, fun b l L h => by rw [hg b (R.dom b l L h).1]; exact R.obj b l L h, fun b l L x h hx => R.free b l L x h (by rw [← hg b (R.dom b l L h).1]; exact hx),
  fun b l L b' l' L' x h h' e hx => R.inj b l L b' l' L' x h h' e (by rw [← hg b (R.dom b l L h).1]; exact hx), fun b h => by rw [hn]; exact R.dead b h, fun b l low h => ?_⟩
 by_cases hb:b<H.next
 ·exact R.glob b l low (by rw[← hg b hb]; exact h)
 ·exact absurd h (hj b l low om)
theorem _root_.Go.Abs.Rel.junk{Prot:Gh}{w0:World}{ρ:Pl}{H:AHeap}{w:World}(R:Rel Prot w0 ρ H w)(b:Nat)(l:List AVal)(low:Nat)(hb:H.next≤b):H.get b≠some (.cells l low true):=fun h=>by
 obtain⟨L,h1,_⟩:=R.glob b l low h
 have:=(R.dom _ _ _ h1).1
 omega
theorem fol:(Tryz.prog).follows .mixedOrders=true:=by kernel_rfl
theorem pre_wp{H:AHeap}{a:Ad}{T:Env}(g0:T 0=.ptr (some a)) :
  wp (ACalls Tryz.prog noNat) (asl c47.body) (fun e T' H'=>e=.normal∧H'=H.push (.cells [.ptr (some a)] 0 false)∧T' 0=.ptr (some a)∧T' 1=rpL H) T H:=by
 have m1:oNew H [.ptr (some a)]=(rpL H,H.push (.cells [.ptr (some a)] 0 false)):=rfl
 simp only[c47,asl,sA,sB,seval,g0,AVal.cells,m1]
 exact⟨tt,tt,tt,tt⟩
theorem pre_wp1{H:AHeap}{a:Ad}{T:Env}(g1:T 1=rpL H) :
  wp (ACalls Tryz.prog noNat) (asl (asr c47.body)) (fun e T' H'=>e=.normal∧H'.next=H.next+2∧H'.get H.next=some (.cells [.ptr (some a)] 0 false)∧H'.get (H.next+1)=some (.cells [.ptr (some ⟨a.b,a.lim,a.o+0⟩)] 1 false)∧(∀b,b≠H.next→b≠H.next+1→H'.get b=H.get b)∧T' 1=rpL H∧T' 3=spL H) T (H.push (.cells [.ptr (some a)] 0 false)):=by
 have l1:oLoad false 1 (H.push (.cells [.ptr (some a)] 0 false)) (rpL H)=some (.ptr (some a)):=cell1_load (Nat.zero_le _) (by rw[AHeap.get_push,if_pos rfl])
 have e1:aNilChk (.ptr (some a))=some (.ptr (some a)):=rfl
 have e2:aField 0 (.ptr (some a))=some (.ptr (some ⟨a.b,a.lim,a.o+0⟩)):=rfl
 have m1:oNew (H.push (.cells [.ptr (some a)] 0 false)) [.ptr none]=(spL H,(H.push (.cells [.ptr (some a)] 0 false)).push (.cells [.ptr none] 0 false)):=rfl
 have m2:oStore 1 ((H.push (.cells [.ptr (some a)] 0 false)).push (.cells [.ptr none] 0 false)) (spL H) (.ptr (some ⟨a.b,a.lim,a.o+0⟩))=some (((H.push (.cells [.ptr (some a)] 0 false)).push (.cells [.ptr none] 0 false)).set (H.next+1) (.cells [.ptr (some ⟨a.b,a.lim,a.o+0⟩)] 1 false)):=cell1_store (y:=.ptr none) rfl rfl (by rw[AHeap.get_push,if_pos (by rfl)])
 simp only[c47,asl,asr,sA,sB,seval,g1,l1,e1,e2,m1,m2]
 refine⟨tt,rfl,?_,?_,fun b h1 h2=>?_,tt,tt⟩
 ·rw[AHeap.get_set,if_neg om,AHeap.get_push,if_neg (by show H.next≠H.next+1; omega),AHeap.get_push,if_pos rfl]
 ·rw[AHeap.get_set,if_pos rfl]
 ·rw[AHeap.get_set,if_neg h2,AHeap.get_push,if_neg (by show b≠H.next+1; omega),AHeap.get_push,if_neg h1]
theorem pre_wp2{H K:AHeap}{T:Env}(hK:K.next=H.next+2)(g1:T 1=rpL H)(g3:T 3=spL H) :
  wp (ACalls Tryz.prog noNat) (asl (asr (asr c47.body))) (fun e T' H'=>e=.normal∧H'.next=H.next+3∧H'.get (H.next+2)=some (.map (entL (H.next+3) 95 (rpL H) (fun _=>false) 0 (ksL (spL H))) 9)∧(∀b,b≠H.next+2→H'.get b=K.get b)∧T' 1=rpL H∧T' 4=.map (some (H.next+2))) T K:=by
 have mm:aHf .mkMap K []=some (.map (some (H.next+2)),K.push (.map [] 0)):=by rw[← hK]; rfl
 have q0:(K.push (.map [] 0)).get (H.next+2)=some (.map [] 0):=by rw[AHeap.get_push,if_pos hK.symm]
 have n0:(K.push (.map [] 0)).next=H.next+3:=by show K.next+1=_; omega
 have o0:∀b,b≠H.next+2→(K.push (.map [] 0)).get b=K.get b:=fun b hb=>by rw[AHeap.get_push,if_neg om]
 obtain⟨K1,m1,n1,q1,o1⟩:=upd_new (H:=(K.push (.map [] 0))) (v:=.func (.func 80) [] [spL H]) q0 (k:=[115,105,122,101]) rfl
 obtain⟨K2,m2,n2,q2,o2⟩:=upd_new (H:=K1) (v:=.func (.func 82) [] [spL H]) q1 (k:=[115,97,109,112,108,101,115]) rfl
 obtain⟨K3,m3,n3,q3,o3⟩:=upd_new (H:=K2) (v:=.func (.func 83) [] [spL H]) q2 (k:=[98,111,117,110,99,101,115]) rfl
 obtain⟨K4,m4,n4,q4,o4⟩:=upd_new (H:=K3) (v:=.func (.func 84) [] [spL H]) q3 (k:=[115,101,101,100]) rfl
 obtain⟨K5,m5,n5,q5,o5⟩:=upd_new (H:=K4) (v:=.func (.func 86) [] [spL H]) q4 (k:=[101,121,101]) rfl
 obtain⟨K6,m6,n6,q6,o6⟩:=upd_new (H:=K5) (v:=.func (.func 89) [] [spL H]) q5 (k:=[97,116]) rfl
 obtain⟨K7,m7,n7,q7,o7⟩:=upd_new (H:=K6) (v:=.func (.func 90) [] [spL H]) q6 (k:=[117,112]) rfl
 obtain⟨K8,m8,n8,q8,o8⟩:=upd_new (H:=K7) (v:=.func (.func 91) [] [spL H]) q7 (k:=[119,105,100,101]) rfl
 obtain⟨K9,m9,n9,q9,o9⟩:=upd_new (H:=K8) (v:=.func (.func 93) [] [spL H]) q8 (k:=[115,107,121]) rfl
 simp only[c47,asl,asr,sA,sB,seval,g1,g3,mm,m1,m2,m3,m4,m5,m6,m7,m8,m9]
 refine⟨tt,om,q9,fun b hb=>by rw[o9 b hb,o8 b hb,o7 b hb,o6 b hb,o5 b hb,o4 b hb,o3 b hb,o2 b hb,o1 b hb,o0 b hb],tt,tt⟩
theorem post_wp{H K:AHeap}{a:Ad}{T:Env}(hm:K.get (H.next+2)=some (.map (entL (H.next+3) 95 (rpL H) (fun _=>true) 0 (ksL (spL H))) 9))(hb:K.get H.next=some (.cells [.ptr (some a)] 0 false))(g1:T 1=rpL H)(g4:T 4=.map (some (H.next+2))) :
  wp (ACalls Tryz.prog noNat) (asr (asr (asr (asr c47.body)))) (fun e T' H'=>e=.ret∧H'.next=K.next∧H'.get (H.next+2)=some (.map (allE H a) 15)∧(∀b,b≠H.next+2→H'.get b=K.get b)∧T' 2=.map (some (H.next+2))) T K:=by
 obtain⟨K1,m1,n1,q1,o1⟩:=upd_new (H:=K) (v:=.func (.func 96) [] [rpL H]) hm (k:=[100,105,102,102,117,115,101]) rfl
 obtain⟨K2,m2,n2,q2,o2⟩:=upd_new (H:=K1) (v:=.func (.func 98) [] [rpL H]) q1 (k:=[109,105,114,114,111,114]) rfl
 obtain⟨K3,m3,n3,q3,o3⟩:=upd_new (H:=K2) (v:=.func (.func 99) [] [rpL H]) q2 (k:=[103,108,111,119]) rfl
 obtain⟨K4,m4,n4,q4,o4⟩:=upd_new (H:=K3) (v:=.func (.func 100) [.ptr (some a)] []) q3 (k:=[115,104,97,100,101,114]) rfl
 obtain⟨K5,m5,n5,q5,o5⟩:=upd_new (H:=K4) (v:=.func (.func 101) [.ptr (some a)] []) q4 (k:=[98,97,108,108]) rfl
 obtain⟨K6,m6,n6,q6,o6⟩:=upd_new (H:=K5) (v:=.func (.func 102) [.ptr (some a)] []) q5 (k:=[109,101,115,104]) rfl
 have lr:∀{J:AHeap},J.get H.next=K.get H.next→oLoad false 1 J (rpL H)=some (.ptr (some a)):=fun h=>cell1_load (Nat.zero_le _) (h.trans hb)
 have hne:H.next≠H.next+2:=om
 have l3:=lr (J:=K3) (by rw[o3 _ hne,o2 _ hne,o1 _ hne])
 have l4:=lr (J:=K4) (by rw[o4 _ hne,o3 _ hne,o2 _ hne,o1 _ hne])
 have l5:=lr (J:=K5) (by rw[o5 _ hne,o4 _ hne,o3 _ hne,o2 _ hne,o1 _ hne])
 simp only[c47,asr,sA,sB,seval,g1,g4,m1,m2,m3,m4,m5,m6,l3,l4,l5]
 refine⟨tt,om,q6,fun b hb=>by rw[o6 b hb,o5 b hb,o4 b hb,o3 b hb,o2 b hb,o1 b hb],tt⟩
theorem lines_run{args:List AVal}{H:AHeap}{v:AVal}{H':AHeap}(h:linesA H args=some (v,H'))(Prot:Gh)(w0:World)(ρ:Pl)(w:World)(vs:Array Value)(R:Rel Prot w0 ρ H w)(hv:VRels ρ args vs.toList) :
  Calls Tryz.prog 47 vs w fun e w'=>∃ρ' u,ρ.le ρ'∧e=.returned u∧Rel Prot w0 ρ' H' w'∧VRel ρ' v u:=by
 unfold linesA at h
 split at h <;> first | (simp at h; done) | skip
 rename_i a
 simp only[sJ,pJ]at h
 obtain⟨rfl,rfl⟩:=h
 refine calls_of_wp Tryz.func47 b20 ?_
 have hst:=start_sim (ρ:=ρ) hv (n:=47) (by simp)
 have hnt:Tryz.f47.ntmps=47:=by kernel_rfl
 rw[hnt,shape20]
 have hout:∀b l low,b<H.next∨H.next+21≤b→H.next≤b→H.get b≠some (.cells l low true):=fun b l low _ hb=>R.junk b l low hb
 refine wp_seq (piece_ok fol p0 (pre_wp (H:=H) (a:=a) rfl) (ds:=[]) R hst rfl ?_)
 rintro _ T1 _ ρ1 a1 w1 ⟨rfl,rfl,g0,g1⟩ hl1 R1 ht1 hd1
 refine wp_seq (piece_ok fol p1 (pre_wp1 (H:=H) (a:=a) g1) R1 ht1 hd1 ?_)
 rintro _ T2 K ρ2 a2 w2 ⟨rfl,n2,k0,k1,ko,g1,g3⟩ hl2 R2 ht2 hd2
 refine wp_seq (piece_ok fol p2 (pre_wp2 (H:=H) n2 g1 g3) R2 ht2 hd2 ?_)
 rintro _ T3 K3 ρ3 a3 w3 ⟨rfl,n3,k3,ko3,g1,g4⟩ hl3 R3 ht3 hd3
 have tget:∀{T:Tr AVal} {t:Nat} {v:AVal},en T t=v→v≠undefA→T.get t=some v:=by
  intro T t v h hv
  unfold en ev at h
  simp only at h
  split at h
  ·rw[← h]; assumption
  ·exact absurd h.symm hv
 have hks:=ks_nodup (spL H)
 rw[← n3]at k3
 refine wp_seq (mloop_ok (m:=H.next+2) (rv:=rpL H) (ks:=ksL (spL H)) (fun f hf h=>tb_noNat (tabP_ok Tryz.prog noNat) f hf h) head20 code20 hks (ks_one _) R3 ht3 hd3 k3 om (tget g1 (by unfold rpL undefA; simp)) (tget g4 (by unfold undefA; simp)) ?_)
 intro ρ4 T4 K4 a4 w4 s hl4 R4 hall lh ht4 hd4 g1' g4'
 have hmap:K4.get (H.next+2)=some (.map (entL (H.next+3) 95 (rpL H) (fun _=>true) 0 (ksL (spL H))) 9):=by
  rw[lh.map,n3]
  have key:∀(ks:List Key) (k:Nat),(∀i,i<ks.length→s (k+i)=true)→entL (H.next+3) 95 (rpL H) s k ks=entL (H.next+3) 95 (rpL H) (fun _=>true) k ks:=by
   intro ks
   induction ks with
   | nil=>intro k _; rfl
   | cons p r ih=>
    intro k hk
    obtain⟨x,y⟩:=p
    have h0:=hk 0 (by simp)
    rw[Nat.add_zero]at h0
    simp only[entL,h0,ih (k+1) fun i hi=>by rw[show k+1+i=k+(i+1) by omega]; exact hk (i+1) (by simp; omega)]
  rw[key (ksL (spL H)) 0 fun i hi=>by rw[Nat.zero_add]; exact hall i hi]
  rfl
 have hbox:K4.get H.next=some (.cells [.ptr (some a)] 0 false):=by rw[lh.old _ om om,ko3 _ om]; exact k0
 refine piece_ok fol p3 (post_wp (H:=H) (a:=a) hmap hbox (by simp only[en,ev,g1']) (by simp only[en,ev,g4'])) R4 ht4 hd4 ?_
 rintro _ T5 K5 ρ5 a5 w5 ⟨rfl,n5,k5,ko5,g2⟩ hl5 R5 ht5 hd5
 have hres:cRes Tryz.prog Tryz.f47.results.toList=some c47.res:=by kernel_rfl
 obtain⟨u,r1,r2⟩:=results_sim (P:=Tryz.prog) (fn:=Tryz.f47) R5 ht5 hres (xs:=[.map (some (H.next+2))]) (by
  have:=tget g2 (by unfold undefA; simp)
  show ares T5 K5 [.t 2]=_
  simp only[ares,ev,this])
 have hle:ρ.le ρ5:=Pl.le_trans hl1 (Pl.le_trans hl2 (Pl.le_trans hl3 (Pl.le_trans hl4 hl5)))
 have hnx:K4.next=H.next+21:=by rw[lh.next,n3]; rfl
 have hpn:(preL H a).next=H.next+3:=rfl
 have hcn:(pushK (ksL (spL H)) (preL H a)).next=H.next+21:=by rw[pushK_next,hpn]; rfl
 have pre0:∀b,b<H.next→(preL H a).get b=H.get b:=fun b hb=>by
  unfold preL
  rw[AHeap.get_push,if_neg (by show b≠H.next+1+1; omega),AHeap.get_push,if_neg (by show b≠H.next+1; omega),AHeap.get_push,if_neg om]
 have preB:∀b,H.next+3≤b→(preL H a).get b=H.get b:=fun b hb=>by
  unfold preL
  rw[AHeap.get_push,if_neg (by show b≠H.next+1+1; omega),AHeap.get_push,if_neg (by show b≠H.next+1; omega),AHeap.get_push,if_neg om]
 have pre1:(preL H a).get H.next=some (.cells [.ptr (some a)] 0 false):=by
  unfold preL
  rw[AHeap.get_push,if_neg (by show H.next≠H.next+1+1; omega),AHeap.get_push,if_neg (by show H.next≠H.next+1; omega),AHeap.get_push,if_pos rfl]
 have pre2:(preL H a).get (H.next+1)=some (.cells [.ptr (some ⟨a.b,a.lim,a.o+0⟩)] 1 false):=by
  unfold preL
  rw[AHeap.get_push,if_neg (by show H.next+1≠H.next+1+1; omega),AHeap.get_push,if_pos (by rfl)]
 refine⟨hd5,u,r1,ρ5,u,hle,rfl,R5.heap_eq' ?_ (fun b hb=>?_) (fun b l low hb=>?_),r2⟩
 ·show (pushK (ksL (spL H)) (preL H a)).next=_
  rw[hcn,n5,hnx]
 ·rw[n5,hnx]at hb
  rw[AHeap.get_set]
  by_cases hm:b=H.next+2
  ·subst hm; rw[if_pos rfl,k5]
  ·rw[if_neg hm,ko5 b hm]
   by_cases h3:b<H.next+3
   ·rw[pushK_out _ _ (.inl (by rw[hpn]; exact h3)),lh.old b om hm,ko3 b hm]
    by_cases h0:b=H.next
    ·subst h0; rw[pre1,k0]
    by_cases h1:b=H.next+1
    ·subst h1; rw[pre2,k1]
    rw[pre0 b om,ko b h0 h1]
   ·obtain⟨i,hi⟩:∃i,b=H.next+3+2*i∨b=H.next+3+2*i+1:=⟨(b-(H.next+3)) / 2,om⟩
    have hik:i<(ksL (spL H)).length:=by show i<9; omega
    have hp:=List.getElem?_eq_getElem hik
    have hat:=pushK_at (ksL (spL H)) (preL H a) hp
    rw[hpn]at hat
    have hnm:=lh.nm i _ hp
    have hdv:=lh.dv i _ hp
    rw[hall i hik,n3]at hnm hdv
    rcases hi with rfl | rfl
    ·rw[hat.1,hnm]; rfl
    ·rw[hat.2,hdv]; rfl
 ·rw[n5,hnx]at hb
  rw[AHeap.get_set,if_neg om,pushK_out _ _ (.inr (by rw[hpn]; show H.next+3+2*9≤b; omega)),preB b om]
  exact R.junk b l low om
end Go.Proofs.St
