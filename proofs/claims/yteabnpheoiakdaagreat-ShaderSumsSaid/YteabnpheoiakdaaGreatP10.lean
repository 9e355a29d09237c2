/- Part of a proof (QPH QT1 QT2 QT4 QC2 QP1 QP2 QP3 QP4 QP5); no condition. -/
import Derived.Test.YteabnpheoiakdaaGreatProg
import Derived.KernelRfl
import Derived.Test.YteabnpheoiakdaaGreatP8
import Derived.Test.YteabnpheoiakdaaGreatP9
set_option linter.unusedSimpArgs false
set_option linter.unusedVariables false
set_option linter.unnecessarySimpa false
namespace Go.Proofs.Wo
open Go.Abs Go.Abs.S
def jt(P:Nat->Prop)(H:ae)(m:Nat)(v:aa)(k:Nat)(C:List aa):Prop:=
 (OL v=true/\k=0/\C=[])∨∃a r,v=.slice (some a) k r/\P a.b/\bE H a (m*k)=some C
theorem jt.mono{P Q:Nat->Prop}{H H':ae}{m k:Nat}{v:aa}{C:List aa}(h:jt P H m v k C)(q:∀b,P b->Q b/\H'.get b=H.get b):jt Q H' m v k C:=by
 rcases h with h | ⟨a,r,h1,h2,h3⟩
 ·exact .inl h
 ·exact .inr ⟨a,r,h1,(q _ h2).1,by rw[td (q _ h2).2]; exact h3⟩
theorem jt.one{P:Nat->Prop}{H:ae}{m k:Nat}{v:aa}{C:List aa}(h:jt P H m v k C):v.one=true:=by
 rcases h with⟨h,_⟩ | ⟨a,r,rfl,_⟩
 ·exact Lo h
 ·rfl
theorem jt.len{P:Nat->Prop}{H:ae}{m k:Nat}{v:aa}{C:List aa}(h:jt P H m v k C):iT false v=some (.int .i64 (k:Int)):=by
 rcases h with⟨h,rfl,_⟩ | ⟨a,r,rfl,_⟩
 ·rcases iz h with rfl | ⟨a,rfl⟩ <;> rfl
 ·rfl
theorem jt.nil(P:Nat->Prop)(H:ae)(m:Nat):jt P H m bJ 0 []:=.inl ⟨rfl,rfl,rfl⟩
theorem jt.app{P:Nat->Prop}{H:ae}{m k:Nat}{v:aa}{C:List aa}(h:ig m 0 H v C k)(hb:da v P):jt P H m v k C:=by
 rcases h with⟨rfl,rfl,rfl⟩ | ⟨b,low,rfl,h2,h3,h4,h5,h6,h7⟩
 ·exact .nil P H m
 ·refine .inr ⟨_,_,rfl,hb _ _ _ rfl,?_⟩
  rw[<- h2]
  exact gR h5 h6
def cC(m:Nat)(v:aa)(i:Nat):aa:=match v with
 | .slice (some a) _ _=>.ptr (some ⟨a.b,a.lim,a.o+i*m⟩)
 | _=>aR
theorem jt.idx{P:Nat->Prop}{H:ae}{m k:Nat}{v:aa}{C:List aa}(h:jt P H m v k C){i:Nat}(hi:i<k):iU m v (.int .i64 (i:Int))=some (cC m v i):=by
 rcases h with⟨_,rfl,_⟩ | ⟨a,r,rfl,_⟩
 ·omega
 ·show (bif Nat.blt i k then some (aa.ptr (some ⟨a.b,a.lim,a.o+i*m⟩)) else none)=_
  rw[show Nat.blt i k=true by simpa[Nat.blt_eq] using hi]; rfl
theorem xp{H:ae}{a:Ad}{n i j:Nat}{C:List aa}(h:bE H a n=some C)(hij:i+j<=n):bE H ⟨a.b,a.lim,a.o+i⟩ j=some ((C.drop i).take j):=by
 obtain⟨l,low,ro,mk,h1,h2,h3,h4,rfl⟩:=oz h
 unfold bE
 simp only[h1,SD h2,SD h3,SD (show a.o+i+j<=a.lim by omega),Bool.and_self,cond_true]
 rw[List.drop_take,List.take_take,Nat.min_eq_left om,List.drop_drop]
theorem jt.aeq{P:Nat->Prop}{H:ae}{m k:Nat}{v:aa}{C:List aa}(h:jt P H m v k C):aeq v v=true:=by
 rcases h with⟨h,_⟩ | ⟨a,r,rfl,_⟩
 ·rcases iz h with rfl | ⟨a,rfl⟩
  ·exact uj
  ·simp[Go.Abs.aeq]
 ·cases r <;> simp[Go.Abs.aeq]
mutual
def XE(P:Nat->Prop)(H:ae):Ex->List aa->Prop
 | .mk k s n kids,c=>∃v C,c=[.int .u8 (k:Int),.str s,.int .i64 n,v]/\jt P H 4 v kids.length C/\AH P H kids C
def AH(P:Nat->Prop)(H:ae):List Ex->List aa->Prop
 | [],C=>C=[]
 | e::l,C=>∃c D,C=c++D/\XE P H e c/\AH P H l D
end
theorem XE.len{P:Nat->Prop}{H:ae}{e:Ex}{c:List aa}(h:XE P H e c):c.length=4:=by
 cases e; obtain⟨v,C,rfl,_⟩:=h; rfl
theorem XE.one{P:Nat->Prop}{H:ae}{e:Ex}{c:List aa}(h:XE P H e c):c.all aa.one=true:=by
 cases e; obtain⟨v,C,rfl,h2,_⟩:=h
 simp only[List.all_cons,List.all_nil,h2.one]; rfl
theorem XE.aeqs{P:Nat->Prop}{H:ae}{e:Ex}{c:List aa}(h:XE P H e c):aeqs c c=true:=by
 cases e; obtain⟨v,C,rfl,h2,_⟩:=h
 simp[Go.Abs.aeqs,dE,rN,h2.aeq]
mutual
theorem XE.mono{P Q:Nat->Prop}{H H':ae}(q:∀b,P b->Q b/\H'.get b=H.get b):∀{e:Ex} {c:List aa},XE P H e c->XE Q H' e c
 | .mk _ _ _ _,_,h=>by
  obtain⟨v,C,h1,h2,h3⟩:=h
  exact⟨v,C,h1,h2.mono q,AH.mono q h3⟩
theorem AH.mono{P Q:Nat->Prop}{H H':ae}(q:∀b,P b->Q b/\H'.get b=H.get b):∀{l:List Ex} {C:List aa},AH P H l C->AH Q H' l C
 | [],_,h=>h
 | _::_,_,h=>by
  obtain⟨c,D,h1,h2,h3⟩:=h
  exact⟨c,D,h1,XE.mono q h2,AH.mono q h3⟩
end
theorem AH.len{P:Nat->Prop}{H:ae}:∀{l:List Ex} {C:List aa},AH P H l C->C.length=4*l.length
 | [],_,h=>by rw[show _=[] from h]; rfl
 | _::l,_,⟨c,D,h1,h2,h3⟩=>by
  rw[h1,lA,h2.len,AH.len h3,SF]; omega
theorem AH.at{P:Nat->Prop}{H:ae}:∀{l:List Ex} {C:List aa},AH P H l C->∀{i:Nat} {e:Ex},l[i]?=some e->XE P H e ((C.drop (i*4)).take 4)
 | [],_,_,i,e,hi=>by simp at hi
 | x::l,_,⟨c,D,h1,h2,h3⟩,i,e,hi=>by
  subst h1
  have hl:=h2.len
  cases i with
  | zero=>
   simp only[SL,sJ]at hi
   subst hi
   rw[Nat.zero_mul,List.drop_zero,List.take_append_of_le_length om,List.take_of_length_le om]
   exact h2
  | succ i=>
   rw[SN]at hi
   have:=AH.at h3 hi
   rw[show (i+1)*4=c.length+i*4 by omega,List.drop_append,List.drop_of_length_le om,List.nil_append,show c.length+i*4-c.length=i*4 by omega]
   exact this
mutual
def XS(P:Nat->Prop)(H:ae):St->List aa->Prop
 | .mk k s e body els line,c=>∃ce vb Cb ve Ce,c=.int .u8 (k:Int)::.str s::(ce++[vb,ve,.int .i64 line])/\XE P H e ce/\jt P H 9 vb body.length Cb/\uu P H body Cb/\jt P H 9 ve els.length Ce/\uu P H els Ce
def uu(P:Nat->Prop)(H:ae):List St->List aa->Prop
 | [],C=>C=[]
 | e::l,C=>∃c D,C=c++D/\XS P H e c/\uu P H l D
end
theorem XS.len{P:Nat->Prop}{H:ae}{e:St}{c:List aa}(h:XS P H e c):c.length=9:=by
 cases e; obtain⟨ce,vb,Cb,ve,Ce,rfl,h2,_⟩:=h
 simp[h2.len]
theorem XS.one{P:Nat->Prop}{H:ae}{e:St}{c:List aa}(h:XS P H e c):c.all aa.one=true:=by
 cases e; obtain⟨ce,vb,Cb,ve,Ce,rfl,h2,h3,_,h5,_⟩:=h
 simp only[List.all_cons,List.all_append,List.all_nil,h2.one,h3.one,h5.one]; rfl
theorem Aw:∀{l m l' m':List aa},aeqs l l'=true->aeqs m m'=true->aeqs (l++m) (l'++m')=true
 | [],_,[],_,_,h=>h
 | [],_,_::_,_,h,_=>by simp[Go.Abs.aeqs]at h
 | _::_,_,[],_,h,_=>by simp[Go.Abs.aeqs]at h
 | x::l,m,y::l',m',h,h'=>by
  simp only[Go.Abs.aeqs,SE]at h
  simp only[SX,Go.Abs.aeqs,h.1,Aw h.2 h',Bool.and_self]
theorem XS.aeqs{P:Nat->Prop}{H:ae}{e:St}{c:List aa}(h:XS P H e c):aeqs c c=true:=by
 cases e; obtain⟨ce,vb,Cb,ve,Ce,rfl,h2,h3,_,h5,_⟩:=h
 simp only[Go.Abs.aeqs,dE,rN,Bool.true_and]
 exact Aw h2.aeqs (by simp[Go.Abs.aeqs,h3.aeq,h5.aeq,dE])
mutual
theorem XS.mono{P Q:Nat->Prop}{H H':ae}(q:∀b,P b->Q b/\H'.get b=H.get b):∀{e:St} {c:List aa},XS P H e c->XS Q H' e c
 | .mk _ _ _ _ _ _,_,h=>by
  obtain⟨ce,vb,Cb,ve,Ce,h1,h2,h3,h4,h5,h6⟩:=h
  exact⟨ce,vb,Cb,ve,Ce,h1,h2.mono q,h3.mono q,uu.mono q h4,h5.mono q,uu.mono q h6⟩
theorem uu.mono{P Q:Nat->Prop}{H H':ae}(q:∀b,P b->Q b/\H'.get b=H.get b):∀{l:List St} {C:List aa},uu P H l C->uu Q H' l C
 | [],_,h=>h
 | _::_,_,h=>by
  obtain⟨c,D,h1,h2,h3⟩:=h
  exact⟨c,D,h1,XS.mono q h2,uu.mono q h3⟩
end
theorem uu.len{P:Nat->Prop}{H:ae}:∀{l:List St} {C:List aa},uu P H l C->C.length=9*l.length
 | [],_,h=>by rw[show _=[] from h]; rfl
 | _::l,_,⟨c,D,h1,h2,h3⟩=>by
  rw[h1,lA,h2.len,uu.len h3,SF]; omega
theorem uu.at{P:Nat->Prop}{H:ae}:∀{l:List St} {C:List aa},uu P H l C->∀{i:Nat} {e:St},l[i]?=some e->XS P H e ((C.drop (i*9)).take 9)
 | [],_,_,i,e,hi=>by simp at hi
 | x::l,_,⟨c,D,h1,h2,h3⟩,i,e,hi=>by
  subst h1
  have hl:=h2.len
  cases i with
  | zero=>
   simp only[SL,sJ]at hi
   subst hi
   rw[Nat.zero_mul,List.drop_zero,List.take_append_of_le_length om,List.take_of_length_le om]
   exact h2
  | succ i=>
   rw[SN]at hi
   have:=uu.at h3 hi
   rw[show (i+1)*9=c.length+i*9 by omega,List.drop_append,List.drop_of_length_le om,List.nil_append,show c.length+i*9-c.length=i*9 by omega]
   exact this
def In(n m:Nat)(c:Nat):Prop:=n<=c/\c<m
def GE(n:Nat)(H:ae)(v:aa)(l:List Ex):Prop:=∃C,ig 4 0 H v C l.length/\da v (In n H.next)/\AH (fun c=>In n H.next c/\da v (c≠·)) H l C
open Go.Abs Go.Abs.S
def qi:List (Bs×(List Nat×Nat)):=
 [([118, 101, 99], ([1, 1, 1], 2)), ([120], ([2], 1)), ([121], ([2], 1)), ([122], ([2], 1)), ([100, 111, 116], ([2, 2], 1)), ([99, 114, 111, 115, 115], ([2, 2], 2)),
  ([117, 110, 105, 116], ([2], 2)), ([115, 113, 114, 116], ([1], 1)), ([115, 105, 110], ([1], 1)), ([99, 111, 115], ([1], 1)), ([97, 98, 115], ([1], 1)),
  ([102, 108, 111, 111, 114], ([1], 1)), ([109, 105, 110], ([1, 1], 1)), ([109, 97, 120], ([1, 1], 1)), ([115, 97, 109, 112, 108, 101], ([1, 1], 2))]
def hD{α:Type}:List (Bs×α)->Bs->Option α
 | [],_=>none
 | x::l,s=>if x.1=s then some x.2 else hD l s
def Sf:List Bs:=[[124,124],[38,38],[61,61],[33,61],[60,61],[62,61],[60],[62]]
def iG(s:Bs)(a b:Nat):Nat:=
 if s∈Sf then (if a=1/\b=1 then 1 else 0)
 else if s=[43]∨s=[45] then (if a=b then a else 0)
 else if s=[42] then (if a=1 then b else if b=1 then a else 0)
 else if s=[47] then (if b=1 then a else 0)
 else 0
def E0(s:Bs):List Nat->Nat
 | [a]=>if s=[45]∨(s=[33]/\a=1) then a else 0
 | [a,b]=>iG s a b
 | _=>0
abbrev bC:=List (Bs×Nat)
def jk:bC->Bs->Option Nat
 | [],_=>none
 | x::l,s=>match jk l s with
  | some t=>some t
  | none=>if x.1=s then some x.2 else none
def oU(s:Bs)(ts:List Nat):Except Nat Nat:=match hD qi s with
 | none=>.error 110
 | some (args,own)=>if ts.length≠args.length then .error 112 else if ts≠args then .error 111 else .ok own
def oL(E:bC)(k:Nat)(s:Bs)(ts:List Nat):Except Nat Nat:=
 if k=1 then .ok 1
 else if k=2 then (match jk E s with | some t=>.ok t | none=>.error 110)
 else if k=3 then (if E0 s ts=0 then .error 111 else .ok (E0 s ts))
 else if k=4 then oU s ts
 else .error 111
mutual
def rz(E:bC):Ex->Except Nat Nat
 | .mk k s _ kids=>match ez E kids with
  | .error e=>.error e
  | .ok ts=>oL E k s ts
def ez(E:bC):List Ex->Except Nat (List Nat)
 | []=>.ok []
 | e::l=>match rz E e with
  | .error f=>.error f
  | .ok t=>match ez E l with
   | .error f=>.error f
   | .ok ts=>.ok (t::ts)
end
def Cm(a:Except Nat (List Nat))(b:Except Nat (List Nat)):Except Nat (List Nat):=match a with
 | .error e=>.error e
 | .ok x=>match b with
  | .error e=>.error e
  | .ok y=>.ok (x++y)
theorem sE(E:bC)(m:List Ex):∀l:List Ex,ez E (l++m)=Cm (ez E l) (ez E m)
 | []=>by
  simp only[List.nil_append,ez,Cm]
  cases ez E m <;> rfl
 | e::l=>by
  simp only[SX,ez,sE E m l]
  cases rz E e with
  | error f=>rfl
  | ok t=>
   cases ez E l with
   | error f=>rfl
   | ok ts=>cases ez E m <;> rfl
theorem ED{E:bC}{l:List Ex}{e:Ex}{ts:List Nat}(h:ez E l=.ok ts):ez E (l++[e])=match rz E e with | .error f=>.error f | .ok t=>.ok (ts++[t]):=by
 rw[sE,h]
 simp only[Cm,ez]
 cases rz E e <;> rfl
theorem GM{E:bC}{l:List Ex}{e:Ex}{f:Nat}(i:Nat)(h:∃ts,ez E (l.take i)=.ok ts)(hi:l[i]?=some e)(he:rz E e=.error f):ez E l=.error f:=by
 obtain⟨ts,h⟩:=h
 have hlt:i<l.length:=(SC.1 hi).1
 have hd:l=l.take i++(e::l.drop (i+1)):=by
  rw[<- (SC.1 hi).2,<- List.drop_eq_getElem_cons hlt,List.take_append_drop]
 rw[hd,sE,h]
 simp only[Cm,ez,he]
theorem sC{E:bC}:∀{l:List Ex} {ts:List Nat},ez E l=.ok ts->ts.length=l.length
 | [],ts,h=>by simp only[ez,Except.ok.injEq]at h; subst h; rfl
 | e::l,ts,h=>by
  simp only[ez]at h
  cases he:rz E e with
  | error f=>rw[he]at h; simp at h
  | ok t=>
   rw[he]at h
   cases hl:ez E l with
   | error f=>rw[hl]at h; simp at h
   | ok us=>
    rw[hl]at h
    simp only[Except.ok.injEq]at h
    subst h
    rw[SF,SF,sC hl]
theorem tw(x:Bs×Nat)(s:Bs):∀E:bC,jk (E++[x]) s=if x.1=s then some x.2 else jk E s
 | []=>rfl
 | y::E=>by
  simp only[SX,jk,tw x s E]
  by_cases h:x.1=s
  ·simp only[if_pos h]
  ·simp only[if_neg h]
def fB:bC:=[([117],1),([118],1),([112],2),([110],2)]
structure uH(E:bC):Prop where
 four:E.take 4=fB
 once:(E.map (·.1)).Nodup
 kind:∀x∈E,x.2=1∨x.2=2
theorem uH.len{E:bC}(h:uH E):4<=E.length:=by
 have:=congrArg List.length h.four
 rw[SZ]at this
 simp only[fB,SF,SG]at this
 omega
theorem uH.given:uH fB:=⟨rfl,by decide,by decide⟩
theorem uH.snoc{E:bC}{s:Bs}{t:Nat}(h:uH E)(hs:s∉E.map (·.1))(ht:t=1∨t=2):uH (E++[(s,t)]):=by
 refine⟨?_,?_,?_⟩
 ·rw[List.take_append_of_le_length h.len]; exact h.four
 ·rw[List.map_append,List.nodup_append]
  refine⟨h.once,by simp,?_⟩
  intro a ha b hb e
  simp only[List.map_cons,List.map_nil,List.mem_singleton]at hb
  subst hb; subst e
  exact hs ha
 ·intro x hx
  rcases List.mem_append.1 hx with hx | hx
  ·exact h.kind x hx
  ·rw[List.mem_singleton.1 hx]; exact ht
theorem vW{s:Bs}{t:Nat}:∀{E:bC},jk E s=some t->(s,t)∈E
 | [],h=>by simp[jk]at h
 | x::E,h=>by
  simp only[jk]at h
  cases hl:jk E s with
  | some u=>
   rw[hl]at h
   simp only[sJ]at h
   subst h
   exact List.mem_cons_of_mem _ (vW hl)
  | none=>
   rw[hl]at h
   by_cases hx:x.1=s
   ·rw[if_pos hx]at h
    simp only[sJ]at h
    subst h; subst hx
    exact List.mem_cons_self ..
   ·rw[if_neg hx]at h; simp at h
theorem KM{s:Bs}{ts:List Nat}(h:∀t∈ts,t=1∨t=2)(hn:E0 s ts≠0):E0 s ts=1∨E0 s ts=2:=by
 match ts,h,hn with
 | [],_,hn=>exact absurd rfl hn
 | [a],h,hn=>
  simp only[E0]at hn ⊢
  by_cases q:s=[45]∨(s=[33]/\a=1)
  ·rw[if_pos q]; exact h a (by simp)
  ·rw[if_neg q]at hn; exact absurd rfl hn
 | [a,b],h,hn=>
  have ha:=h a (by simp)
  have hb:=h b (by simp)
  simp only[E0,iG]at hn ⊢
  repeat' split
  all_goals first | exact .inl rfl | exact ha | exact hb | simp_all
 | _::_::_::_,_,hn=>exact absurd rfl hn
theorem BX:∀x∈qi,x.2.2=1∨x.2.2=2:=by decide
theorem qh{α:Type}{s:Bs}{x:α}:∀{l:List (Bs×α)},hD l s=some x->(s,x)∈l
 | [],h=>by simp[hD]at h
 | y::l,h=>by
  simp only[hD]at h
  by_cases hy:y.1=s
  ·rw[if_pos hy]at h
   simp only[sJ]at h
   subst h; subst hy
   exact List.mem_cons_self ..
  ·rw[if_neg hy]at h
   exact List.mem_cons_of_mem _ (qh h)
theorem FR{s:Bs}{ts:List Nat}{t:Nat}(h:oU s ts=.ok t):t=1∨t=2:=by
 unfold oU at h
 cases ha:hD qi s with
 | none=>rw[ha]at h; simp at h
 | some x=>
  obtain⟨args,own⟩:=x
  rw[ha]at h
  simp only at h
  by_cases h1:ts.length≠args.length
  ·rw[if_pos h1]at h; simp at h
  rw[if_neg h1]at h
  by_cases h2:ts≠args
  ·rw[if_pos h2]at h; simp at h
  rw[if_neg h2]at h
  simp only[Except.ok.injEq]at h
  subst h
  exact BX _ (qh ha)
theorem Fv{E:bC}(hE:uH E){k:Nat}{s:Bs}{ts:List Nat}(hts:∀t∈ts,t=1∨t=2){t:Nat}(h:oL E k s ts=.ok t):t=1∨t=2:=by
 unfold oL at h
 by_cases h1:k=1
 ·rw[if_pos h1]at h
  simp only[Except.ok.injEq]at h
  omega
 rw[if_neg h1]at h
 by_cases h2:k=2
 ·rw[if_pos h2]at h
  cases hl:jk E s with
  | none=>rw[hl]at h; simp at h
  | some u=>
   rw[hl]at h
   simp only[Except.ok.injEq]at h
   subst h
   exact hE.kind _ (vW hl)
 rw[if_neg h2]at h
 by_cases h3:k=3
 ·rw[if_pos h3]at h
  by_cases h0:E0 s ts=0
  ·rw[if_pos h0]at h; simp at h
  ·rw[if_neg h0]at h
   simp only[Except.ok.injEq]at h
   subst h
   exact KM hts h0
 rw[if_neg h3]at h
 by_cases h4:k=4
 ·rw[if_pos h4]at h
  exact FR h
 ·rw[if_neg h4]at h; simp at h
mutual
theorem wZ{E:bC}(hE:uH E):∀{e:Ex} {t:Nat},rz E e=.ok t->t=1∨t=2
 | .mk k s n kids,t,h=>by
  simp only[rz]at h
  cases hk:ez E kids with
  | error f=>rw[hk]at h; simp at h
  | ok ts=>
   rw[hk]at h
   exact Fv hE (sy hE hk) h
theorem sy{E:bC}(hE:uH E):∀{l:List Ex} {ts:List Nat},ez E l=.ok ts->∀t∈ts,t=1∨t=2
 | [],ts,h=>by simp only[ez,Except.ok.injEq]at h; subst h; simp
 | e::l,ts,h=>by
  simp only[ez]at h
  cases he:rz E e with
  | error f=>rw[he]at h; simp at h
  | ok t=>
   rw[he]at h
   cases hl:ez E l with
   | error f=>rw[hl]at h; simp at h
   | ok us=>
    rw[hl]at h
    simp only[Except.ok.injEq]at h
    subst h
    intro u hu
    rcases List.mem_cons.1 hu with rfl | hu
    ·exact wZ hE he
    ·exact sy hE hl u hu
end
def cy(s:Bs):bC->Option Nat
 | []=>none
 | x::l=>if x.1=s then some 0 else (cy s l).map (·+1)
def lC(E:bC)(k:Nat)(s:Bs)(t:Nat):Except Nat bC:=
 if k=1 then (if s∈E.map (·.1) then .error 110 else .ok (E++[(s,t)]))
 else if k=2 then (match cy s E with
  | none=>.error 110
  | some i=>if i<4 then .error 110 else match E[i]? with
   | some x=>if x.2=t then .ok E else .error 111
   | none=>.error 110)
 else if k=3∨k=4 then (if t=2 then .error 111 else .ok E)
 else if k=5 then (if t=1 then .error 111 else .ok E)
 else .ok E
def Cu(E:bC)(k:Nat)(s:Bs)(e:Ex):Except Nat bC:=match rz E e with
 | .error f=>.error f
 | .ok t=>lC E k s t
abbrev vd:=Nat×Int
def St.kind:St->Nat
 | .mk k _ _ _ _ _=>k
def St.line:St->Int
 | .mk _ _ _ _ _ n=>n
mutual
def Gw(E:bC):St->Except vd bC
 | .mk k s e body els line=>match Cu E k s e with
  | .error f=>.error (f,line)
  | .ok E'=>match ib E' false body with
   | .error f=>.error f
   | .ok _=>match ib E' false els with
    | .error f=>.error f
    | .ok _=>.ok E'
def ib(E:bC)(ret:Bool):List St->Except vd bC
 | []=>.ok E
 | x::l=>if ret then .error (113,x.line) else match Gw E x with
  | .error f=>.error f
  | .ok E'=>ib E' (decide (x.kind=5)) l
end
mutual
def Kx:St->Bool
 | .mk k _ _ body els _=>decide (k=5)||(decide (k=3)&&(qV body&&qV els))
def qV:List St->Bool
 | []=>false
 | [x]=>Kx x
 | _::y::l=>qV (y::l)
end
def jy(l:List St):vd:=if iD l then (match ib fB false l with
  | .error f=>f
  | .ok _=>if qV l then (0,0) else (113,0)) else (103,0)
theorem FB{E E':bC}(hE:uH E){k:Nat}{s:Bs}{t:Nat}(ht:t=1∨t=2)(h:lC E k s t=.ok E'):uH E':=by
 unfold lC at h
 repeat' split at h
 all_goals first
  | (simp at h; done)
  | (simp only[Except.ok.injEq]at h; subst h; first | exact hE | exact hE.snoc ‹_› ht)
theorem Cs{E E':bC}(hE:uH E){k:Nat}{s:Bs}{e:Ex}(h:Cu E k s e=.ok E'):uH E':=by
 unfold Cu at h
 cases he:rz E e with
 | error f=>rw[he]at h; simp at h
 | ok t=>rw[he]at h; exact FB hE (wZ hE he) h
theorem we{s:Bs}:∀{E:bC} {i:Nat},cy s E=some i->∃t,E[i]?=some (s,t)
 | [],i,h=>by simp[cy]at h
 | x::E,i,h=>by
  simp only[cy]at h
  by_cases hx:x.1=s
  ·rw[if_pos hx]at h
   simp only[sJ]at h
   subst h; subst hx
   exact⟨x.2,rfl⟩
  ·rw[if_neg hx]at h
   cases hf:cy s E with
   | none=>rw[hf]at h; simp at h
   | some j=>
    rw[hf]at h
    simp only[Option.map_some,sJ]at h
    subst h
    obtain⟨t,ht⟩:=we hf
    exact⟨t,by rw[SN]; exact ht⟩
theorem lE{s:Bs}:∀{E:bC},cy s E=none↔s∉E.map (·.1)
 | []=>by simp[cy]
 | x::E=>by
  simp only[cy,List.map_cons,List.mem_cons,not_or]
  by_cases hx:x.1=s
  ·simp[hx]
  ·rw[if_neg hx,Option.map_eq_none_iff,lE]
   constructor
   ·intro h; exact⟨fun e=>hx e.symm,h⟩
   ·intro h; exact h.2
open Go.Abs Go.Abs.S
def ep(E:bC)(e:Ex):Nat:=match rz E e with
 | .ok t=>t
 | .error _=>0
open Go.Abs Go.Abs.S
def ql(P:Nat->Prop)(H:ae)(m:Nat)(v:aa)(k:Nat)(C:List aa):Prop:=
 (OL v=true/\k=0/\C=[])∨∃b low r,v=.slice (some ⟨b,C.length,0⟩) k r/\P b/\H.get b=some (.cells C low false)/\low<=C.length/\C.length=m*k
theorem ql.sl{P:Nat->Prop}{H:ae}{m k:Nat}{v:aa}{C:List aa}(h:ql P H m v k C):jt P H m v k C:=by
 rcases h with h | ⟨b,low,r,h1,h2,h3,h4,h5⟩
 ·exact .inl h
 ·refine .inr ⟨_,r,h1,h2,?_⟩
  rw[<- h5]; exact gR h3 h4
theorem ql.mono{P Q:Nat->Prop}{H H':ae}{m k:Nat}{v:aa}{C:List aa}(h:ql P H m v k C)(q:∀b,P b->Q b/\H'.get b=H.get b):ql Q H' m v k C:=by
 rcases h with h | ⟨b,low,r,h1,h2,h3,h4,h5⟩
 ·exact .inl h
 ·exact .inr ⟨b,low,r,h1,(q b h2).1,(q b h2).2.trans h3,h4,h5⟩
theorem ql.app{P:Nat->Prop}{H:ae}{m k:Nat}{v:aa}{C:List aa}(h:ig m 0 H v C k)(hb:da v P):ql P H m v k C:=by
 rcases h with⟨rfl,rfl,rfl⟩ | ⟨b,low,rfl,h2,h3,h4,h5,h6,h7⟩
 ·exact .inl ⟨rfl,rfl,rfl⟩
 ·exact .inr ⟨b,low,_,rfl,hb _ _ _ rfl,h5,h6,h2⟩
theorem ql.row{P:Nat->Prop}{H:ae}{m k n:Nat}{b:Nat}{r:uy}{C:List aa}(h:a6 H b C)(hn:C.length=n)(hk:m*k=n)(hp:P b):ql P H m (.slice (some ⟨b,n,0⟩) k r) k C:=by
 subst hn
 obtain⟨low,h1,h2⟩:=h
 exact .inr ⟨b,low,r,rfl,hp,h1,h2,hk.symm⟩
theorem ql.one{P:Nat->Prop}{H:ae}{m k:Nat}{v:aa}{C:List aa}(h:ql P H m v k C):v.one=true:=h.sl.one
theorem ql.aeq{P:Nat->Prop}{H:ae}{m k:Nat}{v:aa}{C:List aa}(h:ql P H m v k C):aeq v v=true:=h.sl.aeq
theorem ql.nil(P:Nat->Prop)(H:ae)(m:Nat):ql P H m bJ 0 []:=.inl ⟨rfl,rfl,rfl⟩
mutual
def lU(P:Nat->Prop)(H:ae):Ex->List aa->Prop
 | .mk k s n kids,c=>∃v C,c=[.int .u8 (k:Int),.str s,.int .i64 n,v]/\ql P H 4 v kids.length C/\dF P H kids C
def dF(P:Nat->Prop)(H:ae):List Ex->List aa->Prop
 | [],C=>C=[]
 | e::l,C=>∃c D,C=c++D/\lU P H e c/\dF P H l D
end
mutual
theorem lU.xe{P:Nat->Prop}{H:ae}:∀{e:Ex} {c:List aa},lU P H e c->XE P H e c
 | .mk _ _ _ _,_,⟨v,C,h1,h2,h3⟩=>⟨v,C,h1,h2.sl,dF.xes h3⟩
theorem dF.xes{P:Nat->Prop}{H:ae}:∀{l:List Ex} {C:List aa},dF P H l C->AH P H l C
 | [],_,h=>h
 | _::_,_,⟨c,D,h1,h2,h3⟩=>⟨c,D,h1,lU.xe h2,dF.xes h3⟩
end
mutual
theorem lU.mono{P Q:Nat->Prop}{H H':ae}(q:∀b,P b->Q b/\H'.get b=H.get b):∀{e:Ex} {c:List aa},lU P H e c->lU Q H' e c
 | .mk _ _ _ _,_,⟨v,C,h1,h2,h3⟩=>⟨v,C,h1,h2.mono q,dF.mono q h3⟩
theorem dF.mono{P Q:Nat->Prop}{H H':ae}(q:∀b,P b->Q b/\H'.get b=H.get b):∀{l:List Ex} {C:List aa},dF P H l C->dF Q H' l C
 | [],_,h=>h
 | _::_,_,⟨c,D,h1,h2,h3⟩=>⟨c,D,h1,lU.mono q h2,dF.mono q h3⟩
end
theorem lU.len{P:Nat->Prop}{H:ae}{e:Ex}{c:List aa}(h:lU P H e c):c.length=4:=h.xe.len
theorem lU.one{P:Nat->Prop}{H:ae}{e:Ex}{c:List aa}(h:lU P H e c):c.all aa.one=true:=h.xe.one
theorem lU.aeqs{P:Nat->Prop}{H:ae}{e:Ex}{c:List aa}(h:lU P H e c):aeqs c c=true:=h.xe.aeqs
theorem dF.len{P:Nat->Prop}{H:ae}{l:List Ex}{C:List aa}(h:dF P H l C):C.length=4*l.length:=h.xes.len
theorem dF.app{P:Nat->Prop}{H:ae}{l':List Ex}{C':List aa}(h':dF P H l' C'):∀{l:List Ex} {C:List aa},dF P H l C->dF P H (l++l') (C++C')
 | [],_,h=>by rw[show _=[] from h]; exact h'
 | _::l,_,⟨c,D,h1,h2,h3⟩=>⟨c,D++C',by rw[h1,SQ],h2,dF.app h' h3⟩
theorem dF.sing{P:Nat->Prop}{H:ae}{e:Ex}{c:List aa}(h:lU P H e c):dF P H [e] c:=⟨c,[],by simp,h,rfl⟩
theorem dF.at{P:Nat->Prop}{H:ae}:∀{l:List Ex} {C:List aa},dF P H l C->∀{i:Nat} {e:Ex},l[i]?=some e->lU P H e ((C.drop (i*4)).take 4)
 | [],_,_,i,e,hi=>by simp at hi
 | x::l,_,⟨c,D,h1,h2,h3⟩,i,e,hi=>by
  subst h1
  have hl:=h2.len
  cases i with
  | zero=>
   simp only[SL,sJ]at hi
   subst hi
   rw[Nat.zero_mul,List.drop_zero,List.take_append_of_le_length om,List.take_of_length_le om]
   exact h2
  | succ i=>
   rw[SN]at hi
   have:=dF.at h3 hi
   rw[show (i+1)*4=c.length+i*4 by omega,List.drop_append,List.drop_of_length_le om,List.nil_append,show c.length+i*4-c.length=i*4 by omega]
   exact this
theorem ql.same{P Q:Nat->Prop}{H:ae}{m k k':Nat}{v:aa}{C C':List aa}(h:ql P H m v k C)(h':ql Q H m v k' C'):k=k'/\C=C':=by
 rcases h with⟨h1,h2,h3⟩ | ⟨b,low,r,h1,h2,h3,h4,h5⟩
 ·rcases h' with⟨_,g2,g3⟩ | ⟨b,low,r,g1,g2,g3,g4,g5⟩
  ·exact⟨h2.trans g2.symm,h3.trans g3.symm⟩
  ·rcases iz h1 with e | ⟨a,e⟩ <;> rw[e]at g1 <;> simp[bJ]at g1
 ·rcases h' with⟨g1,g2,g3⟩ | ⟨b',low',r',g1,g2,g3,g4,g5⟩
  ·rcases iz g1 with e | ⟨a,e⟩ <;> rw[e]at h1 <;> simp[bJ]at h1
  ·rw[h1]at g1
   simp only[aa.slice.injEq,sJ,Ad.mk.injEq]at g1
   obtain⟨⟨rfl,_,_⟩,rfl,_⟩:=g1
   rw[h3]at g3
   simp only[sJ,cJ.cells.injEq]at g3
   exact⟨rfl,g3.1⟩
mutual
theorem lU.same{P Q:Nat->Prop}{H:ae}:∀{e e':Ex} {c:List aa},lU P H e c->lU Q H e' c->e=e'
 | .mk k s n kids,.mk k' s' n' kids',c,⟨v,C,h1,h2,h3⟩,⟨v',C',g1,g2,g3⟩=>by
  rw[h1]at g1
  simp only[List.cons.injEq,aa.int.injEq,true_and,aa.str.injEq,and_true]at g1
  obtain⟨q1,q2,q3,q4⟩:=g1
  subst q4
  obtain⟨q5,rfl⟩:=h2.same g2
  rw[dF.same q5 h3 g3,q2,q3,show k=k' by omega]
theorem dF.same{P Q:Nat->Prop}{H:ae}:∀{l l':List Ex} {C:List aa},l.length=l'.length->dF P H l C->dF Q H l' C->l=l'
 | [],[],_,_,_,_=>rfl
 | [],_::_,_,h,_,_=>by simp at h
 | _::_,[],_,h,_,_=>by simp at h
 | e::l,e'::l',C,h,⟨c,D,h1,h2,h3⟩,⟨c',D',g1,g2,g3⟩=>by
  rw[h1]at g1
  obtain⟨rfl,rfl⟩:=List.append_inj g1 (h2.len.trans g2.len.symm)
  rw[lU.same h2 g2,dF.same (by simpa using h) h3 g3]
end
mutual
def ut(P:Nat->Prop)(H:ae):St->List aa->Prop
 | .mk k s e body els line,c=>∃ce vb Cb ve Ce,c=.int .u8 (k:Int)::.str s::(ce++[vb,ve,.int .i64 line])/\lU P H e ce/\jt P H 9 vb body.length Cb/\dL P H body Cb/\jt P H 9 ve els.length Ce/\dL P H els Ce
def dL(P:Nat->Prop)(H:ae):List St->List aa->Prop
 | [],C=>C=[]
 | e::l,C=>∃c D,C=c++D/\ut P H e c/\dL P H l D
end
mutual
theorem ut.xs{P:Nat->Prop}{H:ae}:∀{e:St} {c:List aa},ut P H e c->XS P H e c
 | .mk _ _ _ _ _ _,_,⟨ce,vb,Cb,ve,Ce,h1,h2,h3,h4,h5,h6⟩=>⟨ce,vb,Cb,ve,Ce,h1,h2.xe,h3,dL.xss h4,h5,dL.xss h6⟩
theorem dL.xss{P:Nat->Prop}{H:ae}:∀{l:List St} {C:List aa},dL P H l C->uu P H l C
 | [],_,h=>h
 | _::_,_,⟨c,D,h1,h2,h3⟩=>⟨c,D,h1,ut.xs h2,dL.xss h3⟩
end
mutual
theorem ut.mono{P Q:Nat->Prop}{H H':ae}(q:∀b,P b->Q b/\H'.get b=H.get b):∀{e:St} {c:List aa},ut P H e c->ut Q H' e c
 | .mk _ _ _ _ _ _,_,⟨ce,vb,Cb,ve,Ce,h1,h2,h3,h4,h5,h6⟩=>⟨ce,vb,Cb,ve,Ce,h1,h2.mono q,h3.mono q,dL.mono q h4,h5.mono q,dL.mono q h6⟩
theorem dL.mono{P Q:Nat->Prop}{H H':ae}(q:∀b,P b->Q b/\H'.get b=H.get b):∀{l:List St} {C:List aa},dL P H l C->dL Q H' l C
 | [],_,h=>h
 | _::_,_,⟨c,D,h1,h2,h3⟩=>⟨c,D,h1,ut.mono q h2,dL.mono q h3⟩
end
theorem ut.one{P:Nat->Prop}{H:ae}{e:St}{c:List aa}(h:ut P H e c):c.all aa.one=true:=h.xs.one
theorem ut.len{P:Nat->Prop}{H:ae}{e:St}{c:List aa}(h:ut P H e c):c.length=9:=h.xs.len
theorem ut.aeqs{P:Nat->Prop}{H:ae}{e:St}{c:List aa}(h:ut P H e c):aeqs c c=true:=h.xs.aeqs
theorem dL.len{P:Nat->Prop}{H:ae}{l:List St}{C:List aa}(h:dL P H l C):C.length=9*l.length:=h.xss.len
theorem dL.app{P:Nat->Prop}{H:ae}{l':List St}{C':List aa}(h':dL P H l' C'):∀{l:List St} {C:List aa},dL P H l C->dL P H (l++l') (C++C')
 | [],_,h=>by rw[show _=[] from h]; exact h'
 | _::l,_,⟨c,D,h1,h2,h3⟩=>⟨c,D++C',by rw[h1,SQ],h2,dL.app h' h3⟩
theorem dL.sing{P:Nat->Prop}{H:ae}{e:St}{c:List aa}(h:ut P H e c):dL P H [e] c:=⟨c,[],by simp,h,rfl⟩
theorem dL.at{P:Nat->Prop}{H:ae}:∀{l:List St} {C:List aa},dL P H l C->∀{i:Nat} {e:St},l[i]?=some e->ut P H e ((C.drop (i*9)).take 9)
 | [],_,_,i,e,hi=>by simp at hi
 | x::l,_,⟨c,D,h1,h2,h3⟩,i,e,hi=>by
  subst h1
  have hl:=h2.xs.len
  cases i with
  | zero=>
   simp only[SL,sJ]at hi
   subst hi
   rw[Nat.zero_mul,List.drop_zero,List.take_append_of_le_length om,List.take_of_length_le om]
   exact h2
  | succ i=>
   rw[SN]at hi
   have:=dL.at h3 hi
   rw[show (i+1)*9=c.length+i*9 by omega,List.drop_append,List.drop_of_length_le om,List.nil_append,show c.length+i*9-c.length=i*9 by omega]
   exact this
def Ej(n:Nat)(H:ae)(v:aa)(l:List Ex):Prop:=∃C,ig 4 0 H v C l.length/\da v (In n H.next)/\dF (fun c=>In n H.next c/\da v (c≠·)) H l C
theorem Ej.nil(n:Nat)(H:ae):Ej n H bJ []:=⟨[],.nil _ _ _,mF _,rfl⟩
theorem Ej.keep{n:Nat}{H H':ae}{v:aa}{l:List Ex}(h:Ej n H v l)(hn:H.next<=H'.next)(e:∀c,In n H.next c->H'.get c=H.get c):Ej n H' v l:=by
 obtain⟨C,h1,h2,h3⟩:=h
 exact⟨C,h1.same hn (h2.mono fun b hb=>e b hb),h2.mono fun b hb=>⟨hb.1,SR hb.2 hn⟩,h3.mono fun b hb=>⟨⟨⟨hb.1.1,SR hb.1.2 hn⟩,hb.2⟩,e b hb.1⟩⟩
theorem Ej.sl{n:Nat}{H:ae}{v:aa}{l:List Ex}(h:Ej n H v l):∃C,ql (In n H.next) H 4 v l.length C/\dF (In n H.next) H l C:=by
 obtain⟨C,h1,h2,h3⟩:=h
 exact⟨C,.app h1 h2,h3.mono fun b hb=>⟨hb.1,rfl⟩⟩
theorem Ej.push{n m:Nat}{H:ae}{v:aa}{l:List Ex}(h:Ej n H v l){e:Ex}{xs:List aa}(hx:lU (In m H.next) H e xs)(hm:n<=m)(hn:n<=H.next)(hv:da v (·<m))(hl:l.length<=1000000){bytes:Nat}(hb1:0<bytes)(hb2:bytes<=1000) :
  ∃v' H',bQ 4 bytes (H.push (.cells xs 0 false)) v (pP H 4)=some (v',H')/\Ej n H' v' (l++[e])/\H.next<=H'.next/\∀c,c<H.next->da v (c≠·)->H'.get c=H.get c:=by
 obtain⟨C,h1,h2,h3⟩:=h
 have hb:2*(l.length+1)*bytes<=281474976710656:=by
  have:2*(l.length+1)*bytes<=2*(1000000+1)*1000:=Nat.mul_le_mul om hb2
  omega
 obtain⟨v',H',a1,a2,a3,a4,a5⟩:=h1.pushB hx.len hx.xe.one om hb hb1
 have k:∀c,In n H.next c->da v (c≠·)->In n H'.next c/\da v' (c≠·):=by
  intro c hc hd
  refine⟨⟨hc.1,SR hc.2 a3⟩,(a4 _ hd).mono fun b hb=>?_⟩
  rcases hb with hb | hb
  ·exact hb
  ·have:=hc.2; omega
 refine⟨v',H',a1,⟨C++xs,by rw[lA]; exact a2,?_,dF.app (dF.sing ?_) ?_⟩,a3,a5⟩
 ·intro a j r e
  refine⟨?_,a2.blk' a j r e⟩
  rcases (a4 _ h2) a j r e with hb | hb
  ·exact hb.1
  ·omega
 ·refine hx.mono fun b hb=>⟨?_,a5 b hb.2 ?_⟩
  ·exact k b ⟨Nat.le_trans hm hb.1,hb.2⟩ (hv.mono fun c hc=>by have:=hb.1; omega)
  ·exact hv.mono fun c hc=>by have:=hb.1; omega
 ·exact h3.mono fun b hb=>⟨k b hb.1 hb.2,a5 b hb.1.2 hb.2⟩
def pv(n:Nat)(H:ae)(v:aa)(l:List St):Prop:=∃C,ig 9 0 H v C l.length/\da v (In n H.next)/\dL (fun c=>In n H.next c/\da v (c≠·)) H l C
theorem pv.nil(n:Nat)(H:ae):pv n H bJ []:=⟨[],.nil _ _ _,mF _,rfl⟩
theorem pv.keep{n:Nat}{H H':ae}{v:aa}{l:List St}(h:pv n H v l)(hn:H.next<=H'.next)(e:∀c,In n H.next c->H'.get c=H.get c):pv n H' v l:=by
 obtain⟨C,h1,h2,h3⟩:=h
 exact⟨C,h1.same hn (h2.mono fun b hb=>e b hb),h2.mono fun b hb=>⟨hb.1,SR hb.2 hn⟩,h3.mono fun b hb=>⟨⟨⟨hb.1.1,SR hb.1.2 hn⟩,hb.2⟩,e b hb.1⟩⟩
theorem pv.sl{n:Nat}{H:ae}{v:aa}{l:List St}(h:pv n H v l):∃C,jt (In n H.next) H 9 v l.length C/\dL (In n H.next) H l C:=by
 obtain⟨C,h1,h2,h3⟩:=h
 exact⟨C,.app h1 h2,h3.mono fun b hb=>⟨hb.1,rfl⟩⟩
theorem pv.push{n m:Nat}{H:ae}{v:aa}{l:List St}(h:pv n H v l){e:St}{xs:List aa}(hx:ut (In m H.next) H e xs)(hm:n<=m)(hn:n<=H.next)(hv:da v (·<m))(hl:l.length<=1000000){bytes:Nat}(hb1:0<bytes)(hb2:bytes<=1000) :
  ∃v' H',bQ 9 bytes (H.push (.cells xs 0 false)) v (pP H 9)=some (v',H')/\pv n H' v' (l++[e])/\H.next<=H'.next/\∀c,c<H.next->da v (c≠·)->H'.get c=H.get c:=by
 obtain⟨C,h1,h2,h3⟩:=h
 have hb:2*(l.length+1)*bytes<=281474976710656:=by
  have:2*(l.length+1)*bytes<=2*(1000000+1)*1000:=Nat.mul_le_mul om hb2
  omega
 obtain⟨v',H',a1,a2,a3,a4,a5⟩:=h1.pushB hx.xs.len hx.xs.one om hb hb1
 have k:∀c,In n H.next c->da v (c≠·)->In n H'.next c/\da v' (c≠·):=by
  intro c hc hd
  refine⟨⟨hc.1,SR hc.2 a3⟩,(a4 _ hd).mono fun b hb=>?_⟩
  rcases hb with hb | hb
  ·exact hb
  ·have:=hc.2; omega
 refine⟨v',H',a1,⟨C++xs,by rw[lA]; exact a2,?_,dL.app (dL.sing ?_) ?_⟩,a3,a5⟩
 ·intro a j r e
  refine⟨?_,a2.blk' a j r e⟩
  rcases (a4 _ h2) a j r e with hb | hb
  ·exact hb.1
  ·omega
 ·refine hx.mono fun b hb=>⟨?_,a5 b hb.2 ?_⟩
  ·exact k b ⟨Nat.le_trans hm hb.1,hb.2⟩ (hv.mono fun c hc=>by have:=hb.1; omega)
  ·exact hv.mono fun c hc=>by have:=hb.1; omega
 ·exact h3.mono fun b hb=>⟨k b hb.1 hb.2,a5 b hb.1.2 hb.2⟩
open Go.Abs Go.Abs.S
noncomputable section
def c7:bY:=⟨73,zq [zo 2 (.mv zn),zo 3 (.new [zI 0,zI 0])] (zq [zm 12 0,zo 13 (.build [.str [],zU 0,.str [],zI 0,zI 0,zI 0,zI 0,zI 0,zI 0,zI 0,.nilFunc] [(0,1,.t 12)]),zo 14 (.box (.t 13)),zm 4 14] (zq [zm 15 4,zm 16 4,zo 17 (.mkFunc (.func 14) [.t 16] []),zo 18 (.buildSl 2 [.str []] [(0,1,.c (.str [42])),(1,1,.c (.str [47]))]),zx 19 13 [.t 15,.t 17,.c (.bool true),.t 18],zm 5 19] (zq [zm 20 4,zm 21 5,zo 22 (.buildSl 2 [.str []] [(0,1,.c (.str [43])),(1,1,.c (.str [45]))]),zx 23 13 [.t 20,.t 21,.c (.bool true),.t 22],zm 6 23] (zq [zm 24 4,zm 25 6,zo 26 (.buildSl 6 [.str []] [(0,1,.c (.str [61,61])),(1,1,.c (.str [33,61])),(2,1,.c (.str [60,61])),(3,1,.c (.str [62,61])),(4,1,.c (.str [60])),(5,1,.c (.str [62]))]),zx 27 13 [.t 24,.t 25,.c (.bool false),.t 26],zm 7 27] (zq [zm 28 4,zm 29 7,zo 30 (.buildSl 1 [.str []] [(0,1,.c (.str [38,38]))]),zx 31 13 [.t 28,.t 29,.c (.bool true),.t 30],zm 8 31] (zq [zm 32 4,zm 33 4,zm 34 8,zo 35 (.buildSl 1 [.str []] [(0,1,.c (.str [124,124]))]),zx 36 13 [.t 33,.t 34,.c (.bool true),.t 35],zc 37 32,zf 38 10 37,zs 38 36] (zr [zm 39 4,zx 40 15 [.t 39],zo 41 (.un .not (.t 40))] 41 (zq [zm 42 4,zc 43 42,zf 44 8 43,zt 45 2 44,zo 2 (.mv zn),zp (.store 2 (.t 3) (.t 45))] .ret) .skip (zq [zo 9 (.mv zn)] (.seq (.block 0 (.loop (zr [zm 46 4,zc 47 46,zf 48 1 47,zf 49 0 48,zl 50 49,zo 51 (.bin .neq (.t 50) (zu 5))] 51 .skip (.exit 0) (.block 1 (zq [zm 53 4,zx 54 16 [.t 53],zm 52 54,ze 55 0 52,ze 56 1 52,zo 10 (.new [zU 0,.str [],zU 0,.str [],zI 0,zN,zN,zN,zI 0]),zp (.store 9 (.t 10) (.t 55)),zm 11 56] (zr [zm 57 11,zo 58 (.un .not (.t 57))] 58 (zq [zm 59 4,zc 60 59,zf 61 8 60,zt 62 2 61,zo 2 (.mv zn),zp (.store 2 (.t 3) (.t 62))] .ret) .skip (.reg [zm 63 9,zt 64 9 10,zo 65 (.buildSl 1 [zU 0,.str [],zU 0,.str [],zI 0,zN,zN,zN,zI 0] [(0,9,.t 64)]),zo 66 (.append 9 136 (.t 63) (.t 65)),zm 9 66]))))))) (zr [zm 67 9,zx 68 17 [.t 67],zo 69 (.un .not (.t 68))] 69 (zq [zo 70 (.build [zI 0,zI 0] [(0,1,zi 102)]),zo 2 (.mv zn),zp (.store 2 (.t 3) (.t 70))] .ret) .skip (zq [zm 71 9,zo 72 (.build [zI 0,zI 0] []),zm 2 71,zp (.store 2 (.t 3) (.t 72))] .ret))))))))))),[.t 2,.cell true 2 3]⟩
theorem za7:cN Tryz.prog 7=some c7:=by kernel_rfl
def Sq:bY:=⟨41,.seq (.block 1000000 (zq [zo 1 (.box (.t 0)),zo 2 (.new [zU 0,.str [],zI 0,zN]),zo 3 (.mv (.c (.bool false)))] (zr [zl 7 1,zx 8 29 [.t 7],zo 9 (.un .not (.t 8))] 9 (zq [zo 10 (.build [zU 0,.str [],zI 0,zN] []),zp (.store 4 (.t 2) (.t 10)),zo 3 (.mv (.c (.bool false)))] (.exit 1000000)) .skip (zq [zo 11 (.mkFunc (.func 30) [] [.t 1]),zo 42 (.pf .dset [.t 42,.t 11])] (zr [zl 12 1,zo 13 (.buildSl 2 [.str []] [(0,1,.c (.str [45])),(1,1,.c (.str [33]))]),zx 14 28 [.t 12,.t 13],zo 15 (.un .not (.t 14))] 15 (zq [zl 16 1,zx 17 31 [.t 16],ze 18 0 17,ze 19 1 17,zp (.store 4 (.t 2) (.t 18)),zm 3 19] (.exit 1000000)) .skip (zq [zl 20 1,zc 21 20,zf 22 1 21,zf 23 1 22,zl 24 23,zm 4 24] (zr [zl 25 1,zx 26 15 [.t 25],zo 27 (.un .not (.t 26))] 27 (zq [zo 28 (.build [zU 0,.str [],zI 0,zN] []),zp (.store 4 (.t 2) (.t 28)),zo 3 (.mv (.c (.bool false)))] (.exit 1000000)) .skip (zq [zl 30 1,zx 31 14 [.t 30],zm 29 31,ze 32 0 29,ze 33 1 29,zo 5 (.new [zU 0,.str [],zI 0,zN]),zp (.store 4 (.t 5) (.t 32)),zm 6 33] (zr [zm 34 6,zo 35 (.un .not (.t 34))] 35 (zq [zo 36 (.build [zU 0,.str [],zI 0,zN] []),zp (.store 4 (.t 2) (.t 36)),zo 3 (.mv (.c (.bool false)))] (.exit 1000000)) .skip (zq [zm 37 4,zt 38 4 5,zo 39 (.buildSl 1 [zU 0,.str [],zI 0,zN] [(0,4,.t 38)]),zo 40 (.build [zU 0,.str [],zI 0,zN] [(0,1,zu 3),(1,1,.t 37),(3,1,.t 39)]),zp (.store 4 (.t 2) (.t 40)),zo 3 (.mv (.c (.bool true)))] (.exit 1000000))))))))))) (zq [zo 43 (.pf .isU [.t 42])] (.cond (.t 43) (zq [zo 43 (.pf .isU [.t 41])] (.cond (.t 43) (zq [zt 45 4 2,zm 46 3,zo 44 (.pf .tup [.t 45,.t 46])] .ret) (.reg [zp .bad]))) (zq [zo 43 (.pf .isU [.t 41])] (.cond (.t 43) (zq [zo 43 (.pf (.isF 30 1) [.t 42]),zo 45 (.pf (.capt 0) [.t 42]),zp (.call 3102 [.t 45])] (zq [zt 45 4 2,zm 46 3,zo 44 (.pf .tup [.t 45,.t 46])] .ret)) (.reg [zp .bad]))))),[.t 44]⟩
theorem RO:MP Tryz.prog (some ⟨[],(some (30,1,false))⟩) 14=some Sq:=by kernel_rfl
def Sn:bY:=⟨17,zq [zo 2 (.mv (.c (.bool false)))] (zr [zm 3 0,zc 4 3,zf 5 7 4,zl 6 5,zk 7 .geq 6 200] 7 (zq [zm 8 0,zx 9 40 [.t 8,zi 102],zm 2 9] .ret) .skip (zq [zm 10 0,zc 11 10,zf 12 7 11,zl 13 12,zk 14 .add 13 1,zc 15 10,zf 16 7 15,zs 16 14] (zq [zo 2 (.mv (.c (.bool true)))] .ret))),[.t 2]⟩
theorem OV:cN Tryz.prog 29=some Sn:=by kernel_rfl
def c40:bY:=⟨15,zq [zo 4 (.mv (.c (.bool false)))] (zq [zm 5 0,zm 6 1,zm 7 0,zc 8 7,zf 9 1 8,zf 10 3 9,zl 11 10,zo 12 (.build [zI 0,zI 0] [(0,1,.t 6),(1,1,.t 11)]),zc 13 5,zf 14 8 13,zp (.store 2 (.t 14) (.t 12))] (zq [zo 4 (.mv (.c (.bool false)))] .ret)),[.t 4]⟩
theorem Rr:cN Tryz.prog 40=some c40:=by kernel_rfl
def So:bY:=⟨20,zq [zo 4 (.mv (.c (.bool false)))] (zq [zm 5 0,zc 6 5,zf 7 1 6,zf 8 0 7,zl 9 8,zo 10 (.bin .eql (.t 9) (zu 4)),zm 11 10,zg 12 (.mv (.t 1)) 11 true,zg 13 (.mv (.t 0)) 11 true,zg 14 (.nilChk (.t 13)) 11 true,zg 15 (.fieldA 1 (.t 14)) 11 true,zg 16 (.fieldA 1 (.t 15)) 11 true,zg 17 (.load false 1 (.t 16)) 11 true,zg 18 (.call 59 [.t 12,.t 17]) 11 true,zo 19 (.pick (.t 11) (.t 18) (.c (.bool false))),zm 4 19] .ret),[.t 4]⟩
theorem RB:cN Tryz.prog 28=some So:=by kernel_rfl
def Sk:bY:=⟨9,zq [zo 4 (.mv (.c (.bool false)))] (zq [zm 5 0,zm 6 1,zx 7 81 [.t 5,.t 6],zk 8 .geq 7 0,zm 4 8] .ret),[.t 4]⟩
theorem OU:cN Tryz.prog 59=some Sk:=by kernel_rfl
def Sg:bY:=⟨19,zq [zo 4 (.mv (zi 0))] (.seq (zq [zm 6 0,zh 7 6,zo 8 (.mv (zi 0))] (.block 0 (.loop (zq [zb 9 .lss 8 7] (.seq (.cond (.t 9) .skip (.exit 0)) (.seq (.block 1 (zq [zm 10 8,zm 5 10] (zq [zm 11 1,zm 12 0,zm 13 5,zd 14 12 13,zl 15 14,zb 16 .eql 11 15] (.cond (.t 16) (zq [zm 17 5,zm 4 17] .ret) .skip)))) (.reg [zk 18 .add 8 1,zm 8 18]))))))) (zq [zo 4 (.mv (.c (.int .i64 (.negSucc 0))))] .ret)),[.t 4]⟩
theorem OT:cN Tryz.prog 81=some Sg:=by kernel_rfl
def c31:bY:=⟨72,zq [zo 2 (.new [zU 0,.str [],zI 0,zN]),zo 3 (.mv (.c (.bool false)))] (zq [zm 9 0,zc 10 9,zf 11 1 10,zt 12 6 11,zo 4 (.new [zU 0,.str [],zI 0,zI 0,zI 0,zI 0]),zp (.store 6 (.t 4) (.t 12))] (.seq (.block 0 (zq [zf 14 0 4,zl 15 14,zo 16 (.bin .eql (.t 15) (zu 1)),zm 13 16] (.cond (.t 13) (.seq (.draw [zf 17 2 4,zl 18 17,zo 19 (.build [zU 0,.str [],zI 0,zN] [(0,1,zu 1),(2,1,.t 18)]),zm 20 0,zx 21 15 [.t 20],zp (.store 4 (.t 2) (.t 19)),zm 3 21] [[],[5],[],[],[],[],[]]) .ret) (zq [zf 23 0 4,zl 24 23,zo 25 (.bin .eql (.t 24) (zu 2)),zm 22 25] (.cond (.t 22) (zr [zm 26 0,zx 27 15 [.t 26],zo 28 (.un .not (.t 27))] 28 (zq [zo 29 (.build [zU 0,.str [],zI 0,zN] []),zp (.store 4 (.t 2) (.t 29)),zo 3 (.mv (.c (.bool false)))] .ret) .skip (zr [zm 30 0,zo 31 (.buildSl 1 [.str []] [(0,1,.c (.str [40]))]),zx 32 28 [.t 30,.t 31],zo 33 (.un .not (.t 32))] 33 (zq [zf 34 1 4,zl 35 34,zo 36 (.build [zU 0,.str [],zI 0,zN] [(0,1,zu 2),(1,1,.t 35)]),zp (.store 4 (.t 2) (.t 36)),zo 3 (.mv (.c (.bool true)))] .ret) .skip (zq [zm 38 0,zx 39 60 [.t 38],zm 37 39,ze 40 0 37,ze 41 1 37,zm 5 40,zm 6 41] (zq [zf 42 1 4,zl 43 42,zm 44 5,zo 45 (.build [zU 0,.str [],zI 0,zN] [(0,1,zu 4),(1,1,.t 43),(3,1,.t 44)]),zm 46 6,zp (.store 4 (.t 2) (.t 45)),zm 3 46] .ret)))) (zq [zm 48 0,zo 49 (.buildSl 1 [.str []] [(0,1,.c (.str [40]))]),zx 50 28 [.t 48,.t 49],zm 47 50] (.cond (.t 47) (zr [zm 51 0,zx 52 15 [.t 51],zo 53 (.un .not (.t 52))] 53 (zq [zo 54 (.build [zU 0,.str [],zI 0,zN] []),zp (.store 4 (.t 2) (.t 54)),zo 3 (.mv (.c (.bool false)))] .ret) .skip (zq [zm 56 0,zc 57 56,zf 58 10 57,zl 59 58,zo 60 (.callv (.t 59) []),zm 55 60,ze 61 0 55,ze 62 1 55,zo 7 (.new [zU 0,.str [],zI 0,zN]),zp (.store 4 (.t 7) (.t 61)),zm 8 62] (.seq (.draw [zt 63 4 7,zm 64 8,zm 65 64,zg 66 (.mv (.t 0)) 65 true,zg 67 (.call 39 [.t 66,.c (.str [41])]) 65 true,zo 68 (.pick (.t 65) (.t 67) (.c (.bool false))),zp (.store 4 (.t 2) (.t 63)),zm 3 68] [[6],[],[],[],[],[],[],[]]) .ret))) .skip))))))) (zq [zo 69 (.build [zU 0,.str [],zI 0,zN] []),zm 70 0,zx 71 40 [.t 70,zi 101],zp (.store 4 (.t 2) (.t 69)),zm 3 71] .ret))),[.cell true 4 2,.t 3]⟩
theorem RA:cN Tryz.prog 31=some c31:=by kernel_rfl
def c15:bY:=⟨29,zq [zo 2 (.mv (.c (.bool false)))] (.seq (.draw [zm 6 0,zc 7 6,zf 8 0 7,zl 9 8,zm 10 0,zc 11 10,zf 12 1 11,zf 13 5 12,zl 14 13,zx 15 32 [.t 9,.t 14],zm 5 15,ze 16 0 5,ze 17 1 5,zo 3 (.new [zU 0,.str [],zI 0,zI 0,zI 0,zI 0]),zo 4 (.new [zI 0,zI 0]),zp (.store 6 (.t 3) (.t 16)),zp (.store 2 (.t 4) (.t 17))] [[],[],[],[],[],[],[],[],[],[],[],[],[],[9],[9],[],[]]) (zr [zf 18 0 4,zl 19 18,zk 20 .neq 19 0] 20 (zq [zm 21 0,zt 22 2 4,zc 23 21,zf 24 8 23,zp (.store 2 (.t 24) (.t 22))] (zq [zo 2 (.mv (.c (.bool false)))] .ret)) .skip (zq [zm 25 0,zt 26 6 3,zc 27 25,zf 28 1 27,zp (.store 6 (.t 28) (.t 26))] (zq [zo 2 (.mv (.c (.bool true)))] .ret)))),[.t 2]⟩
theorem RN:cN Tryz.prog 15=some c15:=by kernel_rfl
def c60:bY:=⟨40,zq [zo 2 (.mv zn),zo 3 (.mv (.c (.bool false)))] (zr [zm 7 0,zx 8 39 [.t 7,.c (.str [40])],zo 9 (.un .not (.t 8))] 9 (zq [zo 2 (.mv zn),zo 3 (.mv (.c (.bool false)))] .ret) .skip (zq [zo 4 (.mv zn)] (zr [zm 10 0,zo 11 (.buildSl 1 [.str []] [(0,1,.c (.str [41]))]),zx 12 28 [.t 10,.t 11]] 12 (zq [zm 13 4,zm 14 0,zx 15 15 [.t 14],zm 2 13,zm 3 15] .ret) .skip (.block 0 (.loop (.block 1 (zq [zm 17 0,zc 18 17,zf 19 10 18,zl 20 19,zo 21 (.callv (.t 20) []),zm 16 21,ze 22 0 16,ze 23 1 16,zo 5 (.new [zU 0,.str [],zI 0,zN]),zp (.store 4 (.t 5) (.t 22)),zm 6 23] (zr [zm 24 6,zo 25 (.un .not (.t 24))] 25 (zq [zo 2 (.mv zn),zo 3 (.mv (.c (.bool false)))] .ret) .skip (zq [zm 26 4,zt 27 4 5,zo 28 (.buildSl 1 [zU 0,.str [],zI 0,zN] [(0,4,.t 27)]),zo 29 (.append 4 56 (.t 26) (.t 28)),zm 4 29] (zr [zm 30 0,zo 31 (.buildSl 1 [.str []] [(0,1,.c (.str [44]))]),zx 32 28 [.t 30,.t 31],zo 33 (.un .not (.t 32))] 33 (zq [zm 34 4,zm 35 0,zx 36 39 [.t 35,.c (.str [41])],zm 2 34,zm 3 36] .ret) .skip (zq [zm 37 0,zx 38 15 [.t 37],zo 39 (.un .not (.t 38))] (.cond (.t 39) (zq [zo 2 (.mv zn),zo 3 (.mv (.c (.bool false)))] .ret) .skip)))))))))))),[.t 2,.t 3]⟩
theorem Ri:cN Tryz.prog 60=some c60:=by kernel_rfl
def c39:bY:=⟨14,zq [zo 4 (.mv (.c (.bool false)))] (zr [zm 5 0,zm 6 1,zo 7 (.buildSl 1 [.str []] [(0,1,.t 6)]),zx 8 28 [.t 5,.t 7],zo 9 (.un .not (.t 8))] 9 (zq [zm 10 0,zx 11 40 [.t 10,zi 101],zm 4 11] .ret) .skip (zq [zm 12 0,zx 13 15 [.t 12],zm 4 13] .ret)),[.t 4]⟩
theorem Rs:cN Tryz.prog 39=some c39:=by kernel_rfl
def c13:bY:=⟨10,zq [zo 4 (.box (.t 0)),zo 5 (.box (.t 1)),zo 6 (.box (.t 2)),zo 7 (.box (.t 3)),zo 8 (.mv (.c .nilFunc))] (zq [zo 9 (.mkFunc (.func 27) [] [.t 5,.t 4,.t 7,.t 6]),zm 8 9] .ret),[.t 8]⟩
theorem RP:cN Tryz.prog 13=some c13:=by kernel_rfl
def c27:bY:=⟨46,zq [zo 4 (.new [zU 0,.str [],zI 0,zN]),zo 5 (.mv (.c (.bool false)))] (zq [zl 11 0,zo 12 (.callv (.t 11) []),zm 10 12,ze 13 0 10,ze 14 1 10,zo 6 (.new [zU 0,.str [],zI 0,zN]),zp (.store 4 (.t 6) (.t 13)),zm 7 14] (.seq (.block 0 (.loop (zr [zm 15 7,zm 16 15,zg 17 (.load false 1 (.t 1)) 16 true,zg 18 (.load false 1 (.t 2)) 16 true,zg 19 (.call 28 [.t 17,.t 18]) 16 true,zo 20 (.pick (.t 16) (.t 19) (.c (.bool false)))] 20 .skip (.exit 0) (.block 1 (zq [zl 21 1,zc 22 21,zf 23 1 22,zf 24 1 23,zl 25 24,zm 8 25] (zr [zl 26 1,zx 27 15 [.t 26],zo 28 (.un .not (.t 27))] 28 (zq [zo 29 (.build [zU 0,.str [],zI 0,zN] []),zp (.store 4 (.t 4) (.t 29)),zo 5 (.mv (.c (.bool false)))] .ret) .skip (zq [zo 9 (.new [zU 0,.str [],zI 0,zN])] (zq [zl 31 0,zo 32 (.callv (.t 31) []),zm 30 32,ze 33 0 30,ze 34 1 30,zp (.store 4 (.t 9) (.t 33)),zm 7 34] (zq [zm 35 8,zt 36 4 6,zt 37 4 9,zo 38 (.buildSl 2 [zU 0,.str [],zI 0,zN] [(0,4,.t 36),(4,4,.t 37)]),zo 39 (.build [zU 0,.str [],zI 0,zN] [(0,1,zu 3),(1,1,.t 35),(3,1,.t 38)]),zp (.store 4 (.t 6) (.t 39))] (zq [zl 40 3,zo 41 (.un .not (.t 40))] (.cond (.t 41) (.exit 0) .skip))))))))))) (zr [zm 42 7,zo 43 (.un .not (.t 42))] 43 (zq [zo 44 (.build [zU 0,.str [],zI 0,zN] []),zp (.store 4 (.t 4) (.t 44)),zo 5 (.mv (.c (.bool false)))] .ret) .skip (zq [zt 45 4 6,zp (.store 4 (.t 4) (.t 45)),zo 5 (.mv (.c (.bool true)))] .ret)))),[.cell true 4 4,.t 5]⟩
theorem RD:cN Tryz.prog 27=some c27:=by kernel_rfl
def Sp:bY:=⟨90,.seq (.block 1000000 (zq [zo 1 (.box (.t 0)),zo 2 (.new [zU 0,.str [],zU 0,.str [],zI 0,zN,zN,zN,zI 0]),zo 3 (.mv (.c (.bool false)))] (zr [zl 6 1,zx 7 29 [.t 6],zo 8 (.un .not (.t 7))] 8 (zq [zo 9 (.build [zU 0,.str [],zU 0,.str [],zI 0,zN,zN,zN,zI 0] []),zp (.store 9 (.t 2) (.t 9)),zo 3 (.mv (.c (.bool false)))] (.exit 1000000)) .skip (zq [zo 10 (.mkFunc (.func 33) [] [.t 1]),zo 91 (.pf .dset [.t 91,.t 10])] (zq [zl 11 1,zc 12 11,zf 13 1 12,zf 14 3 13,zl 15 14,zo 16 (.build [zU 0,.str [],zU 0,.str [],zI 0,zN,zN,zN,zI 0] [(8,1,.t 15)]),zo 4 (.new [zU 0,.str [],zU 0,.str [],zI 0,zN,zN,zN,zI 0]),zp (.store 9 (.t 4) (.t 16))] (zq [zo 5 (.mv (.c (.bool false)))] (.seq (.block 0 (zq [zl 20 1,zx 21 34 [.t 20,.c (.str [108,101,116])],zm 19 21] (.cond (.t 19) (zq [zf 22 0 4,zp (.store 1 (.t 22) (zu 1))] (.reg [zl 23 1,zx 24 15 [.t 23],zm 25 24,zg 26 (.load false 1 (.t 1)) 25 true,zg 27 (.call 35 [.t 26,.t 4]) 25 true,zo 28 (.pick (.t 25) (.t 27) (.c (.bool false))),zm 5 28])) (zq [zl 30 1,zx 31 34 [.t 30,.c (.str [115,101,116])],zm 29 31] (.cond (.t 29) (zq [zf 32 0 4,zp (.store 1 (.t 32) (zu 2))] (.reg [zl 33 1,zx 34 15 [.t 33],zm 35 34,zg 36 (.load false 1 (.t 1)) 35 true,zg 37 (.call 35 [.t 36,.t 4]) 35 true,zo 38 (.pick (.t 35) (.t 37) (.c (.bool false))),zm 5 38])) (zq [zl 40 1,zx 41 34 [.t 40,.c (.str [105,102])],zm 39 41] (.cond (.t 39) (zq [zf 42 0 4,zp (.store 1 (.t 42) (zu 3))] (zq [zl 43 1,zx 44 15 [.t 43],zm 45 44,zg 46 (.load false 1 (.t 1)) 45 true,zg 47 (.call 36 [.t 46,.t 4]) 45 true,zo 48 (.pick (.t 45) (.t 47) (.c (.bool false))),zm 5 48] (zq [zm 49 5,zm 50 49,zg 51 (.load false 1 (.t 1)) 50 true,zg 52 (.call 34 [.t 51,.c (.str [101,108,115,101])]) 50 true,zo 53 (.pick (.t 50) (.t 52) (.c (.bool false)))] (.cond (.t 53) (.reg [zl 54 1,zx 55 15 [.t 54],zm 56 55,zg 57 (.load false 1 (.t 1)) 56 true,zg 58 (.fieldA 7 (.t 4)) 56 true,zg 59 (.call 37 [.t 57,.t 58]) 56 true,zo 60 (.pick (.t 56) (.t 59) (.c (.bool false))),zm 5 60]) .skip)))) (zq [zl 62 1,zx 63 34 [.t 62,.c (.str [119,104,105,108,101])],zm 61 63] (.cond (.t 61) (zq [zf 64 0 4,zp (.store 1 (.t 64) (zu 4))] (.reg [zl 65 1,zx 66 15 [.t 65],zm 67 66,zg 68 (.load false 1 (.t 1)) 67 true,zg 69 (.call 36 [.t 68,.t 4]) 67 true,zo 70 (.pick (.t 67) (.t 69) (.c (.bool false))),zm 5 70])) (zq [zl 72 1,zx 73 34 [.t 72,.c (.str [114,101,116,117,114,110])],zm 71 73] (.cond (.t 71) (zq [zf 74 0 4,zp (.store 1 (.t 74) (zu 5))] (.reg [zl 75 1,zx 76 15 [.t 75],zm 77 76,zg 78 (.load false 1 (.t 1)) 77 true,zg 79 (.fieldA 2 (.t 4)) 77 true,zg 80 (.call 38 [.t 78,.t 79]) 77 true,zo 81 (.pick (.t 77) (.t 80) (.c (.bool false))),zm 82 81,zg 83 (.load false 1 (.t 1)) 82 true,zg 84 (.call 39 [.t 83,.c (.str [59])]) 82 true,zo 85 (.pick (.t 82) (.t 84) (.c (.bool false))),zm 5 85])) (.reg [zl 17 1,zx 18 40 [.t 17,zi 101]])))))))))))) (zr [zm 86 5,zo 87 (.un .not (.t 86))] 87 (zq [zo 88 (.build [zU 0,.str [],zU 0,.str [],zI 0,zN,zN,zN,zI 0] []),zp (.store 9 (.t 2) (.t 88)),zo 3 (.mv (.c (.bool false)))] (.exit 1000000)) .skip (zq [zt 89 9 4,zp (.store 9 (.t 2) (.t 89)),zo 3 (.mv (.c (.bool true)))] (.exit 1000000)))))))))) (zq [zo 92 (.pf .isU [.t 91])] (.cond (.t 92) (zq [zo 92 (.pf .isU [.t 90])] (.cond (.t 92) (zq [zt 94 9 2,zm 95 3,zo 93 (.pf .tup [.t 94,.t 95])] .ret) (.reg [zp .bad]))) (zq [zo 92 (.pf .isU [.t 90])] (.cond (.t 92) (zq [zo 92 (.pf (.isF 33 1) [.t 91]),zo 94 (.pf (.capt 0) [.t 91]),zp (.call 3105 [.t 94])] (zq [zt 94 9 2,zm 95 3,zo 93 (.pf .tup [.t 94,.t 95])] .ret)) (.reg [zp .bad]))))),[.t 93]⟩
theorem RL:MP Tryz.prog (some ⟨[],(some (33,1,false))⟩) 16=some Sp:=by kernel_rfl
def P6:bY:=⟨20,zq [zo 4 (.mv (.c (.bool false)))] (zq [zm 5 0,zc 6 5,zf 7 1 6,zf 8 0 7,zl 9 8,zo 10 (.bin .eql (.t 9) (zu 3)),zm 11 10,zg 12 (.mv (.t 0)) 11 true,zg 13 (.nilChk (.t 12)) 11 true,zg 14 (.fieldA 1 (.t 13)) 11 true,zg 15 (.fieldA 1 (.t 14)) 11 true,zg 16 (.load false 1 (.t 15)) 11 true,zg 17 (.mv (.t 1)) 11 true,zg 18 (.bin .eql (.t 16) (.t 17)) 11 true,zo 19 (.pick (.t 11) (.t 18) (.c (.bool false))),zm 4 19] .ret),[.t 4]⟩
theorem Rx:cN Tryz.prog 34=some P6:=by kernel_rfl
def Sm:bY:=⟨38,zq [zo 4 (.mv (.c (.bool false)))] (zr [zm 5 0,zc 6 5,zf 7 1 6,zf 8 0 7,zl 9 8,zo 10 (.bin .neq (.t 9) (zu 2))] 10 (zq [zm 11 0,zx 12 40 [.t 11,zi 101],zm 4 12] .ret) .skip (zq [zm 13 1,zm 14 0,zc 15 14,zf 16 1 15,zf 17 1 16,zl 18 17,zc 19 13,zf 20 1 19,zs 20 18] (zq [zm 21 0,zx 22 15 [.t 21],zm 23 22,zg 24 (.mv (.t 0)) 23 true,zg 25 (.call 39 [.t 24,.c (.str [61])]) 23 true,zo 26 (.pick (.t 23) (.t 25) (.c (.bool false))),zm 27 26,zg 28 (.mv (.t 0)) 27 true,zg 29 (.mv (.t 1)) 27 true,zg 30 (.nilChk (.t 29)) 27 true,zg 31 (.fieldA 2 (.t 30)) 27 true,zg 32 (.call 38 [.t 28,.t 31]) 27 true,zo 33 (.pick (.t 27) (.t 32) (.c (.bool false))),zm 34 33,zg 35 (.mv (.t 0)) 34 true,zg 36 (.call 39 [.t 35,.c (.str [59])]) 34 true,zo 37 (.pick (.t 34) (.t 36) (.c (.bool false))),zm 4 37] .ret))),[.t 4]⟩
theorem Rw:cN Tryz.prog 35=some Sm:=by kernel_rfl
def c38:bY:=⟨20,zq [zo 4 (.mv (.c (.bool false)))] (zq [zm 8 0,zc 9 8,zf 10 10 9,zl 11 10,zo 12 (.callv (.t 11) []),zm 7 12,ze 13 0 7,ze 14 1 7,zo 5 (.new [zU 0,.str [],zI 0,zN]),zp (.store 4 (.t 5) (.t 13)),zm 6 14] (zr [zm 15 6] 15 (.reg [zm 16 1,zt 17 4 5,zc 18 16,zp (.store 4 (.t 18) (.t 17))]) .skip (zq [zm 19 6,zm 4 19] .ret))),[.t 4]⟩
theorem Rt:cN Tryz.prog 38=some c38:=by kernel_rfl
def c36:bY:=⟨25,zq [zo 4 (.mv (.c (.bool false)))] (zq [zm 5 0,zx 6 39 [.t 5,.c (.str [40])],zm 7 6,zg 8 (.mv (.t 0)) 7 true,zg 9 (.mv (.t 1)) 7 true,zg 10 (.nilChk (.t 9)) 7 true,zg 11 (.fieldA 2 (.t 10)) 7 true,zg 12 (.call 38 [.t 8,.t 11]) 7 true,zo 13 (.pick (.t 7) (.t 12) (.c (.bool false))),zm 14 13,zg 15 (.mv (.t 0)) 14 true,zg 16 (.call 39 [.t 15,.c (.str [41])]) 14 true,zo 17 (.pick (.t 14) (.t 16) (.c (.bool false))),zm 18 17,zg 19 (.mv (.t 0)) 18 true,zg 20 (.mv (.t 1)) 18 true,zg 21 (.nilChk (.t 20)) 18 true,zg 22 (.fieldA 6 (.t 21)) 18 true,zg 23 (.call 37 [.t 19,.t 22]) 18 true,zo 24 (.pick (.t 18) (.t 23) (.c (.bool false))),zm 4 24] .ret),[.t 4]⟩
theorem Rv:cN Tryz.prog 36=some c36:=by kernel_rfl
def c37:bY:=⟨32,zq [zo 4 (.mv (.c (.bool false)))] (zr [zm 7 0,zx 8 39 [.t 7,.c (.str [123])],zo 9 (.un .not (.t 8))] 9 (zq [zo 4 (.mv (.c (.bool false)))] .ret) .skip (.seq (.block 0 (.loop (zr [zm 10 0,zo 11 (.buildSl 1 [.str []] [(0,1,.c (.str [125]))]),zx 12 28 [.t 10,.t 11],zo 13 (.un .not (.t 12))] 13 .skip (.exit 0) (.block 1 (zq [zm 15 0,zx 16 16 [.t 15],zm 14 16,ze 17 0 14,ze 18 1 14,zo 5 (.new [zU 0,.str [],zU 0,.str [],zI 0,zN,zN,zN,zI 0]),zp (.store 9 (.t 5) (.t 17)),zm 6 18] (zr [zm 19 6,zo 20 (.un .not (.t 19))] 20 (zq [zo 4 (.mv (.c (.bool false)))] .ret) .skip (.seq (.draw [zm 21 1,zc 22 21,zl 23 22,zt 24 9 5,zh 25 23,zo 26 (.hf (.fill 0 (.lit 1 [zU 0,.str [],zU 0,.str [],zI 0,zN,zN,zN,zI 0] [(0,9)])) [.c (.agg [zU 0,.str [],zU 0,.str [],zI 0,zN,zN,zN,zI 0])]),zo 27 (.append 9 136 (.t 23) (.t 26)),zo 28 (.idxA 9 (.t 27) (.t 25)),zp (.store 9 (.t 28) (.t 24)),zc 29 21,zs 29 27] [[],[],[6],[6],[],[],[],[],[],[],[]]) (.reg [zp (.pf .apart [.t 29,.t 28])])))))))) (zq [zm 30 0,zx 31 15 [.t 30],zm 4 31] .ret))),[.t 4]⟩
theorem Ru:cN Tryz.prog 37=some c37:=by kernel_rfl
def MV:bY:=⟨8,.reg [zl 1 0,zc 2 1,zf 3 7 2,zl 4 3,zk 5 .sub 4 1,zc 6 1,zf 7 7 6,zs 7 5],[]⟩
theorem Nn:MP Tryz.prog none 3102=some MV:=by kernel_rfl
def MU:bY:=⟨8,.reg [zl 1 0,zc 2 1,zf 3 7 2,zl 4 3,zk 5 .sub 4 1,zc 6 1,zf 7 7 6,zs 7 5],[]⟩
theorem Nl:MP Tryz.prog none 3105=some MU:=by kernel_rfl
end
open Go.Abs Go.Abs.S
theorem jY(z:List aa):sY z none=.cells z 0 false:=_root_.id rfl
theorem iO(b:Nat)(z z':List aa)(s:Option (Nat×Nat)):rl b z s (.new z')=.claim b z s:=_root_.id rfl
theorem jF{α:Type}(a b:α):∀(f:Nat) (t:Tr α) (k:Nat),Tr.setF b f (Tr.setF a f t k) k=Tr.setF b f t k
 | 0,_,_=>rfl
 | f+1,.e,k=>by
  cases h:Nat.beq k 0 with
  | true=>simp only[Tr.setF,h,cond_true]
  | false=>
   cases h2:Nat.beq (k % 2) 1 with
   | true=>simp only[Tr.setF,h,h2,cond_true,cond_false,jF a b f]
   | false=>simp only[Tr.setF,h,h2,cond_false,jF a b f]
 | f+1,.n l o r,k=>by
  cases h:Nat.beq k 0 with
  | true=>simp only[Tr.setF,h,cond_true]
  | false=>
   cases h2:Nat.beq (k % 2) 1 with
   | true=>simp only[Tr.setF,h,h2,cond_true,cond_false,jF a b f]
   | false=>simp only[Tr.setF,h,h2,cond_false,jF a b f]
theorem HG(H:ae)(A B:cJ):(H.push A).set H.next B=H.push B:=by
 show ae.mk _ _=ae.mk _ _
 congr 1
 exact jF A B _ _ _
theorem wt(b b':Nat)(k:jR)(z:List aa)(s:Option (Nat×Nat))(xs:List a8):rl b z s (.hf (.fill b' k) xs)=.hf (.fill b k) xs:=_root_.id rfl
theorem IK{H:ae}{len:Nat}{z:List aa}{ofs:List (Nat×Nat)}{l xs:List aa}(h:js (rD z len) (Em ofs l)=some xs):mV (.fill H.next (.lit len z ofs)) (H.push (.cells [] 0 false)) l=some (.slice (some ⟨H.next,xs.length,0⟩) len (.known len),H.push (.cells xs 0 false)):=by
 have g:(H.push (.cells [] 0 false)).get H.next=some (.cells [] 0 false):=by rw[ae.get_push,if_pos rfl]
 simp only[mV,gG,g,lG,h,HG]
def cO(s:Bs)(w:Wd)(g x y:Int)(orv:aa):List aa:=.str s::(lZ w.k w.S w.n w.line w.at_ w.en++[.int .i64 g,.int .i64 x,.int .i64 y,orv])
structure Fp(pb:Nat)(H H':ae):Prop where
 next:H.next<=H'.next
 old:∀c,c<H.next->c≠pb->H'.get c=H.get c
theorem Fp.refl(pb:Nat)(H:ae):Fp pb H H:=⟨Nat.le_refl _,fun _ _ _=>rfl⟩
theorem Fp.trans{pb:Nat}{H H' H2:ae}(a:Fp pb H H')(b:Fp pb H' H2):Fp pb H H2:=
 ⟨Nat.le_trans a.next b.next,fun c h1 h2=>by rw[b.old c (SR h1 a.next) h2,a.old c h1 h2]⟩
theorem zC{s:Bs}{p:Nat}{w:Wd}(h:fL s p=.ok w):ky s (p:Int)=fK (lZ w.k w.S w.n w.line w.at_ w.en) (jS 0 0):=by
 unfold fL at h
 unfold ky
 by_cases a1:16384<s.length
 ·rw[if_pos a1]at h; first | (simp at h; done) | (simp only[Except.error.injEq]at h; subst h; rw[if_pos a1])
 rw[if_neg a1]at h ⊢
 by_cases a2:s.length<p
 ·rw[if_pos a2]at h
  have a2':(p:Int)<0∨(s.length:Int)<(p:Int):=.inr om
  first | (simp at h; done) | (simp only[Except.error.injEq]at h; subst h; rw[if_pos a2'])
 have a2':¬((p:Int)<0∨(s.length:Int)<(p:Int)):=om
 rw[if_neg a2]at h
 rw[if_neg a2',Int.toNat_natCast]
 by_cases a3:bM s p=s.length
 ·rw[if_pos a3]at h ⊢
  first | (simp at h; done) | (simp only[Except.ok.injEq]at h; subst h; rfl)
 rw[if_neg a3]at h ⊢
 split at h <;> first | (simp at h; done) | skip
 rename_i ht
 first | simp only[Except.ok.injEq]at h | simp only[Except.error.injEq]at h
 subst h
 simp only[ht]
theorem vP{s:Bs}{p:Nat}{e:Gy}(h:fL s p=.error e):ky s (p:Int)=fK (lZ 0 [] 0 0 0 0) (jS e.1 e.2):=by
 unfold fL at h
 unfold ky
 by_cases a1:16384<s.length
 ·rw[if_pos a1]at h; first | (simp at h; done) | (simp only[Except.error.injEq]at h; subst h; rw[if_pos a1])
 rw[if_neg a1]at h ⊢
 by_cases a2:s.length<p
 ·rw[if_pos a2]at h
  have a2':(p:Int)<0∨(s.length:Int)<(p:Int):=.inr om
  first | (simp at h; done) | (simp only[Except.error.injEq]at h; subst h; rw[if_pos a2'])
 have a2':¬((p:Int)<0∨(s.length:Int)<(p:Int)):=om
 rw[if_neg a2]at h
 rw[if_neg a2',Int.toNat_natCast]
 by_cases a3:bM s p=s.length
 ·rw[if_pos a3]at h ⊢
  first | (simp at h; done) | (simp only[Except.ok.injEq]at h; subst h; rfl)
 rw[if_neg a3]at h ⊢
 split at h <;> first | (simp at h; done) | skip
 rename_i ht
 first | simp only[Except.ok.injEq]at h | simp only[Except.error.injEq]at h
 subst h
 simp only[ht]
theorem cu{H:ae}{b n:Nat}{l l':List aa}(h:a6 H b l)(hn:l.length=n){i:Nat}(hi:i<n){x:aa}(hx:x.one=true)(e:l.set i x=l') :
  ∃H',bu 1 H (af b n i) x=some H'/\a6 H' b l'/\H'.next=H.next/\∀c,c≠b->H'.get c=H.get c:=by
 subst e; exact cU h hn hi hx
theorem mq{H:ae}{b n:Nat}{l l':List aa}(h:a6 H b l)(hn:l.length=n){i k:Nat}(hik:i+k<=n){xs:List aa}(hx:xs.length=k)(ho:xs.all aa.one=true)(e:l.take i++(xs++l.drop (i+k))=l') :
  ∃H',bu k H (af b n i) (.agg xs)=some H'/\a6 H' b l'/\H'.next=H.next/\∀c,c≠b->H'.get c=H.get c:=by
 subst e; exact nk h hn hik hx ho
theorem PQ:Sw aH:=⟨fun f hf=>by show Nat.beq f 115=false; rw[cE]; exact decide_eq_false hf,rfl,fun s H hs=>by
 show (bif Nat.beq 115 115 then uq H [.str s] else none)=_
 rw[show Nat.beq 115 115=true from rfl,cond_true]
 simp only[uq,SD hs,cond_true]⟩
open Go.Abs Go.Abs.S
theorem vO{s:Bs}{p:Nat}{e:Gy}(h:fL s p=.error e):e.1≠0:=by
 unfold fL at h
 split at h
 ·simp only[Except.error.injEq]at h; subst h; simp
 split at h
 ·simp only[Except.error.injEq]at h; subst h; simp
 split at h
 ·simp at h
 split at h
 ·simp at h
 ·simp only[Except.error.injEq]at h; subst h; simp
theorem bR{H:ae}{pb:Nat}{s:Bs}{w:Wd}{g x y:Int}{orv:aa}(hr:a6 H pb (cO s w g x y orv))(hpb:pb<H.next)(hw:w.en<=9223372036854775807) :
  az Tryz.prog aH 15 [af pb 11 0] H fun v H'=>(match dN s w with
   | .ok w'=>v=.bool true/\a6 H' pb (cO s w' g x y orv)
   | .error e=>v=.bool false/\a6 H' pb (cO s w g e.1 e.2 orv))/\Fp pb H H':=by
 refine aj rfl RN rfl ?_
 obtain⟨H1,hH1⟩:∃H1,H1=(H.push (.cells ZW 0 false)).push (.cells Z2 0 false):=⟨_,rfl⟩
 have n1:H1.next=H.next+2:=by rw[hH1]; rfl
 have k1:∀c,c<H.next->H1.get c=H.get c:=fun c hc=>by rw[hH1,ae.get_push,if_neg (by rw[bp]; omega),aI hc]
 have g3:H1.get H.next=some (.cells ZW 0 false):=by rw[hH1,ae.get_push,if_neg (by rw[bp]; omega),ae.get_push,if_pos rfl]
 have g4:H1.get (H.next+1)=some (.cells Z2 0 false):=by rw[hH1,ae.get_push,if_pos (by rw[bp])]
 have r1:=hr.same (k1 pb hpb)
 have l0:au false 1 H1 (af pb 11 0)=some (.str s):=am r1 rfl rfl
 have l6:au false 1 H1 (af pb 11 6)=some (.int .i64 (w.en:Int)):=am r1 rfl rfl
 simp only[ZW,Z2]at hH1 g3 g4
 simp only[c15,sA,sB,seval]
 refine fq ?_
 simp only[aB,cG,aQ,jY,iO,<- hH1]
 simp only[sA,sB,seval,sR,fh,aF,aZ,fld0,l0,l6]
 refine (vN PQ (s:=s) (p:=(w.en:Int)) om om).mono ?_
 rintro v H2 ⟨rfl,E2⟩
 have e2:=E2.next
 have r2:=r1.same (E2.old pb om)
 have q3:H2.get H.next=_:=(E2.old _ om).trans g3
 have q4:H2.get (H.next+1)=_:=(E2.old _ om).trans g4
 have cl3:dy H2 H.next _ none=some (af H.next 6 0):=eO q3 rfl
 have dl3:dy H1 H.next _ none=some (af H.next 6 0):=eO g3 rfl
 have dl4:dy H1 (H.next+1) _ none=some (af (H.next+1) 2 0):=eO g4 rfl
 have cl4:dy H2 (H.next+1) _ none=some (af (H.next+1) 2 0):=eO q4 rfl
 cases hn:dN s w with
 | ok w'=>
  rw[zC hn]
  obtain⟨H3,m3,r3,n3,k3⟩:=ak (H:=H2) (b:=H.next) ⟨0,q3,Nat.zero_le _⟩ (n:=6) rfl (xs:=lZ w'.k w'.S w'.n w'.line w'.at_ w'.en) rfl rfl
  obtain⟨H4,m4,r4,n4,k4⟩:=ak (H:=H3) (b:=H.next+1) ⟨0,(k3 _ om).trans q4,Nat.zero_le _⟩ (n:=2) rfl (xs:=jS 0 0) rfl rfl
  have s4:=r2.same (H':=H4) (by rw[k4 _ om,k3 _ om])
  have z4:au false 1 H4 (af (H.next+1) 2 0)=some (.int .i64 0):=am r4 rfl rfl
  have w4:=aA (r3.same (k4 _ om)) (n:=6) rfl
  obtain⟨H5,m5,r5,n5,k5⟩:=mq s4 (n:=11) rfl (i:=1) (k:=6) om (xs:=lZ w'.k w'.S w'.n w'.line w'.at_ w'.en) rfl rfl (l':=cO s w' g x y orv) rfl
  simp only[sA,sB,seval,sR,fK,bA,bx,fh,cl3,cl4,m3,m4]
  simp only[bG,bH,bg,eh,bI,co,and_true,true_and,List.map_cons,List.map_nil,sA,sB,seval]
  refine⟨⟨⟨_,rfl,fun _=>⟨_,dl3,eo _ _ _⟩⟩,⟨_,rfl,fun _=>⟨_,dl4,eo _ _ _⟩⟩⟩,?_⟩
  simp only[sA,sB,seval,aF,aZ,fld0,z4,w4,m5]
  exact⟨⟨tt,r5⟩,om,fun c hc hp=>by rw[k5 c hp,k4 c om,k3 c om,E2.old c om,k1 c hc]⟩
 | error e=>
  rw[vP hn]
  have he:=vO hn
  obtain⟨H3,m3,r3,n3,k3⟩:=ak (H:=H2) (b:=H.next) ⟨0,q3,Nat.zero_le _⟩ (n:=6) rfl (xs:=lZ 0 [] 0 0 0 0) rfl rfl
  obtain⟨H4,m4,r4,n4,k4⟩:=ak (H:=H3) (b:=H.next+1) ⟨0,(k3 _ om).trans q4,Nat.zero_le _⟩ (n:=2) rfl (xs:=jS e.1 e.2) rfl rfl
  have s4:=r2.same (H':=H4) (by rw[k4 _ om,k3 _ om])
  have z4:au false 1 H4 (af (H.next+1) 2 0)=some (.int .i64 (e.1:Int)):=am r4 rfl rfl
  have w4:=aA r4 (n:=2) rfl
  have he':¬(e.1:Int)=0:=om
  obtain⟨H5,m5,r5,n5,k5⟩:=mq s4 (n:=11) rfl (i:=8) (k:=2) om (xs:=jS e.1 e.2) rfl rfl (l':=cO s w g e.1 e.2 orv) rfl
  simp only[sA,sB,seval,sR,fK,bA,bx,fh,cl3,cl4,m3,m4]
  simp only[bG,bH,bg,eh,bI,co,and_true,true_and,List.map_cons,List.map_nil,sA,sB,seval]
  refine⟨⟨⟨_,rfl,fun _=>⟨_,dl3,eo _ _ _⟩⟩,⟨_,rfl,fun _=>⟨_,dl4,eo _ _ _⟩⟩⟩,?_⟩
  simp only[sA,sB,seval,aF,aZ,fld0,z4,he',w4,m5]
  exact⟨⟨tt,r5⟩,om,fun c hc hp=>by rw[k5 c hp,k4 c om,k3 c om,E2.old c om,k1 c hc]⟩
theorem EP{H:ae}{v:aa}{l:List Bs}{n:Nat}(c:po n H v (l.map aa.str))(x:Bs)(hl:l.length<=1000):az Tryz.prog aH 81 [v,.str x] H fun u H'=>H=H'/\∃i:Int,u=.int .i64 i/\(0<=i↔l.contains x=true):=by
 refine aj rfl OT rfl ?_
 simp only[Sg,sA,sB,seval,c.len,List.length_map]
 refine cg (fun m (T:cD) H'=>H=H'/\∃i:Nat,m=l.length-i/\i<=l.length/\T 0=v/\T 1=.str x/\T 7=.int .i64 (l.length:Int)/\T 8=.int .i64 (i:Int)/\(l.take i).contains x=false) l.length
  ⟨rfl,0,rfl,om,by simp only[sA,sB,seval],by simp only[sA,sB,seval],by simp only[sA,sB,seval],by simp only[sA,sB,seval]; try rfl,by simp⟩ ?_
 rintro m T _ ⟨rfl,i,rfl,hi,t0,t1,t7,t8,hx⟩
 by_cases hlt:i<l.length
 case neg=>
  obtain rfl:i=l.length:=om
  have hlt':¬(l.length:Int)<(l.length:Int):=om
  rw[List.take_length]at hx
  simp only[sA,sB,seval,t7,t8,hlt']
  exact⟨tt,_,rfl,by rw[hx]; simp⟩
 have hlt':(i:Int)<(l.length:Int):=om
 obtain⟨y,hy⟩:∃y,l[i]?=some y:=⟨_,SB hlt⟩
 have io:=c.idx .i64 (i:=i) (by rw[List.length_map]; exact hlt)
 have lo:=c.load (i:=i) (x:=.str y) (by rw[List.getElem?_map,hy]; rfl)
 have wk:IntKind.i64.wrap ((i:Int)+1)=((i+1:Nat):Int):=kJ
 by_cases he:x=y
 ·subst he
  simp only[sA,sB,seval,t0,t1,t7,t8,hlt',io,lo,DN]
  refine⟨tt,_,rfl,?_⟩
  have:l.contains x=true:=by simpa using SJ hy
  simp only[this,iff_true]; omega
 ·simp only[sA,sB,seval,t0,t1,t7,t8,hlt',io,lo,he,wk]
  refine⟨l.length-(i+1),om,tt,i+1,rfl,om,tt,tt,tt,tt,?_⟩
  rw[List.take_add_one,hy]
  simp only[Option.toList_some,List.contains_eq_mem,List.mem_append,List.mem_singleton,decide_eq_false_iff_not]at hx ⊢
  rintro (h | h)
  ·exact hx h
  ·exact he h
theorem uW{H:ae}{v:aa}{l:List Bs}{n:Nat}(c:po n H v (l.map aa.str))(x:Bs)(hl:l.length<=1000):az Tryz.prog aH 59 [v,.str x] H fun u H'=>H=H'/\u=.bool (l.contains x):=by
 refine aj rfl OU rfl ?_
 simp only[Sk,sA,sB,seval]
 refine (EP c x hl).mono ?_
 rintro _ _ ⟨rfl,i,rfl,hi⟩
 simp only[sA,sB,seval]
 refine⟨tt,?_⟩
 congr 1
 rw[<- Bool.coe_iff_coe,<- hi]; simp
theorem gT{H:ae}{pb:Nat}{s:Bs}{w:Wd}{g x y:Int}{orv v:aa}{l:List Bs}{n:Nat}(hr:a6 H pb (cO s w g x y orv))(c:po n H v (l.map aa.str))(hl:l.length<=1000):az Tryz.prog aH 28 [af pb 11 0,v] H fun u H'=>H=H'/\u=.bool (kM w l):=by
 refine aj rfl RB rfl ?_
 have l1:au false 1 H (af pb 11 1)=some (.int .u8 (w.k:Int)):=am hr rfl rfl
 have l2:au false 1 H (af pb 11 2)=some (.str w.S):=am hr rfl rfl
 by_cases hk:w.k=4
 ·have hk':(w.k:Int)=4:=om
  simp only[So,sA,sB,seval,aF,aZ,fld0,l1,hk',l2]
  refine (uW c w.S hl).mono ?_
  rintro _ _ ⟨rfl,rfl⟩
  have e:kM w l=l.contains w.S:=by simp only[kM,hk]; rfl
  rw[e]
  simp only[sA,sB,seval]
  exact⟨tt,tt⟩
 ·have hk':¬(w.k:Int)=4:=om
  have e:kM w l=false:=by
   have:Nat.beq w.k 4=false:=by rw[cE]; exact decide_eq_false hk
   simp only[kM,this]; rfl
  simp only[So,sA,sB,seval,aF,aZ,fld0,l1,hk',e]
  exact⟨tt,tt⟩
theorem ir{H:ae}{pb:Nat}{s:Bs}{w:Wd}{g x y:Int}{orv:aa}(hr:a6 H pb (cO s w g x y orv))(t:Bs):az Tryz.prog aH 34 [af pb 11 0,.str t] H fun u H'=>H=H'/\u=.bool (qY w t):=by
 refine aj rfl Rx rfl ?_
 have l1:au false 1 H (af pb 11 1)=some (.int .u8 (w.k:Int)):=am hr rfl rfl
 have l2:au false 1 H (af pb 11 2)=some (.str w.S):=am hr rfl rfl
 by_cases hk:w.k=3
 ·have hk':(w.k:Int)=3:=om
  have e:qY w t=decide (w.S=t):=by simp only[qY,hk]; rfl
  simp only[P6,sA,sB,seval,aF,aZ,fld0,l1,hk',l2,e]
  exact⟨tt,tt⟩
 ·have hk':¬(w.k:Int)=3:=om
  have e:qY w t=false:=by
   have:Nat.beq w.k 3=false:=by rw[cE]; exact decide_eq_false hk
   simp only[qY,this]; rfl
  simp only[P6,sA,sB,seval,aF,aZ,fld0,l1,hk',e]
  exact⟨tt,tt⟩
theorem iE{H:ae}{pb:Nat}{s:Bs}{w:Wd}{g x y:Int}{orv:aa}(hr:a6 H pb (cO s w g x y orv))(e:Nat):az Tryz.prog aH 40 [af pb 11 0,.int .i64 (e:Int)] H fun u H'=>u=.bool false/\a6 H' pb (cO s w g e w.line orv)/\Fp pb H H':=by
 refine aj rfl Rr rfl ?_
 have l4:au false 1 H (af pb 11 4)=some (.int .i64 (w.line:Int)):=am hr rfl rfl
 have bf:aL [.int .i64 0,.int .i64 0] [(0,1,.int .i64 (e:Int)),(1,1,.int .i64 (w.line:Int))]=some (.agg (jS e w.line)):=rfl
 obtain⟨H5,m5,r5,n5,k5⟩:=mq hr (n:=11) rfl (i:=8) (k:=2) om (xs:=jS e w.line) rfl rfl (l':=cO s w g e w.line orv) rfl
 simp only[c40,sA,sB,seval,aF,aZ,fld0,l4,bf,m5]
 exact⟨tt,r5,om,fun c _ hp=>k5 c hp⟩
theorem vG{H:ae}{pb:Nat}{s:Bs}{w:Wd}{g:Nat}{x y:Int}{orv:aa}(hr:a6 H pb (cO s w g x y orv))(h:200<=g):az Tryz.prog aH 29 [af pb 11 0] H fun u H'=>u=.bool false/\a6 H' pb (cO s w g 102 w.line orv)/\Fp pb H H':=by
 refine aj rfl OV rfl ?_
 have l7:au false 1 H (af pb 11 7)=some (.int .i64 (g:Int)):=am hr rfl rfl
 have h':(200:Int)<=(g:Int):=om
 simp only[Sn,sA,sB,seval,aF,aZ,fld0,l7,h']
 refine (iE hr 102).mono ?_
 rintro _ H1 ⟨rfl,r1,f1⟩
 simp only[sA,sB,seval]
 exact⟨tt,r1,f1⟩
theorem vF{H:ae}{pb:Nat}{s:Bs}{w:Wd}{g:Nat}{x y:Int}{orv:aa}(hr:a6 H pb (cO s w g x y orv))(h:¬200<=g):az Tryz.prog aH 29 [af pb 11 0] H fun u H'=>u=.bool true/\a6 H' pb (cO s w ((g+1:Nat):Int) x y orv)/\Fp pb H H'/\H'.next=H.next:=by
 refine aj rfl OV rfl ?_
 have l7:au false 1 H (af pb 11 7)=some (.int .i64 (g:Int)):=am hr rfl rfl
 have h':¬(200:Int)<=(g:Int):=om
 have wk:IntKind.i64.wrap ((g:Int)+1)=((g+1:Nat):Int):=kJ
 obtain⟨H5,m5,r5,n5,k5⟩:=cu hr (n:=11) rfl (i:=7) om (x:=.int .i64 ((g+1:Nat):Int)) rfl (l':=cO s w ((g+1:Nat):Int) x y orv) rfl
 simp only[Sn,sA,sB,seval,aF,aZ,fld0,l7,h',wk,m5]
 exact⟨tt,r5,⟨om,fun c _ hp=>k5 c hp⟩,n5⟩
theorem my(H:ae)(c:Bs):po (H.push (.cells [.str c] 0 false)).next (H.push (.cells [.str c] 0 false)) (PP H) ([c].map aa.str):=(jG H [.str c]).cel rfl (Nat.lt_succ_self _)
theorem dZ{H:ae}{pb:Nat}{s:Bs}{w:Wd}{g x y:Int}{orv:aa}(hr:a6 H pb (cO s w g x y orv))(hpb:pb<H.next)(hw:w.en<=9223372036854775807)(c:Bs) :
  az Tryz.prog aH 39 [af pb 11 0,.str c] H fun v H'=>(match eF s c w with
   | .ok w'=>v=.bool true/\a6 H' pb (cO s w' g x y orv)
   | .error e=>v=.bool false/\a6 H' pb (cO s w g e.1 e.2 orv))/\Fp pb H H':=by
 refine aj rfl Rs rfl ?_
 have bs:=p9 (.str []) H (x:=.str c) rfl
 have r1:=hr.same (H':=H.push (.cells [.str c] 0 false)) (aI hpb)
 have f1:Fp pb H (H.push (.cells [.str c] 0 false)):=⟨by rw[bp]; omega,fun c hc _=>aI hc⟩
 simp only[c39,sA,sB,seval,bs]
 refine (gT r1 (my H c) (by simp)).mono ?_
 rintro _ _ ⟨rfl,rfl⟩
 cases hs:kM w [c] with
 | true=>
  simp only[sA,sB,seval]
  refine (bR r1 (by rw[bp]; omega) hw).mono ?_
  rintro v H2 ⟨h2,f2⟩
  have e:eF s c w=dN s w:=by unfold eF; rw[if_pos hs]
  rw[e]
  simp only[sA,sB,seval]
  exact⟨h2,f1.trans f2⟩
 | false=>
  simp only[sA,sB,seval]
  refine (iE r1 101).mono ?_
  rintro v H2 ⟨rfl,h2,f2⟩
  have e:eF s c w=.error (101,w.line):=by unfold eF; rw[if_neg (by rw[hs]; simp)]
  rw[e]
  simp only[sA,sB,seval]
  exact⟨⟨tt,h2⟩,f1.trans f2⟩
open Go.Abs Go.Abs.S
def AJ(n pb:Nat)(H:ae):Nat->aa->Prop
 | 0,v=>v=.func (.func 14) [af pb 11 0] []
 | k+1,v=>∃c0 c1 c2 c3 b m vb,v=.func (.func 27) [] [af c0 1 0,af c1 1 0,af c2 1 0,af c3 1 0]/\a6 H c0 [vb]/\a6 H c1 [af pb 11 0]/\a6 H c2 [Gt b m (.known m)]/\a6 H c3 [.bool (!Nat.beq (k+1) 3)]/\a6 H b ((Ic (k+1)).map aa.str)/\((Ic (k+1)).map aa.str).length=m/\(∀c,c=c0∨c=c1∨c=c2∨c=c3∨c=b->c<n/\c≠pb)/\AJ n pb H k vb
theorem AJ.keep{n pb:Nat}{H H':ae}(q:∀c,c<n->c≠pb->H'.get c=H.get c):∀{k:Nat} {v:aa},AJ n pb H k v->AJ n pb H' k v
 | 0,_,h=>h
 | k+1,_,h=>by
  obtain⟨c0,c1,c2,c3,b,m,vb,h1,h2,h3,h4,h5,h6,h7,h8,h9⟩:=h
  have q':∀c,c=c0∨c=c1∨c=c2∨c=c3∨c=b->H'.get c=H.get c:=fun c hc=>q c (h8 c hc).1 (h8 c hc).2
  exact⟨c0,c1,c2,c3,b,m,vb,h1,h2.same (q' _ (by simp)),h3.same (q' _ (by simp)),h4.same (q' _ (by simp)),h5.same (q' _ (by simp)),h6.same (q' _ (by simp)),h7,h8,AJ.keep q h9⟩
theorem AJ.more{n n' pb:Nat}{H:ae}(hn:n<=n'):∀{k:Nat} {v:aa},AJ n pb H k v->AJ n' pb H k v
 | 0,_,h=>h
 | k+1,_,h=>by
  obtain⟨c0,c1,c2,c3,b,m,vb,h1,h2,h3,h4,h5,h6,h7,h8,h9⟩:=h
  exact⟨c0,c1,c2,c3,b,m,vb,h1,h2,h3,h4,h5,h6,h7,fun c hc=>⟨SR (h8 c hc).1 hn,(h8 c hc).2⟩,AJ.more hn h9⟩
structure PA(n pb:Nat)(s:Bs)(H:ae)(w:Wd)(g:Nat)(x y:Int)(orv:aa):Prop where
 row:a6 H pb (cO s w g x y orv)
 hpb:pb<n
 hn:n<=H.next
 or:AJ n pb H 5 orv
 ok:pm s w
 hg:g<=200
theorem PA.fwd{n pb:Nat}{s:Bs}{H H':ae}{w w':Wd}{g g':Nat}{x y x' y':Int}{orv:aa}(h:PA n pb s H w g x y orv)(f:Fp pb H H')(r:a6 H' pb (cO s w' g' x' y' orv))(hw:pm s w')(hg:g'<=200):PA n pb s H' w' g' x' y' orv:=
 ⟨r,h.hpb,Nat.le_trans h.hn f.next,h.or.keep fun c hc hp=>f.old c (SR hc h.hn) hp,hw,hg⟩
theorem PA.lt{n pb:Nat}{s:Bs}{H:ae}{w:Wd}{g:Nat}{x y:Int}{orv:aa}(h:PA n pb s H w g x y orv):pb<H.next:=SR h.hpb h.hn
theorem PA.en{n pb:Nat}{s:Bs}{H:ae}{w:Wd}{g:Nat}{x y:Int}{orv:aa}(h:PA n pb s H w g x y orv):w.en<=9223372036854775807:=by
 have h1:=h.ok.en
 have h2:=h.ok.long
 omega
def OD(pb:Nat)(s:Bs)(g:Nat)(x y:Int)(orv:aa)(H:ae)(r:gK Ex)(u:aa)(H':ae):Prop:=
 (match r with
 | .ok (e,w')=>∃xs,u=.tuple [.agg xs,.bool true]/\lU (In H.next H'.next) H' e xs/\a6 H' pb (cO s w' g x y orv)/\pm s w'
 | .error e=>∃xs w',u=.tuple [.agg xs,.bool false]/\xs.length=4/\(xs.all aa.one=true/\aeqs xs xs=true)/\a6 H' pb (cO s w' g e.1 e.2 orv))/\Fp pb H H'
def Sv(pb:Nat)(s:Bs)(g:Nat)(x y:Int)(orv:aa)(S:Bs)(H:ae)(r:gK Ex)(u:aa)(H':ae):Prop:=
 (match r with
 | .ok (e,w')=>∃kids v C,e=.mk 4 S 0 kids/\u=.tuple [v,.bool true]/\ql (In H.next H'.next) H' 4 v kids.length C/\dF (In H.next H'.next) H' kids C/\a6 H' pb (cO s w' g x y orv)/\pm s w'
 | .error e=>∃v w',u=.tuple [v,.bool false]/\(v.one=true/\aeq v v=true)/\a6 H' pb (cO s w' g e.1 e.2 orv))/\Fp pb H H'
def CV(v:aa)(H:ae)(K:aa->ae->Prop):Prop:=nM (az Tryz.prog aH) v [] H K
theorem CV.mono{v:aa}{H:ae}{K K':aa->ae->Prop}(h:CV v H K)(k:∀u H',K u H'->K' u H'):CV v H K':=by
 obtain⟨g,a,b,h1,h2,h3⟩:=h
 exact⟨g,a,b,h1,h2,h3.mono k⟩
def lW(n pb:Nat)(s:Bs)(f k:Nat):Prop:=∀(H:ae) (w:Wd) (g:Nat) (x y:Int) (orv v:aa) (r:gK Ex),PA n pb s H w g x y orv->AJ n pb H k v->pE s f (.rule k) g w=some r->CV v H (OD pb s g x y orv H r)
def JK(n pb:Nat)(s:Bs)(f:Nat):Prop:=∀(H:ae) (w:Wd) (g:Nat) (x y:Int) (orv:aa) (r:gK Ex),PA n pb s H w g x y orv->pE s f .prim g w=some r->az Tryz.prog aH 31 [af pb 11 0] H (OD pb s g x y orv H r)
def MZ(s:Bs)(pe:NT->Nat->Wd->Option (gK Ex))(S:Bs)(g:Nat)(w:Wd):Option (gK Ex):=kZ (dN s w) fun w2=>if kM w2 [[41]] then kZ (dN s w2) fun w3=>cW (.mk 4 S 0 []) w3 else pe (.args S []) g w2
def JU(n pb:Nat)(s:Bs)(f:Nat):Prop:=∀(S:Bs) (H:ae) (w:Wd) (g:Nat) (x y:Int) (orv:aa) (r:gK Ex),PA n pb s H w g x y orv->kM w [[40]]=true->MZ s (pE s f) S g w=some r->az Tryz.prog aH 60 [af pb 11 0] H (Sv pb s g x y orv S H r)
theorem dd{α:Type}{o:Except Gy Wd}{f:Wd->Option (gK α)}{r:gK α}(h:kZ o f=some r):(∃e,o=.error e/\r=.error e)∨∃w,o=.ok w/\f w=some r:=by
 cases o with
 | error e=>simp only[kZ,sJ]at h; exact .inl ⟨e,rfl,h.symm⟩
 | ok w=>exact .inr ⟨w,rfl,h⟩
theorem cP{α β:Type}{o:Option (gK α)}{f:α->Wd->Option (gK β)}{r:gK β}(h:uF o f=some r):(∃e,o=some (.error e)/\r=.error e)∨∃a w,o=some (.ok (a,w))/\f a w=some r:=by
 cases o with
 | none=>simp[uF]at h
 | some o=>
  cases o with
  | error e=>simp only[uF,sJ]at h; exact .inl ⟨e,rfl,h.symm⟩
  | ok p=>obtain⟨a,w⟩:=p; exact .inr ⟨a,w,rfl,h⟩
theorem eG(x:aa):gJ .isU [x]=some (.bool (isU x)):=_root_.id rfl
theorem dm(f:Fn)(a b:List aa):isU (.func f a b)=false:=_root_.id rfl
theorem gX:isU (.tuple [])=true:=_root_.id rfl
theorem jZ(g:Nat)(x:aa):gJ (.isF g 1) [.func (.func g) [] [x]]=some (.bool true):=by
 simp[gJ,JD]
theorem iF(f:Fn)(x:aa):gJ (.capt 0) [.func f [] [x]]=some x:=_root_.id rfl
theorem xw(f:Nat)(a b:List aa):gJ .dset [.tuple [],.func (.func f) a b]=some (.func (.func f) a b):=_root_.id rfl
theorem im(x y:aa):gJ .tup [x,y]=some (.tuple [x,y]):=_root_.id rfl
theorem lH{H:ae}{pb c:Nat}{s:Bs}{w:Wd}{g:Nat}{x y:Int}{orv:aa}(hc:a6 H c [af pb 11 0])(hr:a6 H pb (cO s w ((g+1:Nat):Int) x y orv))(hg:g<=1000):az Tryz.prog aH 3102 [af c 1 0] H fun _ H'=>a6 H' pb (cO s w (g:Int) x y orv)/\H'.next=H.next/\∀k,k≠pb->H'.get k=H.get k:=by
 refine gF rfl Nn rfl ?_
 have lc:au false 1 H (af c 1 0)=some (af pb 11 0):=am hc rfl rfl
 have l7:au false 1 H (af pb 11 7)=some (.int .i64 ((g+1:Nat):Int)):=am hr rfl rfl
 have wk:IntKind.i64.wrap (((g+1:Nat):Int)-1)=(g:Int):=kJ
 obtain⟨H5,m5,r5,n5,k5⟩:=cu hr (n:=11) rfl (i:=7) om (x:=.int .i64 (g:Int)) rfl (l':=cO s w (g:Int) x y orv) rfl
 simp only[MV,sA,sB,seval,lc,aF,aZ,l7,wk,m5]
 exact⟨[],rfl,r5,n5,k5⟩
theorem fN(b n i:Nat):(af b n i).cells=[af b n i]:=_root_.id rfl
theorem Om:aL [.int .u8 0,.str [],.int .i64 0,.slice none 0 (.known 0)] []=some (.agg [.int .u8 0,.str [],.int .i64 0,.slice none 0 (.known 0)]):=_root_.id rfl
theorem MW(S:Bs)(v:aa)(hv:v.one=true):aL [.int .u8 0,.str [],.int .i64 0,.slice none 0 (.known 0)] [(0,1,.int .u8 3),(1,1,.str S),(3,1,v)]=some (.agg [.int .u8 3,.str S,.int .i64 0,v]):=by
 cases v <;> first | rfl | (simp[aa.one]at hv)
theorem Nt(H:ae)(a b:Bs):cA 2 [.str []] H [(0,1,.str a),(1,1,.str b)]=some (Gt H.next 2 (.known 2),H.push (.cells [.str a,.str b] 0 false)):=_root_.id rfl
theorem GJ{n pb:Nat}{s:Bs}{f:Nat}(ihr:lW n pb s f 0)(ihp:JK n pb s f):lW n pb s (f+1) 0:=by
 intro H w g x y orv v r A hv hr
 rw[show v=.func (.func 14) [af pb 11 0] [] from hv]
 show nM _ _ _ _ _
 rw[g9 _ _ _ _ _ dD]
 refine gF rfl RO rfl ?_
 rw[j2]at hr
 simp only[gO]at hr
 have hlt:=A.lt
 obtain⟨H1,m1,r1,n1,k1⟩:=aw H [af pb 11 0] (n:=1) rfl
 obtain⟨H2,m2,r2,n2,k2⟩:=aw H1 [.int .u8 0,.str [],.int .i64 0,.slice none 0 (.known 0)] (n:=4) rfl
 have g41:mL ([af pb 11 0]++[]++[]) 41=.tuple []:=rfl
 have g42:mL ([af pb 11 0]++[]++[]) 42=.tuple []:=rfl
 have F2:Fp pb H H2:=⟨om,fun c hc _=>by rw[k2 c om,k1 c om]⟩
 have A2:=A.fwd F2 (A.row.same (by rw[k2 pb om,k1 pb om])) A.ok A.hg
 have c1:a6 H2 H.next [af pb 11 0]:=r1.same (k2 _ om)
 have l1:∀{K:ae},Fp pb H2 K->au false 1 K (af H.next 1 0)=some (af pb 11 0):=fun q=>am (c1.same (q.old _ om om)) rfl rfl
 have l1':=l1 (Fp.refl pb H2)
 have b0:=Om
 simp only[List.nil_append,SX,List.append_nil]at g41 g42
 by_cases hg:200<=g
 ·rw[if_pos hg]at hr
  simp only[qf,sJ]at hr
  subst hr
  simp only[List.nil_append,SX,List.append_nil,Sq,sA,sB,seval,fN,m1,m2,l1']
  refine (vG A2.row hg).mono ?_
  rintro _ H3 ⟨rfl,r3,F3⟩
  obtain⟨H4,m4,r4,n4,k4⟩:=ak (r2.same (F3.old _ om om)) (n:=4) rfl (xs:=[.int .u8 0,.str [],.int .i64 0,.slice none 0 (.known 0)]) rfl rfl
  have l4:=aA r4 (n:=4) rfl
  have f3:=F3.next
  simp only[sA,sB,seval,b0,m4,g41,g42,eG,gX,l4,im]
  refine⟨⟨_,w,tt,rfl,⟨rfl,rfl⟩,r3.same (k4 _ om)⟩,om,fun c hc hp=>by rw[k4 c om,F3.old c om hp,F2.old c hc hp]⟩
 rw[if_neg hg]at hr
 simp only[List.nil_append,SX,List.append_nil,Sq,sA,sB,seval,fN,m1,m2,l1']
 refine (vF A2.row hg).mono ?_
 rintro _ H3 ⟨rfl,r3,F3,n3⟩
 have A3:=A2.fwd F3 r3 A.ok om
 have l3:=l1 F3
 have F4:Fp pb H3 (H3.push (.cells [.str [45],.str [33]] 0 false)):=⟨by rw[bp]; omega,fun c hc _=>aI hc⟩
 have A4:=A3.fwd F4 (r3.same (aI A3.lt)) A.ok om
 have c4:po (H3.push (.cells [.str [45],.str [33]] 0 false)).next (H3.push (.cells [.str [45],.str [33]] 0 false)) (Gt H3.next 2 (.known 2)) ([[45],[33]].map aa.str):=(jG H3 [.str [45],.str [33]]).cel rfl (Nat.lt_succ_self _)
 simp only[sA,sB,seval,g42,xw,l3,Nt]
 refine (gT A4.row c4 (by simp)).mono ?_
 rintro _ _ ⟨rfl,rfl⟩
 have l4:=l1 (F3.trans F4)
 have F24:=F3.trans F4
 generalize H3.push (.cells [.str [45],.str [33]] 0 false)=H4 at *
 have e4:=F24.next
 cases hs:kM w [[45],[33]] with
 | false=>
  rw[if_neg (by rw[hs]; simp)]at hr
  simp only[sA,sB,seval,l4]
  refine (ihp H4 w (g+1) x y orv r A4 hr).mono ?_
  rintro u H5 ⟨ho,F5⟩
  have e5:=F5.next
  have F25:=F24.trans F5
  have r2':a6 H5 H1.next _:=r2.same (F25.old _ om om)
  have eD:∀(xs:List aa),xs.length=4->xs.all aa.one=true->∃H6,bu 4 H5 (af H1.next 4 0) (.agg xs)=some H6/\a6 H6 H1.next xs/\H6.next=H5.next/\∀c,c≠H1.next->H6.get c=H5.get c:=fun xs h1 h2=>ak r2' (n:=4) rfl h1 h2
  cases r with
  | error e=>
   obtain⟨xs,w',rfl,x1,⟨x2,x3⟩,r5⟩:=ho
   obtain⟨H6,m6,r6,n6,k6⟩:=eD xs x1 x2
   simp only[sA,sB,seval,bA,bx,m6,eG,dm,g41,gX,jZ,iF]
   refine (lH (c1.same (by rw[k6 _ om,F25.old _ om om])) (r5.same (k6 _ om)) om).mono ?_
   rintro _ H7 ⟨r7,n7,k7⟩
   have l7:=aA (r6.same (k7 _ om)) x1
   simp only[sA,sB,seval,l7,im]
   exact⟨⟨xs,w',tt,x1,⟨x2,x3⟩,r7⟩,om,fun c hc hp=>by rw[k7 c hp,k6 c om,F25.old c om hp,F2.old c hc hp]⟩
  | ok p=>
   obtain⟨e,w'⟩:=p
   obtain⟨xs,rfl,x1,r5,o5⟩:=ho
   obtain⟨H6,m6,r6,n6,k6⟩:=eD xs x1.len x1.one
   simp only[sA,sB,seval,bA,bx,m6,eG,dm,g41,gX,jZ,iF]
   refine (lH (c1.same (by rw[k6 _ om,F25.old _ om om])) (r5.same (k6 _ om)) om).mono ?_
   rintro _ H7 ⟨r7,n7,k7⟩
   have l7:=aA (r6.same (k7 _ om)) x1.len
   simp only[sA,sB,seval,l7,im]
   refine⟨⟨xs,tt,x1.mono fun b hb=>?_,r7,o5⟩,om,fun c hc hp=>by rw[k7 c hp,k6 c om,F25.old c om hp,F2.old c hc hp]⟩
   have h1:=hb.1
   have h2:=hb.2
   exact⟨⟨om,om⟩,by rw[k7 b om,k6 b om]⟩
 | true=>
  rw[if_pos hs]at hr
  have l2:au false 1 H4 (af pb 11 2)=some (.str w.S):=am A4.row rfl rfl
  simp only[sA,sB,seval,l4,aF,aZ,l2]
  refine (bR A4.row A4.lt A4.en).mono ?_
  rintro u H5 ⟨ho,F5⟩
  have e5:=F5.next
  have F25:=F24.trans F5
  have l5:=l1 F25
  rcases dd hr with⟨e,he,rfl⟩ | ⟨w1,he,hr⟩
  ·rw[he]at ho
   obtain⟨rfl,r5⟩:=ho
   obtain⟨H6,m6,r6,n6,k6⟩:=ak (r2.same (F25.old _ om om)) (n:=4) rfl (xs:=[.int .u8 0,.str [],.int .i64 0,.slice none 0 (.known 0)]) rfl rfl
   simp only[sA,sB,seval,b0,m6,eG,dm,g41,gX,jZ,iF]
   refine (lH (c1.same (by rw[k6 _ om,F25.old _ om om])) (r5.same (k6 _ om)) om).mono ?_
   rintro _ H7 ⟨r7,n7,k7⟩
   have l7:=aA (r6.same (k7 _ om)) (n:=4) rfl
   simp only[sA,sB,seval,l7,im]
   exact⟨⟨_,w,tt,rfl,⟨rfl,rfl⟩,r7⟩,om,fun c hc hp=>by rw[k7 c hp,k6 c om,F25.old c om hp,F2.old c hc hp]⟩
  rw[he]at ho
  obtain⟨rfl,r5⟩:=ho
  have A5:=A4.fwd F5 r5 (aW he A.ok (by rw[iC hs]; omega)).1 om
  simp only[sA,sB,seval,l5]
  have hc:∀{r':gK Ex},pE s f (.rule 0) (g+1) w1=some r'->az Tryz.prog aH 14 [af pb 11 0] H5 (OD pb s ((g+1:Nat)) x y orv H5 r'):=by
   intro r' h'
   have:=ihr H5 w1 (g+1) x y orv _ r' A5 rfl h'
   rw[CV,g9 _ _ _ _ _ dD]at this
   exact this
  rcases cP hr with⟨e,he2,rfl⟩ | ⟨e1,w2,he2,hr⟩
  ·refine (hc he2).mono ?_
   rintro u H6 ⟨⟨xs,w',rfl,x1,⟨x2,_⟩,r6⟩,F6⟩
   have e6:=F6.next
   have F26:=F25.trans F6
   obtain⟨H7,m7,r7,n7,k7⟩:=aw H6 [.int .u8 0,.str [],.int .i64 0,.slice none 0 (.known 0)] (n:=4) rfl
   obtain⟨H8,m8,r8,n8,k8⟩:=ak r7 (n:=4) rfl x1 x2
   obtain⟨H9,m9,r9,n9,k9⟩:=ak (r2.same (H':=H8) (by rw[k8 _ om,k7 _ om,F26.old _ om om])) (n:=4) rfl (xs:=[.int .u8 0,.str [],.int .i64 0,.slice none 0 (.known 0)]) rfl rfl
   have e29:∀c,c<H2.next->c≠pb->c≠H1.next->H9.get c=H2.get c:=fun c h1 h2 h3=>by rw[k9 c h3,k8 c om,k7 c om,F26.old c h1 h2]
   simp only[sA,sB,seval,bA,bx,m7,m8,b0,m9,eG,dm,g41,gX,jZ,iF]
   refine (lH (c1.same (e29 _ om om om)) (r6.same (by rw[k9 _ om,k8 _ om,k7 _ om])) om).mono ?_
   rintro _ Ha ⟨ra,na,ka⟩
   have la:=aA (r9.same (ka _ om)) (n:=4) rfl
   simp only[sA,sB,seval,la,im]
   exact⟨⟨_,w',tt,rfl,⟨rfl,rfl⟩,ra⟩,om,fun c hc hp=>by rw[ka c hp,e29 c om hp om,F2.old c hc hp]⟩
  simp only[cW,sJ]at hr
  subst hr
  refine (hc he2).mono ?_
  rintro u H6 ⟨⟨xs,rfl,x1,r6,o6⟩,F6⟩
  have e6:=F6.next
  have F26:=F25.trans F6
  obtain⟨H7,m7,r7,n7,k7⟩:=aw H6 [.int .u8 0,.str [],.int .i64 0,.slice none 0 (.known 0)] (n:=4) rfl
  obtain⟨H8,m8,r8,n8,k8⟩:=ak r7 (n:=4) rfl x1.len x1.one
  have l8:=aA r8 x1.len
  have bs:=yb (z:=[.int .u8 0,.str [],.int .i64 0,.slice none 0 (.known 0)]) (m:=4) H8 rfl x1.len
  have rP:a6 (H8.push (.cells xs 0 false)) H8.next xs:=jG _ _
  obtain⟨H9,m9,r9,n9,k9⟩:=ak (H:=H8.push (.cells xs 0 false)) (r2.same (by rw[aI om,k8 _ om,k7 _ om,F26.old _ om om])) (n:=4) rfl (xs:=[.int .u8 3,.str w.S,.int .i64 0,pP H8 4]) rfl rfl
  rw[bp]at n9
  have k9':∀c,c<H8.next->c≠H1.next->H9.get c=H8.get c:=fun c h1 h2=>by rw[k9 c h2,aI h1]
  have e29:∀c,c<H2.next->c≠pb->c≠H1.next->H9.get c=H2.get c:=fun c h1 h2 h3=>by rw[k9' c om h3,k8 c om,k7 c om,F26.old c h1 h2]
  simp only[sA,sB,seval,bA,bx,m7,m8,l8,bs,MW _ (pP H8 4) rfl,m9,eG,dm,g41,gX,jZ,iF]
  refine (lH (c1.same (e29 _ om om om)) (r6.same (by rw[k9' _ om om,k8 _ om,k7 _ om])) om).mono ?_
  rintro _ Ha ⟨ra,na,ka⟩
  have la:=aA (r9.same (ka _ om)) (n:=4) rfl
  have rk:a6 Ha H8.next xs:=rP.same (by rw[ka _ om,k9 _ om])
  simp only[sA,sB,seval,la,im]
  refine⟨⟨_,tt,⟨pP H8 4,xs,rfl,.row rk x1.len rfl ⟨om,om⟩,.sing (x1.mono fun b hb=>?_)⟩,ra,o6⟩,om,fun c hc hp=>by rw[ka c hp,e29 c om hp om,F2.old c hc hp]⟩
  have h1:=hb.1
  have h2:=hb.2
  exact⟨⟨om,om⟩,by rw[ka b om,k9' b om om,k8 b om,k7 b om]⟩
open Go.Abs Go.Abs.S
theorem fe{T:cD}{H:ae}(g:Bool)(n i j:Nat)(K:aa->ae->Prop):eD [.cell g n i,.t j] K .ret T H=dh (au g n H (T i)) fun v=>K (.tuple [v,T j]) H:=by
 rw[oP]
 simp only[kF]
 cases au g n H (T i) with
 | none=>simp[dh]
 | some v=>simp only[aD]; rfl
theorem RY(H:ae){xs ys:List aa}(hx:xs.length=4)(hy:ys.length=4):cA 2 [.int .u8 0,.str [],.int .i64 0,.slice none 0 (.known 0)] H [(0,4,.agg xs),(4,4,.agg ys)]=some (.slice (some ⟨H.next,8,0⟩) 2 (.known 2),H.push (.cells (xs++ys) 0 false)):=by
 match xs,hx with
 | [a,b,c,d],_=>
  match ys,hy with
  | [e,f,g,h],_=>rfl
theorem Nq{n pb:Nat}{s:Bs}{f k:Nat}(hk:k+1<=5)(ihr:∀f',f'<=f->lW n pb s f' k):lW n pb s (f+1) (k+1):=by
 intro H w g x y orv v r A hv hr
 obtain⟨c0,c1,c2,c3,b,m,vb,rfl,R0,R1,R2,R3,Rb,hm,hc,hvb⟩:=id hv
 show nM _ _ _ _ _
 rw[g9 _ _ _ _ _ dD]
 refine aj rfl RD rfl ?_
 rw[j2]at hr
 simp only[gO]at hr
 have hlt:=A.lt
 have hnn:=A.hn
 obtain⟨hc0,hp0⟩:=hc c0 (by simp)
 obtain⟨hc1,hp1⟩:=hc c1 (by simp)
 obtain⟨hc2,hp2⟩:=hc c2 (by simp)
 obtain⟨hc3,hp3⟩:=hc c3 (by simp)
 obtain⟨hcb,hpb'⟩:=hc b (by simp)
 obtain⟨H1,m1,r1,n1,k1⟩:=aw H [.int .u8 0,.str [],.int .i64 0,.slice none 0 (.known 0)] (n:=4) rfl
 have F1:Fp pb H H1:=⟨om,fun c hc _=>k1 c om⟩
 have A1:=A.fwd F1 (A.row.same (k1 pb om)) A.ok A.hg
 have l0:∀{K:ae},Fp pb H K->au false 1 K (af c0 1 0)=some vb:=fun q=>am (R0.same (q.old _ om hp0)) rfl rfl
 have l1:∀{K:ae},Fp pb H K->au false 1 K (af c1 1 0)=some (af pb 11 0):=fun q=>am (R1.same (q.old _ om hp1)) rfl rfl
 have l2:∀{K:ae},Fp pb H K->au false 1 K (af c2 1 0)=some (Gt b m (.known m)):=fun q=>am (R2.same (q.old _ om hp2)) rfl rfl
 have l3:∀{K:ae},Fp pb H K->au false 1 K (af c3 1 0)=some (.bool (!Nat.beq (k+1) 3)):=fun q=>am (R3.same (q.old _ om hp3)) rfl rfl
 have lb:∀{K:ae},Fp pb H K->po K.next K (Gt b m (.known m)) ((Ic (k+1)).map aa.str):=fun q=>(Rb.same (q.old _ om hpb')).cel hm (by have:=q.next; omega)
 have hlv:(Ic (k+1)).length<=1000:=by
  match k,hk with
  | 0,_ | 1,_ | 2,_ | 3,_ | 4,_=>decide
 have l01:=l0 F1
 have b0:=Om
 simp only[List.nil_append,SX,List.append_nil,c27,sW,sL,jA,jc,pu,sB,seval,m1,l01]
 obtain⟨r0,hr0⟩:∃r0,pE s f (.rule k) g w=some r0:=by
  rcases cP hr with⟨e,he,rfl⟩ | ⟨e1,w2,he,_⟩
  ·exact⟨_,he⟩
  ·exact⟨_,he⟩
 refine (ihr f rL H1 w g x y orv vb r0 A1 (hvb.keep fun c h1 h2=>F1.old c om h2) hr0).mono ?_
 rintro u H2 ⟨ho,F2⟩
 have e2:=F2.next
 have start:∃xs ok,u=.tuple [.agg xs,.bool ok]/\xs.length=4/\xs.all aa.one=true:=by
  cases r0 with
  | error e=>obtain⟨xs,w',rfl,x1,⟨x2,_⟩,_⟩:=ho; exact⟨xs,false,rfl,x1,x2⟩
  | ok p=>obtain⟨e,w'⟩:=p; obtain⟨xs,rfl,x1,_⟩:=ho; exact⟨xs,true,rfl,x1.len,x1.one⟩
 obtain⟨xs,ok,rfl,x1,x2⟩:=start
 obtain⟨H3,m3,r3,n3,k3⟩:=aw H2 [.int .u8 0,.str [],.int .i64 0,.slice none 0 (.known 0)] (n:=4) rfl
 obtain⟨H4,m4,r4,n4,k4⟩:=ak r3 (n:=4) rfl x1 x2
 simp only[sW,sL,jA,jc,pu,sB,seval,bA,bx,m3,m4]
 rw[gd]
 have k42:∀c,c<H2.next->H4.get c=H2.get c:=fun c hc=>by rw[k4 c om,k3 c om]
 have F4:Fp pb H H4:=⟨om,fun c hc hp=>by rw[k42 c om,F2.old c om hp,F1.old c hc hp]⟩
 have r14:a6 H4 H.next _:=r1.same (by rw[k42 _ om,F2.old _ om om])
 refine qg (fun (T:cD) H'=>T 4=af H.next 4 0/\T 6=af H2.next 4 0/\a6 H' H.next [.int .u8 0,.str [],.int .i64 0,.slice none 0 (.known 0)]/\Fp pb H H'/\H.next<H'.next/\((∃e w' xs,r=.ok (e,w')/\T 7=.bool true/\a6 H' H2.next xs/\lU (In (H.next+1) H'.next) H' e xs/\a6 H' pb (cO s w' g x y orv)/\pm s w')∨∃e w',r=.error e/\T 7=.bool false/\a6 H' pb (cO s w' g e.1 e.2 orv))) (dJ _ _) ?_ ?_
 rotate_left
 ·rintro T H5 ⟨t4,t6,q4,F5,lt5,⟨e,w',xs,rfl,t7,rx,hx,rp,hw⟩ | ⟨e,w',rfl,t7,rp⟩⟩
  ·have lx:=aA rx hx.len
   obtain⟨H6,m6,r6,n6,k6⟩:=ak q4 (n:=4) rfl hx.len hx.one
   have l6:=aA r6 hx.len
   simp only[sA,sB,seval,t4,t6,t7,lx,m6,fe,l6,aD]
   refine⟨⟨xs,tt,hx.mono fun c hc=>⟨⟨Nat.le_of_succ_le hc.1,by rw[n6]; exact hc.2⟩,k6 c (by have:=hc.1; omega)⟩,rp.same (k6 _ om),hw⟩,by rw[n6]; exact F5.next,fun c hc hp=>by rw[k6 c om,F5.old c hc hp]⟩
  ·obtain⟨H6,m6,r6,n6,k6⟩:=ak q4 (n:=4) rfl (xs:=[.int .u8 0,.str [],.int .i64 0,.slice none 0 (.known 0)]) rfl rfl
   have l6:=aA r6 (n:=4) rfl
   simp only[sA,sB,seval,t4,t6,t7,b0,m6,fe,l6,aD]
   exact⟨⟨_,w',tt,rfl,⟨rfl,rfl⟩,rp.same (k6 _ om)⟩,by rw[n6]; exact F5.next,fun c hc hp=>by rw[k6 c om,F5.old c hc hp]⟩
 refine cg (fun m' (T:cD) H'=>m'<=f/\T 0=af c0 1 0/\T 1=af c1 1 0/\T 2=af c2 1 0/\T 3=af c3 1 0/\T 4=af H.next 4 0/\T 6=af H2.next 4 0/\a6 H' H.next [.int .u8 0,.str [],.int .i64 0,.slice none 0 (.known 0)]/\Fp pb H H'/\H2.next<H'.next/\((∃e w' xs,pE s m' (.loop (k+1) e) g w'=some r/\T 7=.bool true/\a6 H' H2.next xs/\lU (fun c=>In (H.next+1) H'.next c/\c≠H2.next) H' e xs/\a6 H' pb (cO s w' g x y orv)/\pm s w')∨∃e w' xs,r=.error e/\T 7=.bool false/\a6 H' H2.next xs/\a6 H' pb (cO s w' g e.1 e.2 orv))) f ?_ ?_
 ·refine⟨Nat.le_refl _,by simp only[sA,sB,seval]; try rfl,by simp only[sA,sB,seval]; try rfl,by simp only[sA,sB,seval]; try rfl,by simp only[sA,sB,seval]; try rfl,by simp only[sA,sB,seval],by simp only[sA,sB,seval],r14,F4,om,?_⟩
  rcases cP hr with⟨e,he,rfl⟩ | ⟨e1,w2,he,hr'⟩
  ·rw[hr0]at he
   simp only[sJ]at he
   subst he
   obtain⟨xs',w',hu,_,_,rp⟩:=ho
   simp only[aa.tuple.injEq,List.cons.injEq,aa.agg.injEq,aa.bool.injEq,and_true]at hu
   obtain⟨rfl,rfl⟩:=hu
   exact .inr ⟨e,w',xs,rfl,by simp only[sA,sB,seval],r4,rp.same (k42 _ om)⟩
  ·rw[hr0]at he
   simp only[sJ]at he
   subst he
   obtain⟨xs',hu,hx,rp,hw⟩:=ho
   simp only[aa.tuple.injEq,List.cons.injEq,aa.agg.injEq,aa.bool.injEq,and_true]at hu
   obtain⟨rfl,rfl⟩:=hu
   refine .inl ⟨e1,w2,xs,hr',by simp only[sA,sB,seval],r4,hx.mono fun c hc=>?_,rp.same (k42 _ om),hw⟩
   have h1:=hc.1
   have h2:=hc.2
   exact⟨⟨⟨om,om⟩,om⟩,k42 c h2⟩
 rintro m' T H5 ⟨hm',t0,t1,t2,t3,t4,t6,q4,F5,lt5,⟨e,w',xs,hp,t7,rx,hx,rp,hw⟩ | ⟨e,w',xs,rfl,t7,rx,rp⟩⟩
 rotate_left
 ·simp only[sA,sB,seval,t7]
  exact⟨t4,t6,q4,F5,om,.inr ⟨e,w',rfl,tt,rp⟩⟩
 cases m' with
 | zero=>simp[pE]at hp
 | succ m'=>
 rw[j2]at hp
 simp only[gO,Nat.add_sub_cancel]at hp
 have A5:=A.fwd F5 rp hw A.hg
 have l15:=l1 F5
 have l25:=l2 F5
 simp only[sA,sB,seval,t0,t1,t2,t3,t4,t6,t7,l15,l25]
 refine (gT rp (lb F5) hlv).mono ?_
 rintro _ _ ⟨rfl,rfl⟩
 cases hs:kM w' (Ic (k+1)) with
 | false=>
  rw[if_neg (by rw[hs]; simp)]at hp
  simp only[cW,sJ]at hp
  subst hp
  simp only[sA,sB,seval]
  exact⟨by simp only[sA,sB,seval,t4],by simp only[sA,sB,seval,t6],q4,F5,om,.inl ⟨e,w',xs,rfl,by simp only[sA,sB,seval,t7],rx,hx.mono fun c hc=>⟨hc.1,rfl⟩,rp,hw⟩⟩
 | true=>
 rw[if_pos hs]at hp
 have lS:au false 1 H5 (af pb 11 2)=some (.str w'.S):=am rp rfl rfl
 simp only[sA,sB,seval,t0,t1,t2,t3,t4,t6,t7,l15,aF,aZ,lS]
 refine (bR rp A5.lt A5.en).mono ?_
 rintro u H6 ⟨h6,F6⟩
 have e6:=F6.next
 have F56:=F5.trans F6
 rcases dd hp with⟨e',he,rfl⟩ | ⟨w1,he,hp⟩
 ·rw[he]at h6
  obtain⟨rfl,r6⟩:=h6
  obtain⟨H7,m7,r7,n7,k7⟩:=ak (q4.same (F6.old _ om om)) (n:=4) rfl (xs:=[.int .u8 0,.str [],.int .i64 0,.slice none 0 (.known 0)]) rfl rfl
  have l7:=aA r7 (n:=4) rfl
  simp only[sA,sB,seval,t0,t1,t2,t3,t4,t6,t7,b0,m7,fe,l7,aD]
  exact⟨⟨_,w',tt,rfl,⟨rfl,rfl⟩,r6.same (k7 _ om)⟩,by have:=F5.next; omega,fun c hc hp=>by rw[k7 c om,F56.old c hc hp]⟩
 rw[he]at h6
 obtain⟨rfl,r6⟩:=h6
 obtain⟨hw1,-⟩:=aW he hw (by rw[iC hs]; omega)
 obtain⟨H7,m7,r7,n7,k7⟩:=aw H6 [.int .u8 0,.str [],.int .i64 0,.slice none 0 (.known 0)] (n:=4) rfl
 have F7:Fp pb H H7:=⟨by have:=F56.next; omega,fun c hc hp=>by rw[k7 c (by have:=F56.next; omega),F56.old c hc hp]⟩
 have r67:=r6.same (k7 pb om)
 have A7:=A.fwd F7 r67 hw1 A.hg
 have l07:=l0 F7
 simp only[sA,sB,seval,t0,t1,t2,t3,t4,t6,t7,m7,l07]
 obtain⟨r2,hr2⟩:∃r2,pE s m' (.rule k) g w1=some r2:=by
  rcases cP hp with⟨e,he,rfl⟩ | ⟨e1,w2,he,_⟩
  ·exact⟨_,he⟩
  ·exact⟨_,he⟩
 refine (ihr m' om H7 w1 g x y orv vb r2 A7 (hvb.keep fun c h1 h2=>F7.old c om h2) hr2).mono ?_
 rintro u H8 ⟨h8,F8⟩
 have e8:=F8.next
 have F78:=F7.trans F8
 have start:∃ys ok,u=.tuple [.agg ys,.bool ok]/\ys.length=4/\ys.all aa.one=true:=by
  cases r2 with
  | error e=>obtain⟨xs,w',rfl,x1,⟨x2,_⟩,_⟩:=h8; exact⟨xs,false,rfl,x1,x2⟩
  | ok p=>obtain⟨e,w'⟩:=p; obtain⟨xs,rfl,x1,_⟩:=h8; exact⟨xs,true,rfl,x1.len,x1.one⟩
 obtain⟨ys,ok2,rfl,y1,y2⟩:=start
 obtain⟨H9,m9,r9,n9,k9⟩:=ak (r7.same (F8.old _ om om)) (n:=4) rfl y1 y2
 have l9:=aA r9 y1
 have k97:∀c,c<H6.next->c≠pb->H9.get c=H6.get c:=fun c h1 h2=>by rw[k9 c om,F8.old c om h2,k7 c om]
 have k95:∀c,c<H5.next->c≠pb->H9.get c=H5.get c:=fun c h1 h2=>by rw[k97 c om h2,F6.old c h1 h2]
 have rx9:=rx.same (k95 H2.next lt5 om)
 have lx9:=aA rx9 hx.len
 have bs:=RY H9 hx.len y1
 have rP:a6 (H9.push (.cells (xs++ys) 0 false)) H9.next (xs++ys):=jG _ _
 obtain⟨Ha,ma,ra,na,ka⟩:=ak (H:=H9.push (.cells (xs++ys) 0 false)) (rx9.same (aI om)) (n:=4) hx.len (xs:=[.int .u8 3,.str w'.S,.int .i64 0,.slice (some ⟨H9.next,8,0⟩) 2 (.known 2)]) rfl rfl
 rw[bp]at na
 have ka9:∀c,c<H9.next->c≠H2.next->Ha.get c=H9.get c:=fun c h1 h2=>by rw[ka c h2,aI h1]
 have Fa:Fp pb H Ha:=⟨by have:=F78.next; omega,fun c hc hp=>by rw[ka9 c (by have:=F78.next; omega) om,k9 c (by have:=F7.next; omega),F78.old c hc hp]⟩
 have l3a:=l3 Fa
 have q4a:a6 Ha H.next _:=q4.same (by rw[ka9 _ om om,k95 _ om om])
 have hpa:Ha.get pb=H8.get pb:=by rw[ka9 _ om om,k9 _ om]
 simp only[sA,sB,seval,bA,bx,t0,t1,t2,t3,t4,t6,t7,m9,lx9,l9,bs,MW w'.S (.slice (some ⟨H9.next,8,0⟩) 2 (.known 2)) rfl,ma,l3a]
 have eb:∀q:Ex×Wd,r2=.ok q->lU (fun c=>In (H.next+1) Ha.next c/\c≠H2.next) Ha (.mk 3 w'.S 0 [e,q.1]) [.int .u8 3,.str w'.S,.int .i64 0,.slice (some ⟨H9.next,8,0⟩) 2 (.known 2)]/\a6 Ha pb (cO s q.2 g x y orv)/\pm s q.2:=by
  rintro ⟨e2,w2⟩ rfl
  obtain⟨ys',hu,hy,rp2,hw2⟩:=h8
  simp only[aa.tuple.injEq,List.cons.injEq,aa.agg.injEq,aa.bool.injEq,and_true]at hu
  obtain⟨rfl,rfl⟩:=hu
  refine⟨⟨_,xs++ys,rfl,.row (rP.same (ka _ om)) (by rw[lA,hx.len,y1]) rfl ⟨⟨om,om⟩,om⟩,xs,ys,rfl,hx.mono fun c hc=>?_,.sing (hy.mono fun c hc=>?_)⟩,rp2.same hpa,hw2⟩
  ·have h1:=hc.1.1
   have h2:=hc.1.2
   exact⟨⟨⟨h1,om⟩,hc.2⟩,by rw[ka9 c om hc.2,k95 c h2 om]⟩
  ·have h1:=hc.1
   have h2:=hc.2
   exact⟨⟨⟨om,om⟩,om⟩,by rw[ka9 c om om,k9 c om]⟩
 cases hb3:Nat.beq (k+1) 3 with
 | false=>
  rw[hb3]at hp
  simp only[cond_false,SO,if_false]at hp
  simp only[sA,sB,seval,Bool.not_false]
  refine⟨m',om,om,by simp only[sA,sB,seval,t0],by simp only[sA,sB,seval,t1],by simp only[sA,sB,seval,t2],by simp only[sA,sB,seval,t3],by simp only[sA,sB,seval,t4],by simp only[sA,sB,seval,t6],q4a,Fa,om,?_⟩
  rcases cP hp with⟨e',he',rfl⟩ | ⟨e1,w2,he',hp'⟩
  ·rw[hr2]at he'
   simp only[sJ]at he'
   subst he'
   obtain⟨ys',w2,hu,_,_,rp2⟩:=h8
   simp only[aa.tuple.injEq,List.cons.injEq,aa.agg.injEq,aa.bool.injEq,and_true]at hu
   obtain⟨rfl,rfl⟩:=hu
   exact .inr ⟨e',w2,_,rfl,by simp only[sA,sB,seval],ra,rp2.same hpa⟩
  ·rw[hr2]at he'
   simp only[sJ]at he'
   subst he'
   obtain⟨z1,z2,z3⟩:=eb _ rfl
   obtain⟨ys',hu,_⟩:=h8
   simp only[aa.tuple.injEq,List.cons.injEq,aa.agg.injEq,aa.bool.injEq,and_true]at hu
   obtain⟨rfl,rfl⟩:=hu
   exact .inl ⟨_,w2,_,hp',by simp only[sA,sB,seval],ra,z1,z2,z3⟩
 | true=>
  rw[hb3]at hp
  simp only[if_true]at hp
  simp only[sA,sB,seval,Bool.not_true]
  refine⟨by simp only[sA,sB,seval,t4],by simp only[sA,sB,seval,t6],q4a,Fa,om,?_⟩
  rcases cP hp with⟨e',he',rfl⟩ | ⟨e1,w2,he',hp'⟩
  ·rw[hr2]at he'
   simp only[sJ]at he'
   subst he'
   obtain⟨ys',w2,hu,_,_,rp2⟩:=h8
   simp only[aa.tuple.injEq,List.cons.injEq,aa.agg.injEq,aa.bool.injEq,and_true]at hu
   obtain⟨rfl,rfl⟩:=hu
   exact .inr ⟨e',w2,rfl,by simp only[sA,sB,seval],rp2.same hpa⟩
  ·rw[hr2]at he'
   simp only[sJ]at he'
   subst he'
   obtain⟨z1,z2,z3⟩:=eb _ rfl
   obtain⟨ys',hu,_⟩:=h8
   simp only[aa.tuple.injEq,List.cons.injEq,aa.agg.injEq,aa.bool.injEq,and_true]at hu
   obtain⟨rfl,rfl⟩:=hu
   simp only[cW,sJ]at hp'
   subst hp'
   exact .inl ⟨_,w2,_,rfl,by simp only[sA,sB,seval],ra,z1.mono fun c hc=>⟨hc.1,rfl⟩,z2,z3⟩
open Go.Abs Go.Abs.S
theorem mr{pb:Nat}{H:ae}(o:cJ):Fp pb H (H.push o):=⟨by rw[bp]; omega,fun c hc _=>aI hc⟩
theorem PA.push{n pb:Nat}{s:Bs}{H:ae}{w:Wd}{g:Nat}{x y:Int}{orv:aa}(h:PA n pb s H w g x y orv)(o:cJ):PA n pb s (H.push o) w g x y orv:=h.fwd (mr o) (h.row.same (aI h.lt)) h.ok h.hg
theorem PA.lor{n pb:Nat}{s:Bs}{H:ae}{w:Wd}{g:Nat}{x y:Int}{orv:aa}(h:PA n pb s H w g x y orv):au false 1 H (af pb 11 10)=some orv:=am h.row rfl rfl
theorem DK{n pb:Nat}{s:Bs}{f:Nat}(hf:f<=1000000)(ihr:∀f',f'<f->lW n pb s f' 5):JU n pb s f:=by
 intro S H w g x y orv r A hs hr
 refine aj rfl Ri rfl ?_
 have hlt:=A.lt
 have t1:eF s [40] w=dN s w:=by unfold eF; rw[if_pos hs]
 simp only[c60,sA,sB,seval]
 refine (dZ A.row hlt A.en [40]).mono ?_
 rintro u H1 ⟨ho,F1⟩
 rw[t1]at ho
 have e1:=F1.next
 unfold MZ at hr
 rcases dd hr with⟨e,he,rfl⟩ | ⟨w1,he,hr⟩
 ·rw[he]at ho
  obtain⟨rfl,r1⟩:=ho
  simp only[sA,sB,seval]
  exact⟨⟨_,w,tt,⟨rfl,rfl⟩,r1⟩,F1⟩
 rw[he]at ho
 obtain⟨rfl,r1⟩:=ho
 have hw1:=(aW he A.ok (by rw[iC hs]; omega)).1
 have A1:=A.fwd F1 r1 hw1 A.hg
 have bs:=p9 (.str []) H1 (x:=.str [41]) rfl
 have A2:=A1.push (.cells [.str [41]] 0 false)
 have F2:Fp pb H (H1.push (.cells [.str [41]] 0 false)):=F1.trans (mr _)
 simp only[sA,sB,seval,bs]
 refine (gT A2.row (my H1 [41]) (by simp)).mono ?_
 rintro _ _ ⟨rfl,rfl⟩
 generalize H1.push (.cells [.str [41]] 0 false)=H2 at *
 cases hs2:kM w1 [[41]] with
 | true=>
  rw[if_pos hs2]at hr
  simp only[sA,sB,seval]
  refine (bR A2.row A2.lt A2.en).mono ?_
  rintro u H3 ⟨ho,F3⟩
  rcases dd hr with⟨e,he,rfl⟩ | ⟨w2,he,hr⟩
  ·rw[he]at ho
   obtain⟨rfl,r3⟩:=ho
   simp only[sA,sB,seval]
   exact⟨⟨_,w1,tt,⟨rfl,rfl⟩,r3⟩,F2.trans F3⟩
  ·rw[he]at ho
   obtain⟨rfl,r3⟩:=ho
   simp only[cW,sJ]at hr
   subst hr
   simp only[sA,sB,seval]
   exact⟨⟨[],bJ,[],rfl,tt,.nil _ _ _,rfl,r3,(aW he hw1 (by rw[iC hs2]; omega)).1⟩,F2.trans F3⟩
 | false=>
 rw[if_neg (by rw[hs2]; simp)]at hr
 have e2:=F2.next
 simp only[sA,sB,seval]
 refine cg (fun m (T:cD) H'=>∃out w' v,T 0=af pb 11 0/\T 4=v/\Ej H.next H' v out/\out.length+m<=f/\PA n pb s H' w' g x y orv/\Fp pb H H'/\pE s m (.args S out) g w'=some r) f
  ⟨[],w1,bJ,by simp only[sA,sB,seval],by simp only[sA,sB,seval]; rfl,Ej.nil _ _,by simp,A2,F2,hr⟩ ?_
 rintro m T H3 ⟨out,w',v,t0,t4,G3,hm,A3,F3,hp⟩
 cases m with
 | zero=>simp[pE]at hp
 | succ m=>
 rw[j2]at hp
 simp only[gO]at hp
 have l3:=A3.lor
 simp only[sA,sB,seval,t0,t4,aF,aZ,l3]
 obtain⟨r0,hr0⟩:∃r0,pE s m (.rule 5) g w'=some r0:=by
  rcases cP hp with⟨e,he,rfl⟩ | ⟨e1,w2,he,_⟩
  ·exact⟨_,he⟩
  ·exact⟨_,he⟩
 have e3:=F3.next
 refine (ihr m om H3 w' g x y orv orv r0 A3 A3.or hr0).mono ?_
 rintro u H4 ⟨ho,F4⟩
 have e4:=F4.next
 have F34:=F3.trans F4
 rcases cP hp with⟨e,he,rfl⟩ | ⟨e1,w2,he,hp⟩
 ·rw[hr0]at he
  simp only[sJ]at he
  subst he
  obtain⟨xs,w2,rfl,x1,⟨x2,_⟩,r4⟩:=ho
  obtain⟨H5,m5,r5,n5,k5⟩:=aw H4 [.int .u8 0,.str [],.int .i64 0,.slice none 0 (.known 0)] (n:=4) rfl
  obtain⟨H6,m6,r6,n6,k6⟩:=ak r5 (n:=4) rfl x1 x2
  have k64:∀c,c<H4.next->H6.get c=H4.get c:=fun c hc=>by rw[k6 c om,k5 c om]
  simp only[sA,sB,seval,bA,bx,m5,m6]
  exact⟨⟨_,w2,tt,⟨rfl,rfl⟩,r4.same (k64 _ om)⟩,om,fun c hc hp=>by rw[k64 c om,F34.old c hc hp]⟩
 rw[hr0]at he
 simp only[sJ]at he
 subst he
 obtain⟨xs,rfl,hx,r4,hw2⟩:=ho
 obtain⟨H5,m5,r5,n5,k5⟩:=aw H4 [.int .u8 0,.str [],.int .i64 0,.slice none 0 (.known 0)] (n:=4) rfl
 obtain⟨H6,m6,r6,n6,k6⟩:=ak r5 (n:=4) rfl hx.len hx.one
 have l6:=aA r6 hx.len
 have k64:∀c,c<H4.next->H6.get c=H4.get c:=fun c hc=>by rw[k6 c om,k5 c om]
 have F46:Fp pb H4 H6:=⟨om,fun c hc _=>k64 c hc⟩
 have F36:=F34.trans F46
 have bm:=yb (z:=[.int .u8 0,.str [],.int .i64 0,.slice none 0 (.known 0)]) (m:=4) H6 rfl hx.len
 have G6:Ej H.next H6 v out:=G3.keep om fun c hc=>by
  have h1:=hc.1
  have h2:=hc.2
  rw[k64 c om,F4.old c h2 om]
 have hx6:lU (In H3.next H6.next) H6 e1 xs:=hx.mono fun c hc=>⟨⟨hc.1,by have:=hc.2; omega⟩,k64 c hc.2⟩
 have hb3:da v (·<H3.next):=by
  obtain⟨C,_,q,_⟩:=G3
  exact q.mono fun c hc=>hc.2
 obtain⟨v',H7,a7,G7,n7,k7⟩:=G6.push hx6 e3 om hb3 om (bytes:=56) om om
 have hvp:da v (pb≠·):=by
  obtain⟨C,_,q,_⟩:=G3
  exact q.mono fun c hc=>by have:=hc.1; omega
 have F67:Fp pb H H7:=⟨om,fun c hc hp=>by
  rw[k7 c om (by
   obtain⟨C,_,q,_⟩:=G3
   exact q.mono fun d hd=>by have:=hd.1; omega),F36.old c hc hp]⟩
 have r7:a6 H7 pb (cO s w2 g x y orv):=r4.same (by rw[k7 pb om hvp,k64 pb om])
 have A7:=A.fwd F67 r7 hw2 A.hg
 have bs7:=p9 (.str []) H7 (x:=.str [44]) rfl
 have A8:=A7.push (.cells [.str [44]] 0 false)
 have F8:Fp pb H (H7.push (.cells [.str [44]] 0 false)):=F67.trans (mr _)
 have G8:Ej H.next (H7.push (.cells [.str [44]] 0 false)) v' (out++[e1]):=G7.keep (by rw[bp]; omega) fun c hc=>aI hc.2
 simp only[sA,sB,seval,bA,bx,t0,t4,m5,m6,l6,bm,a7,bs7]
 refine (gT A8.row (my H7 [44]) (by simp)).mono ?_
 rintro _ _ ⟨rfl,rfl⟩
 have e8:=F8.next
 generalize H7.push (.cells [.str [44]] 0 false)=H8 at *
 cases hs3:kM w2 [[44]] with
 | false=>
  rw[if_neg (by rw[hs3]; simp)]at hp
  simp only[sA,sB,seval,t0]
  refine (dZ A8.row A8.lt A8.en [41]).mono ?_
  rintro u H9 ⟨ho,F9⟩
  rcases dd hp with⟨e,he,rfl⟩ | ⟨w3,he,hp⟩
  ·rw[he]at ho
   obtain⟨rfl,r9⟩:=ho
   obtain⟨C,q1,_⟩:=G8.sl
   simp only[sA,sB,seval]
   exact⟨⟨_,w2,tt,⟨q1.one,q1.aeq⟩,r9⟩,F8.trans F9⟩
  ·rw[he]at ho
   obtain⟨rfl,r9⟩:=ho
   simp only[cW,sJ]at hp
   subst hp
   have G9:=G8.keep F9.next fun c hc=>F9.old c hc.2 (by have:=hc.1; omega)
   obtain⟨C,q1,q2⟩:=G9.sl
   simp only[sA,sB,seval]
   exact⟨⟨_,v',C,rfl,tt,q1,q2,r9,(cY he hw2).2.2.1⟩,F8.trans F9⟩
 | true=>
  rw[if_pos hs3]at hp
  simp only[sA,sB,seval,t0]
  refine (bR A8.row A8.lt A8.en).mono ?_
  rintro u H9 ⟨ho,F9⟩
  rcases dd hp with⟨e,he,rfl⟩ | ⟨w3,he,hp⟩
  ·rw[he]at ho
   obtain⟨rfl,r9⟩:=ho
   simp only[sA,sB,seval]
   exact⟨⟨_,w2,tt,⟨rfl,rfl⟩,r9⟩,F8.trans F9⟩
  ·rw[he]at ho
   obtain⟨rfl,r9⟩:=ho
   have G9:=G8.keep F9.next fun c hc=>F9.old c hc.2 (by have:=hc.1; omega)
   simp only[sA,sB,seval]
   exact⟨m,om,out++[e1],w3,v',by simp only[sA,sB,seval,t0],by simp only[sA,sB,seval],G9,by simp; omega,A8.fwd F9 r9 (aW he hw2 (by rw[iC hs3]; omega)).1 A.hg,F8.trans F9,hp⟩
end Go.Proofs.Wo
