/- Part of a proof (A8f A8h A9); no condition. -/
import Derived.ChangeKeysEq
import Derived.Laws.Sem
import Derived.MapKept
import Derived.Carry
import Derived.Test.YteabnpheoiakdaaGreatDoorP2
set_option linter.unusedSimpArgs false
set_option linter.unusedVariables false
set_option linter.unnecessarySimpa false
namespace Go.Abs
section
variable {P:Program} {Prot:Gh} {w0:World} {ρ:Pl} {H H':AHeap} {w:World}
def kcOf(P:Program)(t:TypeId):Option KC:=match P.underlying t with
 | some (.int _)=>some .int
 | some .string=>some .str
 | some (.array n e)=>match P.underlying e,tyOf P e with
  | some (.int _),some (false,1)=>some (.arr n)
  | _,_=>none
 | _=>none
def zeroA(P:Program)(t:TypeId):Option AVal:=match P.info? t with
 | some i=>match i.zero with
  | some z=>absC z
  | none=>none
 | none=>none
theorem zeroA_ok{t:TypeId}{x:AVal}(h:zeroA P t=some x):∃z,(∀W,(zeroValue t).run P W=.ok z W)∧∀ρ,VRel ρ x z:=by
 unfold zeroA at h
 split at h
 ·rename_i i hi
  split at h
  ·rename_i z hz
   exact⟨z,fun W=>by simp[zeroValue,run_typeInfo W hi,hz],fun ρ=>absC_ok h⟩
  ·simp at h
 ·simp at h
theorem kEqs_ok:∀{l m:List AVal},kEqs l m=some true→∀{vs us:List Value},VRels ρ l vs→VRels ρ m us→vs=us
 | [],[],_,vs,us,hv,hu=>by
  simp only[VRels]at hv hu
  subst hv hu; rfl
 | .int k a::l,.int k' c::m,h,vs,us,hv,hu=>by
  simp only[VRels,VRel]at hv hu
  obtain⟨v,r,rfl,rfl,hv⟩:=hv
  obtain⟨u,s,rfl,rfl,hu⟩:=hu
  simp only[kEqs]at h
  split at h
  ·rename_i hk
   subst hk
   rw[eqF_eq]at h
   by_cases e:a=c
   ·subst e
    simp only[beq_self_eq_true,cond_true]at h
    rw[kEqs_ok h hv hu]
   ·have:(a==c)=false:=by simpa using e
    rw[this]at h
    simp at h
  ·simp at h
theorem kEq_int{x y:AVal}{b:Bool}(h:kEq .int x y=some b):∃k a c,x=.int k a∧y=.int k c∧b=(a==c):=by
 cases x <;> simp only[kEq,reduceCtorEq]at h
 rename_i k a
 cases y <;> simp only[kEq,reduceCtorEq]at h
 rename_i k' c
 split at h
 ·rename_i hk
  subst hk
  simp only[sJ]at h
  exact⟨k,a,c,rfl,rfl,by rw[← h,eqF_eq]⟩
 ·simp at h
theorem kEq_str{x y:AVal}{b:Bool}(h:kEq .str x y=some b):∃a c,x=.str a∧y=.str c∧b=(a==c):=by
 cases x <;> simp only[kEq,reduceCtorEq]at h
 rename_i a
 cases y <;> simp only[kEq,reduceCtorEq]at h
 rename_i c
 simp only[sJ]at h
 exact⟨a,c,rfl,rfl,h.symm⟩
theorem kEq_arr{n:Nat}{x y:AVal}{b:Bool}(h:kEq (.arr n) x y=some b):∃l m,x=.agg l∧y=.agg m∧l.length=n∧m.length=n∧kEqs l m=some b:=by
 cases x <;> simp only[kEq,reduceCtorEq]at h
 rename_i l
 cases y <;> simp only[kEq,reduceCtorEq]at h
 rename_i m
 cases hg:(Nat.beq l.length n&&Nat.beq m.length n) with
 | false=>rw[hg]at h; simp at h
 | true=>
  rw[hg]at h
  simp only[cond_true]at h
  simp only[Bool.and_eq_true]at hg
  exact⟨l,m,rfl,rfl,Nat.eq_of_beq_eq_true hg.1,Nat.eq_of_beq_eq_true hg.2,h⟩
theorem cells_of{t:TypeId}{a:Bool}{n:Nat}(h:tyOf P t=some (a,n)):P.cellsOf t=n∧∃i,P.info? t=some i:=by
 unfold tyOf at h
 split at h <;> simp only[sJ,pJ,reduceCtorEq]at h
 all_goals
  rename_i hi
  exact⟨by simp[Program.cellsOf,hi,h.2],_,hi⟩
theorem eqItems_ok{e:TypeId}{kk:IntKind}(he:P.underlying e=some (.int kk))(T:Ty P e false 1){L M:List AVal}{xs ys:Array Value}(hL:VRels ρ L xs.toList)(hM:VRels ρ M ys.toList)(d:Nat) :
  ∀(k o:Nat) (b:Bool),L.length=o+k→M.length=o+k→kEqs (L.drop o) (M.drop o)=some b→(Op.eqItems (d+1) e 1 xs ys (List.range' o k)).run P w=.ok b w:=by
 intro k
 induction k with
 | zero=>
  intro o b h1 h2 h
  rw[List.drop_eq_nil_of_le om,List.drop_eq_nil_of_le om]at h
  simp only[kEqs,sJ]at h
  subst h
  simp[Op.eqItems]
 | succ k ih=>
  intro o b h1 h2 h
  have hl:o<L.length:=om
  have hm:o<M.length:=om
  rw[List.drop_eq_getElem_cons hl,List.drop_eq_getElem_cons hm]at h
  have gl:L[o]?=some L[o]:=List.getElem?_eq_getElem hl
  have gm:M[o]?=some M[o]:=List.getElem?_eq_getElem hm
  generalize L[o]=x at *
  generalize M[o]=y at *
  obtain⟨u,u1,u2⟩:=part_ok (P:=P) (w:=w) T hL (off:=o) (y:=x) (by simpa[aPart] using gl)
  obtain⟨v,v1,v2⟩:=part_ok (P:=P) (w:=w) T hM (off:=o) (y:=y) (by simpa[aPart] using gm)
  unfold kEqs at h
  split at h
  ·rename_i heq _; simp at heq
  ·rename_i k1 a l k2 c m e1 e2
   simp only[List.cons.injEq]at e1 e2
   obtain⟨rfl,rfl⟩:=e1
   obtain⟨rfl,rfl⟩:=e2
   simp only[VRel]at u2 v2
   subst u2 v2
   split at h
   ·rename_i hk
    subst hk
    rw[eqF_eq]at h
    rw[List.range'_succ]
    simp only[Op.eqItems,Nat.mul_one,Sem.run_bind,u1,v1,Result.andThen_ok]
    have hq:(Op.equalIn (d+1) e (.int k1 a) (.int k1 c)).run P w=.ok (a==c) w:=by
     simp[Op.equalIn,run_underlying he]
    rw[hq]
    cases hac:(a==c) with
    | true=>
     rw[hac]at h
     simp only[Result.andThen_ok,Bool.not_true,Bool.false_eq_true,if_false]
     exact ih (o+1) b om om h
    | false=>
     rw[hac]at h
     simp only[cond_false,sJ]at h
     subst h
     simp
   ·simp at h
  ·simp at h
def Found(ρ:Pl)(v:Value)(es:List Ent)(ES:List MapEntry)(i:Nat):Option (Nat×Ent)→Option (Nat×Value)→Prop
 | none,r=>r=none
 | some (j,e),r=>i≤j∧∃E,r=some (j,E.val)∧es[j-i]?=some e∧ES[j-i]?=some E∧EntryRel ρ e E∧E.key=v
theorem Found.step{v:Value}{e:Ent}{es:List Ent}{E:MapEntry}{ES:List MapEntry}{i:Nat}{r:Option (Nat×Ent)}{r':Option (Nat×Value)}(h:Found ρ v es ES (i+1) r r'):Found ρ v (e::es) (E::ES) i r r':=by
 cases r with
 | none=>exact h
 | some p=>
  obtain⟨j,x⟩:=p
  obtain⟨h1,E',h2,h3,h4,h5⟩:=h
  refine⟨om,E',h2,?_,?_,h5⟩
  ·rw[show j-i=(j-(i+1))+1 by omega]; simpa using h3
  ·rw[show j-i=(j-(i+1))+1 by omega]; simpa using h4
theorem now_ok{kc:KC}{d:TypeDesc}(hd:(kc=.int∧∃k,d=.int k)∨(kc=.str∧d=.string)){x:AVal}{v:Value}(hx:VRel ρ x v):∀(es:List Ent) (ES:List MapEntry) (i:Nat) (r:Option (Nat×Ent)),EntriesRel ρ es ES→mFind kc x es i=some r →
  ∃r',Instr.findNow d v ES i=some r'∧Found ρ v es ES i r r':=by
 intro es
 induction es with
 | nil=>
  intro ES i r hE h
  simp only[mFind,sJ]at h
  simp only[EntriesRel]at hE
  subst h hE
  exact⟨none,rfl,rfl⟩
 | cons e es ih=>
  intro ES i r hE h
  simp only[EntriesRel]at hE
  obtain⟨E,ES',rfl,hEE,hE⟩:=hE
  obtain⟨he1,he2,he3⟩:=hEE
  have key:∀b,kEq kc x e.1=some b→Instr.sameNow d v E.key=some b∧(b=true→E.key=v):=by
   intro b hb
   rcases hd with⟨rfl,k,rfl⟩ | ⟨rfl,rfl⟩
   ·obtain⟨k1,a,c,hx1,hx2,rfl⟩:=kEq_int hb
    rw[hx1]at hx
    rw[hx2]at he1
    simp only[VRel]at hx he1
    rw[hx,he1]
    refine⟨by simp[Instr.sameNow],fun ht=>?_⟩
    have:a=c:=by simpa using ht
    rw[this]
   ·obtain⟨a,c,hx1,hx2,rfl⟩:=kEq_str hb
    rw[hx1]at hx
    rw[hx2]at he1
    simp only[VRel]at hx he1
    rw[hx,he1]
    have hs:(strOf a==strOf c)=(a==c):=by
     rw[Bool.eq_iff_iff,MapKept.bytes_beq]
     simp only[beq_iff_eq]
     exact⟨fun q=>by simpa[strOf] using congrArg (fun s:ByteArray=>s.data.toList) q,fun q=>by rw[q]⟩
    refine⟨by simp only[Instr.sameNow,hs],fun ht=>?_⟩
    have:a=c:=by simpa using ht
    rw[this]
  simp only[mFind]at h
  split at h
  ·rename_i hb
   simp only[sJ]at h
   subst h
   obtain⟨k1,k2⟩:=key _ hb
   exact⟨some (i,E.val),by simp[Instr.findNow,k1],Nat.le_refl _,E,rfl,by simp,by simp,⟨he1,he2,he3⟩,k2 rfl⟩
  ·rename_i hb
   obtain⟨k1,k2⟩:=key _ hb
   obtain⟨r',q1,q2⟩:=ih ES' (i+1) r hE h
   exact⟨r',by simp[Instr.findNow,k1,q1],q2.step⟩
  ·simp at h
theorem asking_ok{kt e:TypeId}{n:Nat}{kk:IntKind}(hu:P.underlying kt=some (.array n e))(he:P.underlying e=some (.int kk))(hT:tyOf P e=some (false,1)){x:AVal}{v:Value}(hx:VRel ρ x v):∀(es:List Ent) (ES:List MapEntry) (i:Nat) (r:Option (Nat×Ent)),EntriesRel ρ es ES→mFind (.arr n) x es i=some r →
  ∃r',(Instr.findAsking kt v ES i).run P w=.ok r' w∧Found ρ v es ES i r r':=by
 intro es
 induction es with
 | nil=>
  intro ES i r hE h
  simp only[mFind,sJ]at h
  simp only[EntriesRel]at hE
  subst h hE
  exact⟨none,rfl,rfl⟩
 | cons e0 es ih=>
  intro ES i r hE h
  simp only[EntriesRel]at hE
  obtain⟨E,ES',rfl,hEE,hE⟩:=hE
  obtain⟨he1,he2,he3⟩:=hEE
  have key:∀b,kEq (.arr n) x e0.1=some b→(Op.equal kt v E.key).run P w=.ok b w∧(b=true→E.key=v):=by
   intro b hb
   obtain⟨l,m,hx1,hx2,h1,h2,hb⟩:=kEq_arr hb
   rw[hx1]at hx
   rw[hx2]at he1
   simp only[VRel]at hx he1
   obtain⟨xs,rfl,hxs⟩:=hx
   obtain⟨ys,hy,hys⟩:=he1
   obtain⟨hc1,i0,hi0⟩:=cells_of hT
   rw[hy]
   constructor
   ·show (Op.equalIn (9998+1+1) kt (.agg xs) (.agg ys)).run P w=_
    rw[run_equalIn_array w (9998+1) xs ys hu hi0,hc1,List.range_eq_range']
    exact eqItems_ok he (ty_of hT) hxs hys 9998 n 0 b om om (by simpa using hb)
   ·intro ht
    subst ht
    rw[Array.toList_inj.1 (kEqs_ok hb hxs hys)]
  simp only[mFind]at h
  split at h
  ·rename_i hb
   simp only[sJ]at h
   subst h
   obtain⟨k1,k2⟩:=key _ hb
   exact⟨some (i,E.val),by simp[Instr.findAsking,k1],Nat.le_refl _,E,rfl,by simp,by simp,⟨he1,he2,he3⟩,k2 rfl⟩
  ·rename_i hb
   obtain⟨k1,k2⟩:=key _ hb
   obtain⟨r',q1,q2⟩:=ih ES' (i+1) r hE h
   exact⟨r',by simp[Instr.findAsking,k1,q1],q2.step⟩
  ·simp at h
theorem kcOf_cases{kt:TypeId}{kc:KC}(h:kcOf P kt=some kc):(∃k,kc=.int∧P.underlying kt=some (.int k))∨(kc=.str∧P.underlying kt=some .string)∨∃n e kk,kc=.arr n∧P.underlying kt=some (.array n e)∧P.underlying e=some (.int kk)∧tyOf P e=some (false,1):=by
 unfold kcOf at h
 split at h
 ·rename_i k hu
  simp only[sJ]at h
  exact .inl ⟨k,h.symm,hu⟩
 ·rename_i hu
  simp only[sJ]at h
  exact .inr (.inl ⟨h.symm,hu⟩)
 ·rename_i n e hu
  split at h
  ·rename_i kk he hT
   simp only[sJ]at h
   exact .inr (.inr ⟨n,e,kk,h.symm,hu,he,hT⟩)
  ·simp at h
 ·simp at h
theorem findKey_ok{kt:TypeId}{kc:KC}(hk:kcOf P kt=some kc){x:AVal}{v:Value}(hx:VRel ρ x v){es:List Ent}{ES:List MapEntry}{r:Option (Nat×Ent)}(hE:EntriesRel ρ es ES)(h:mFind kc x es 0=some r) :
  ∃r',(Instr.findKey kt v ES).run P w=.ok r' w∧Found ρ v es ES 0 r r':=by
 rcases kcOf_cases hk with⟨k,rfl,hu⟩ | ⟨rfl,hu⟩ | ⟨n,e,kk,rfl,hu,he,hT⟩
 ·obtain⟨r',q1,q2⟩:=now_ok (d:=.int k) (.inl ⟨rfl,k,rfl⟩) hx es ES 0 r hE h
  exact⟨r',by simp[Instr.findKey,run_underlying hu,q1],q2⟩
 ·obtain⟨r',q1,q2⟩:=now_ok (d:=.string) (.inr ⟨rfl,rfl⟩) hx es ES 0 r hE h
  exact⟨r',by simp[Instr.findKey,run_underlying hu,q1],q2⟩
 ·cases es with
  | nil=>
   simp only[mFind,sJ]at h
   simp only[EntriesRel]at hE
   subst h hE
   exact⟨none,by simp[Instr.findKey,run_underlying hu,Instr.findNow],rfl⟩
  | cons e0 es=>
   obtain⟨r',q1,q2⟩:=asking_ok (w:=w) hu he hT hx (e0::es) ES 0 r hE h
   refine⟨r',?_,q2⟩
   simp only[EntriesRel]at hE
   obtain⟨E,ES',rfl,_,_⟩:=hE
   have hn:Instr.findNow (.array n e) v (E::ES') 0=none:=by
    unfold Instr.findNow
    have:Instr.sameNow (.array n e) v E.key=none:=by
     cases v <;> cases E.key <;> rfl
    rw[this]
   simp[Instr.findKey,run_underlying hu,hn,q1]
theorem isKs_int:∀{l:List AVal},isKs l=true→∀x∈l,∃k n,x=.int k n
 | [],_,x,hx=>by simp at hx
 | .int k n::l,h,x,hx=>by
  rcases List.mem_cons.1 hx with rfl | hx
  ·exact⟨_,_,rfl⟩
  ·exact isKs_int (l:=l) h x hx
theorem check1{t:TypeId}{k:IntKind}(hu:P.underlying t=some (.int k))(em:Bool)(d:Nat)(x:Value):(Instr.checkKey em (d+1) t x).run P w=.ok () w:=by
 simp[Instr.checkKey,run_underlying hu]
theorem check2{t:TypeId}(hu:P.underlying t=some .string)(em:Bool)(d:Nat)(x:Value):(Instr.checkKey em (d+1) t x).run P w=.ok () w:=by
 simp[Instr.checkKey,run_underlying hu]
theorem checkKey_ok{kt:TypeId}{kc:KC}(hk:kcOf P kt=some kc){x:AVal}{v:Value}(hx:VRel ρ x v)(hi:isK kc x=true)(em:Bool):(Instr.checkKey em 10000 kt v).run P w=.ok () w:=by
 rcases kcOf_cases hk with⟨k,rfl,hu⟩ | ⟨rfl,hu⟩ | ⟨n,e,kk,rfl,hu,he,hT⟩
 ·cases x <;> simp only[isK,Bool.false_eq_true]at hi
  simp only[VRel]at hx; subst hx
  exact check1 hu em 9999 _
 ·cases x <;> simp only[isK,Bool.false_eq_true]at hi
  simp only[VRel]at hx; subst hx
  exact check2 hu em 9999 _
 ·cases x <;> simp only[isK,Bool.false_eq_true]at hi
  rename_i l
  simp only[Bool.and_eq_true]at hi
  have hl:=Nat.eq_of_beq_eq_true hi.1
  have hint:=isKs_int hi.2
  simp only[VRel]at hx
  obtain⟨xs,rfl,hxs⟩:=hx
  show (Instr.checkKey em (9998+1+1) kt _).run P w=_
  rw[Instr.checkKey]
  simp only[Sem.run_bind,run_underlying hu,Result.andThen_ok]
  simp only[Std.Legacy.Range.forIn_eq_forIn_range',Std.Legacy.Range.size,Nat.sub_zero,Nat.add_one_sub_one,Nat.div_one]
  have hT':=ty_of hT
  have key:∀(k o:Nat),o+k=n→((forIn (List.range' o k) PUnit.unit fun i _=>do
    let a ← sizeOf e
    let b ← part e xs (i*a)
    Instr.checkKey em (9998+1) e b
    pure (ForInStep.yield PUnit.unit)):Sem PUnit).run P w=.ok PUnit.unit w:=by
   intro k
   induction k with
   | zero=>intro o _; simp
   | succ k ih=>
    intro o ho
    have hlt:o<l.length:=om
    have gl:l[o]?=some l[o]:=List.getElem?_eq_getElem hlt
    obtain⟨k1,a,hxa⟩:=hint l[o] (List.getElem_mem hlt)
    obtain⟨u,u1,u2⟩:=part_ok (P:=P) (w:=w) hT' hxs (off:=o) (y:=l[o]) (by simpa[aPart] using gl)
    rw[hxa]at u2
    simp only[VRel]at u2
    subst u2
    have hc:(Instr.checkKey em (9998+1) e (.int k1 a)).run P w=.ok () w:=check1 he em 9998 _
    rw[List.range'_succ]
    simp only[List.forIn_cons,Sem.run_bind,hT'.size,Nat.mul_one,Result.andThen_ok,u1,hc,Sem.run_pure]
    exact ih (o+1) om
  rw[key n 0 om]
  rfl
theorem EntriesRel.append:∀{es fs:List Ent} {ES FS:List MapEntry},EntriesRel ρ es ES→EntriesRel ρ fs FS→EntriesRel ρ (es++fs) (ES++FS)
 | [],_,_,_,h,h'=>by simp only[EntriesRel]at h; subst h; simpa using h'
 | x::l,fs,ES,FS,h,h'=>by
  simp only[EntriesRel]at h
  obtain⟨e,r,rfl,h1,h2⟩:=h
  simp only[List.cons_append,EntriesRel]
  exact⟨e,r++FS,rfl,h1,EntriesRel.append h2 h'⟩
theorem EntriesRel.set:∀{es:List Ent} {ES:List MapEntry} (i:Nat) {e':Ent} {E':MapEntry},EntriesRel ρ es ES→EntryRel ρ e' E'→EntriesRel ρ (mSet es i e') (ES.set i E')
 | [],_,_,_,_,h,_=>by simp only[EntriesRel]at h; subst h; simp[mSet,EntriesRel]
 | x::l,ES,i,e',E',h,h'=>by
  simp only[EntriesRel]at h
  obtain⟨e,r,rfl,h1,h2⟩:=h
  cases i with
  | zero=>simp only[mSet,List.set_cons_zero,EntriesRel]; exact⟨E',r,rfl,h',h2⟩
  | succ i=>simp only[mSet,List.set_cons_succ,EntriesRel]; exact⟨e,_,rfl,h1,EntriesRel.set i h2 h'⟩
theorem modify_set{ES:Array MapEntry}{i:Nat}{E:MapEntry}(h:ES[i]?=some E)(f:MapEntry→MapEntry):(ES.modify i f).toList=ES.toList.set i (f E):=by
 apply List.ext_getElem?
 intro j
 rw[Array.getElem?_toList,Array.getElem?_modify,List.getElem?_set]
 by_cases e:i=j
 ·subst e
  obtain⟨hlt,hE⟩:=Array.getElem?_eq_some_iff.1 h
  simp[h,hlt,hE]
 ·simp[e]
theorem map_at(R:Rel Prot w0 ρ H w){r:Nat}{mv:Value}(hx:VRel ρ (.map (some r)) mv){es:List Ent}{c:Nat}(hH:H.get r=some (.map es c)):∃L ES,ρ r 0=some L∧mv=.map (some L.c)∧w.heap[L.c]?=some (.map ES c)∧EntriesRel ρ es ES.toList:=by
 simp only[VRel]at hx
 obtain⟨L,hL,rfl⟩:=hx
 obtain⟨x,o,g1,g2,g3⟩:=R.obj _ _ _ hL
 rw[hH]at g1
 simp only[sJ]at g1
 subst g1
 simp only[ORel]at g3
 obtain⟨_,ES,rfl,hE⟩:=g3
 exact⟨L,ES,hL,rfl,g2,hE⟩
theorem map_turn(R:Rel Prot w0 ρ H w){r:Nat}{L:Loc}(hL:ρ r 0=some L){es:List Ent}{c:Nat}(hH:H.get r=some (.map es c)){es':List Ent}{c':Nat}{ES':Array MapEntry}(hE:EntriesRel ρ es' ES'.toList) :
  Rel Prot w0 ρ (H.set r (.map es' c')) { w with heap:=w.heap.setIfInBounds L.c (.map ES' c') }:=by
 have hlt:L.c<w.heap.size:=(R.dom _ _ _ hL).2
 refine R.turn (w':={ w with heap:=w.heap.setIfInBounds L.c (.map ES' c') }) (y:=.map es' c') hL hH rfl ⟨rfl,rfl,rfl,by simp,fun i hi=>by simp[Array.getElem?_setIfInBounds,Ne.symm hi]⟩ rfl fun l' L' h'=>?_
 obtain⟨x,o,k1,k2,k3⟩:=R.obj _ _ _ h'
 rw[hH]at k1
 simp only[sJ]at k1
 subst k1
 simp only[ORel]at k3
 obtain⟨rfl,_⟩:=k3
 rw[hL]at h'
 simp only[sJ]at h'
 subst h'
 exact⟨.map ES' c',by simp[hlt],by simp only[ORel]; exact⟨trivial,ES',rfl,hE⟩⟩
theorem mkMap_ok(R:Rel Prot w0 ρ H w)(t:TypeId){y:AVal}(h:aMkMap H []=some (y,H')):GoodV P Prot w0 ρ w (Instr.makeMap t none) y H':=by
 simp only[aMkMap,sJ,pJ]at h
 obtain⟨rfl,rfl⟩:=h
 obtain⟨h1,h2⟩:=R.push' (w':=w.alloc (.map #[] 0)) rfl rfl rfl (Array.size_push _) (fun i hi=>by rw[World.alloc,Array.getElem?_push,if_neg (Nat.ne_of_lt hi)])
  (x:=.map [] 0) (o:=.map #[] 0) (lim:=0) (n:=0) (cl:=false) (by rw[World.alloc,Array.getElem?_push,if_pos rfl]) (by simp only[ORel]; exact⟨trivial,#[],rfl,by simp[EntriesRel]⟩) rfl
 refine⟨_,_,_,h1,RowKit.run_makeMap t w,h2,?_⟩
 simp only[VRel]
 exact⟨_,upd_same _ _ _ _,rfl⟩
theorem ret_ok(ok:Bool){x:AVal}{v:Value}(h:VRel ρ x v)(b:Bool):VRel ρ (mRet ok x b) (if ok=true then .tuple #[v,.bool b] else v):=by
 cases ok with
 | false=>simpa[mRet] using h
 | true=>simp[mRet,VRel,VRels,h]
theorem mLook_ok(R:Rel Prot w0 ρ H w){t kt el:TypeId}{kc:KC}(hm:P.underlying t=some (.map kt el))(hk:kcOf P kt=some kc){z:AVal}(hz:zeroA P el=some z){ok:Bool}{m k y:AVal}{mv kv:Value}(hx:VRel ρ m mv)(hy:VRel ρ k kv)
  (h:aMLook kc ok z H [m,k]=some (y,H')):GoodV P Prot w0 ρ w (Instr.lookup t mv kv ok) y H':=by
 obtain⟨zv,hz1,hz2⟩:=zeroA_ok hz
 unfold aMLook at h
 split at h <;> first | (simp at h; done) | skip
 ·rename_i k' heq
  simp only[List.cons.injEq,and_true]at heq
  obtain⟨rfl,rfl⟩:=heq
  cases hi:isK kc k with
  | false=>rw[hi]at h; simp at h
  | true=>
   rw[hi]at h
   simp only[cond_true,sJ,pJ]at h
   obtain⟨rfl,rfl⟩:=h
   simp only[VRel]at hx
   subst hx
   obtain⟨r',q1,q2⟩:=findKey_ok (w:=w) hk hy (es:=[]) (ES:=[]) (r:=none) (by simp[EntriesRel]) rfl
   simp only[Found]at q2
   subst q2
   refine GoodV.pure R (v:=if ok=true then .tuple #[zv,.bool false] else zv) ?_ (ret_ok ok (hz2 ρ) false)
   simp[Instr.lookup,run_underlying hm,checkKey_ok (w:=w) hk hy hi,q1,hz1,Result.andThen]
 ·rename_i r k' heq
  simp only[List.cons.injEq,and_true]at heq
  obtain⟨rfl,rfl⟩:=heq
  split at h <;> first | (simp at h; done) | skip
  rename_i es c hH
  obtain⟨L,ES,hL,rfl,hb,hE⟩:=map_at R hx hH
  split at h <;> first | (simp at h; done) | skip
  rename_i v hv
  simp only[sJ,pJ]at h
  obtain⟨rfl,rfl⟩:=h
  unfold aLookE at hv
  cases hi:isK kc k with
  | false=>rw[hi]at hv; simp at hv
  | true=>
   rw[hi]at hv
   simp only[cond_true]at hv
   split at hv <;> first | (simp at hv; done) | skip
   ·rename_i j e hf
    simp only[sJ]at hv
    subst hv
    obtain⟨r',q1,q2⟩:=findKey_ok (w:=w) hk hy hE hf
    obtain⟨_,E,rfl,_,_,⟨_,he2,_⟩,_⟩:=q2
    refine GoodV.pure R (v:=if ok=true then .tuple #[E.val,.bool true] else E.val) ?_ (ret_ok ok he2 true)
    simp[Instr.lookup,run_underlying hm,MapKept.run_getObj_map hb,checkKey_ok (w:=w) hk hy hi,q1,Result.andThen]
   ·rename_i hf
    simp only[sJ]at hv
    subst hv
    obtain⟨r',q1,q2⟩:=findKey_ok (w:=w) hk hy hE hf
    simp only[Found]at q2
    subst q2
    refine GoodV.pure R (v:=if ok=true then .tuple #[zv,.bool false] else zv) ?_ (ret_ok ok (hz2 ρ) false)
    simp[Instr.lookup,run_underlying hm,MapKept.run_getObj_map hb,checkKey_ok (w:=w) hk hy hi,q1,hz1,Result.andThen]
theorem bits_list:∀{l:List AVal},isKs l=true→∀{vs:List Value},VRels ρ l vs→∀n,((vs.zip vs).all fun (x,y)=>Instr.sameBits n x y)=true
 | [],_,vs,h,n=>by simp only[VRels]at h; subst h; rfl
 | .int k a::l,hi,vs,h,n=>by
  simp only[VRels,VRel]at h
  obtain⟨v,r,rfl,rfl,h⟩:=h
  have:=bits_list (l:=l) hi h n
  simp only[List.zip_cons_cons,List.all_cons,this,Bool.and_true]
  cases n <;> simp[Instr.sameBits]
theorem stays_ok{kc:KC}{x:AVal}{v:Value}(hx:VRel ρ x v)(hi:isK kc x=true):(Instr.keyThatStays v v).run P w=.ok v w:=by
 have:Instr.sameBits 10000 v v=true:=by
  cases kc with
  | int=>cases x <;> simp only[isK,Bool.false_eq_true]at hi; simp only[VRel]at hx; subst hx; show Instr.sameBits (9999+1) _ _=true; simp[Instr.sameBits]
  | str=>cases x <;> simp only[isK,Bool.false_eq_true]at hi; simp only[VRel]at hx; subst hx; show Instr.sameBits (9999+1) _ _=true; rw[Instr.sameBits]; exact (MapKept.bytes_beq _ _).2 rfl
  | arr n=>
   cases x <;> simp only[isK,Bool.false_eq_true]at hi
   simp only[Bool.and_eq_true]at hi
   simp only[VRel]at hx
   obtain⟨xs,rfl,hxs⟩:=hx
   show Instr.sameBits (9999+1) _ _=true
   have:=bits_list hi.2 hxs 9999
   simp only[Instr.sameBits,beq_self_eq_true,Bool.true_and]
   exact this
 simp[Instr.keyThatStays,this]
theorem born_ok(n:Nat):∀(es:List Ent) (ES:List MapEntry) (i j:Nat) (e:Ent),EntriesRel ρ es ES→mBorn n es i=some (j,e)→i≤j∧es[j-i]?=some e∧∃E,ES[j-i]?=some E∧EntryRel ρ e E∧ES.findIdx? (fun e=>(e.born:Int)==(n:Int))=some (j-i)
 | [],ES,i,j,e,_,h=>by simp[mBorn]at h
 | x::es,ES,i,j,e,hE,h=>by
  simp only[EntriesRel]at hE
  obtain⟨E,ES',rfl,hEE,hE⟩:=hE
  simp only[mBorn]at h
  have hb:((E.born:Int)==(n:Int))=Nat.beq x.2.2 n:=by
   rw[hEE.2.2,beq_dec]
   by_cases e:x.2.2=n
   ·simp[e]
   ·have:¬((x.2.2:Int)=(n:Int)):=om
    simp[e,this]
  cases hc:Nat.beq x.2.2 n with
  | true=>
   rw[hc]at h hb
   simp only[cond_true,sJ,pJ]at h
   obtain⟨rfl,rfl⟩:=h
   refine⟨Nat.le_refl _,by simp,E,by simp,hEE,?_⟩
   simp[List.findIdx?_cons,hb]
  | false=>
   rw[hc]at h hb
   simp only[cond_false]at h
   obtain⟨h1,h2,E',h3,h4,h5⟩:=born_ok n es ES' (i+1) j e hE h
   have e1:j-i=(j-(i+1))+1:=om
   refine⟨om,by rw[e1]; simpa using h2,E',by rw[e1]; simpa using h3,h4,?_⟩
   rw[List.findIdx?_cons,hb]
   simp only[Bool.false_eq_true,if_false,h5,Option.map_some]
   congr 1; omega
theorem mEntry_ok(R:Rel Prot w0 ρ H w){t kt el:TypeId}{kc:KC}(hm:P.underlying t=some (.map kt el))(hk:kcOf P kt=some kc){z:AVal}(hz:zeroA P el=some z){m k y:AVal}{mv kv:Value}(hx:VRel ρ m mv)(hy:VRel ρ k kv)
  (h:aMF (.entry kc z) H [m,k]=some (y,H')):GoodV P Prot w0 ρ w (Instr.mapEntry t mv kv) y H':=by
 obtain⟨zv,hz1,hz2⟩:=zeroA_ok hz
 unfold aMF at h
 split at h <;> first | (simp at h; done) | skip
 rename_i r l heq
 simp only[List.cons.injEq]at heq
 obtain⟨rfl,rfl⟩:=heq
 split at h <;> first | (simp at h; done) | skip
 rename_i es c hH
 obtain⟨L,ES,hL,rfl,hb,hE⟩:=map_at R hx hH
 split at h <;> first | (simp at h; done) | skip
 rename_i v es' c' hv
 simp only[sJ,pJ]at h
 obtain⟨rfl,rfl⟩:=h
 simp only[aMf]at hv
 cases hi:isK kc k with
 | false=>rw[hi]at hv; simp at hv
 | true=>
  rw[hi]at hv
  simp only[cond_true]at hv
  split at hv <;> first | (simp at hv; done) | skip
  ·rename_i j e hf
   simp only[sJ,pJ]at hv
   obtain⟨rfl,rfl,rfl⟩:=hv
   obtain⟨r',q1,q2⟩:=findKey_ok (w:=w) hk hy hE hf
   obtain⟨_,E,rfl,q3,q4,⟨he1,he2,he3⟩,q5⟩:=q2
   rw[Nat.sub_zero,Array.getElem?_toList]at q4
   refine⟨ρ,_,.tuple #[E.val,.int .i64 E.born],Pl.le_refl _,?_,map_turn R hL hH (ES':=ES.modify j fun e=>{ e with key:=kv }) (by
    rw[modify_set q4]
    exact hE.set j ⟨hy,he2,he3⟩),by simp[VRel,VRels,he2,he3]⟩
   simp[Instr.mapEntry,run_underlying hm,MapKept.run_getObj_map hb,checkKey_ok (w:=w) hk hy hi,q1,q4,q5,stays_ok (w:=w) hy hi,MapKept.run_setObj_map _ hb,Result.andThen,goInt]
  ·rename_i hf
   simp only[sJ,pJ]at hv
   obtain⟨rfl,rfl,rfl⟩:=hv
   obtain⟨r',q1,q2⟩:=findKey_ok (w:=w) hk hy hE hf
   simp only[Found]at q2
   subst q2
   refine⟨ρ,_,.tuple #[zv,.int .i64 c],Pl.le_refl _,?_,map_turn R hL hH (ES':=ES.push { key:=kv,val:=zv,born:=c }) (by
    rw[Array.toList_push]
    refine hE.append ?_
    simp only[EntriesRel]
    exact⟨_,_,rfl,⟨hy,hz2 ρ,rfl⟩,rfl⟩),by simp[VRel,VRels,hz2 ρ]⟩
   simp[Instr.mapEntry,run_underlying hm,MapKept.run_getObj_map hb,checkKey_ok (w:=w) hk hy hi,q1,hz1,MapKept.run_setObj_map _ hb,Result.andThen,goInt]
theorem aMf_store(es:List Ent)(c:Nat)(n x:AVal):aMf .store es c [n,x]=match n with
  | .int .i64 (.ofNat b)=>match mBorn b es 0 with
   | some (i,e)=>some (.tuple [],mSet es i (e.1,x,e.2.2),c)
   | none=>none
  | _=>none:=by
 cases n with
 | int k z=>cases k <;> cases z <;> rfl
 | _=>rfl
theorem mStore_ok(R:Rel Prot w0 ρ H w)(t:TypeId){m n x y:AVal}{mv nv xv:Value}(hx:VRel ρ m mv)(hn:VRel ρ n nv)(hy:VRel ρ x xv)
  (h:aMF .store H [m,n,x]=some (y,H')):y=.tuple []∧∃w',(Instr.entryStore t mv nv xv).run P w=.ok () w'∧Rel Prot w0 ρ H' w':=by
 unfold aMF at h
 split at h <;> first | (simp at h; done) | skip
 rename_i r l heq
 simp only[List.cons.injEq]at heq
 obtain⟨rfl,rfl⟩:=heq
 split at h <;> first | (simp at h; done) | skip
 rename_i es c hH
 obtain⟨L,ES,hL,rfl,hb,hE⟩:=map_at R hx hH
 split at h <;> first | (simp at h; done) | skip
 rename_i v es' c' hv
 simp only[sJ,pJ]at h
 obtain⟨rfl,rfl⟩:=h
 rw[aMf_store]at hv
 split at hv <;> first | (simp at hv; done) | skip
 ·rename_i b
  split at hv <;> first | (simp at hv; done) | skip
  rename_i j e hf
  simp only[sJ,pJ]at hv
  obtain⟨rfl,rfl,rfl⟩:=hv
  obtain⟨_,q3,E,q4,⟨he1,he2,he3⟩,q5⟩:=born_ok b es ES.toList 0 j e hE hf
  rw[Nat.sub_zero]at q3 q4 q5
  rw[Array.getElem?_toList]at q4
  simp only[VRel]at hn
  subst hn
  have hidx:ES.findIdx? (fun e=>(e.born:Int)==(b:Int))=some j:=by
   rw[← q5]; exact (List.findIdx?_toArray _ ES.toList)
  refine⟨rfl,_,?_,map_turn R hL hH (ES':=ES.modify j fun e=>{ e with val:=xv }) (by
   rw[modify_set q4]
   exact hE.set j ⟨he1,hy,he3⟩)⟩
  simp[Instr.entryStore,MapKept.run_getObj_map hb,asInt,asIntOf,hidx,MapKept.run_setObj_map _ hb,Result.andThen]
theorem mUpd_ok(R:Rel Prot w0 ρ H w){t kt el:TypeId}{kc:KC}(hm:P.underlying t=some (.map kt el))(hk:kcOf P kt=some kc){m k x y:AVal}{mv kv xv:Value}(hx:VRel ρ m mv)(hy:VRel ρ k kv)(hv0:VRel ρ x xv)
  (h:aMF (.upd kc) H [m,k,x]=some (y,H')):y=.tuple []∧∃w',(Instr.mapUpdate t mv kv xv).run P w=.ok () w'∧Rel Prot w0 ρ H' w':=by
 unfold aMF at h
 split at h <;> first | (simp at h; done) | skip
 rename_i r l heq
 simp only[List.cons.injEq]at heq
 obtain⟨rfl,rfl⟩:=heq
 split at h <;> first | (simp at h; done) | skip
 rename_i es c hH
 obtain⟨L,ES,hL,rfl,hb,hE⟩:=map_at R hx hH
 split at h <;> first | (simp at h; done) | skip
 rename_i v es' c' hv
 simp only[sJ,pJ]at h
 obtain⟨rfl,rfl⟩:=h
 simp only[aMf]at hv
 cases hi:isK kc k with
 | false=>rw[hi]at hv; simp at hv
 | true=>
  rw[hi]at hv
  simp only[cond_true]at hv
  split at hv <;> first | (simp at hv; done) | skip
  ·rename_i j e hf
   simp only[sJ,pJ]at hv
   obtain⟨rfl,rfl,rfl⟩:=hv
   obtain⟨r',q1,q2⟩:=findKey_ok (w:=w) hk hy hE hf
   obtain⟨_,E,rfl,q3,q4,⟨he1,he2,he3⟩,q5⟩:=q2
   rw[Nat.sub_zero,Array.getElem?_toList]at q4
   refine⟨rfl,_,?_,map_turn R hL hH (ES':=ES.modify j fun e=>{ e with key:=kv,val:=xv }) (by
    rw[modify_set q4]
    exact hE.set j ⟨hy,hv0,he3⟩)⟩
   simp[Instr.mapUpdate,run_underlying hm,MapKept.run_getObj_map hb,checkKey_ok (w:=w) hk hy hi,q1,q4,q5,stays_ok (w:=w) hy hi,MapKept.run_setObj_map _ hb,Result.andThen]
  ·rename_i hf
   simp only[sJ,pJ]at hv
   obtain⟨rfl,rfl,rfl⟩:=hv
   obtain⟨r',q1,q2⟩:=findKey_ok (w:=w) hk hy hE hf
   simp only[Found]at q2
   subst q2
   refine⟨rfl,_,?_,map_turn R hL hH (ES':=ES.push { key:=kv,val:=xv,born:=c }) (by
    rw[Array.toList_push]
    refine hE.append ?_
    simp only[EntriesRel]
    exact⟨_,_,rfl,⟨hy,hv0,rfl⟩,rfl⟩)⟩
   simp[Instr.mapUpdate,run_underlying hm,MapKept.run_getObj_map hb,checkKey_ok (w:=w) hk hy hi,q1,MapKept.run_setObj_map _ hb,Result.andThen]
def eqAOf(P:Program)(t:TypeId):Option (List (Nat×FK)):=match P.underlying t with
 | some (.array n e)=>match P.underlying e,tyOf P e with
  | some (.int _),some (false,1)=>bif P.eqGuardType P.depth t then none else some ((List.range' 0 n).map fun i=>(i,FK.int))
  | _,_=>none
 | _=>none
def shF(o:Nat)(ks:List (Nat×FK)):List (Nat×FK):=ks.map fun p=>(o+p.1,p.2)
def eqDF(P:Program)(rec:TypeId→Option (List (Nat×FK))):List Field→Option (List (Nat×FK))
 | []=>some []
 | f::r => bif f.name == "_" then none else match eqDF P rec r with
  | none=>none
  | some l=>match fkOf P f.type with
   | some k=>match tyOf P f.type with
    | some (false,_)=>some ((f.offset,k)::l)
    | _=>none
   | none=>match rec f.type,tyOf P f.type with
    | some ks,some (true,n)=>bif ks.all (fun p=>Nat.blt p.1 n) then some (shF f.offset ks++l) else none
    | _,_=>none
def eqDT(P:Program):Nat→TypeId→Option (List (Nat×FK))
 | 0,_=>none
 | d+1,t=>match P.underlying t with
  | some (.struct fs)=>bif P.stoodInHeld t then none else eqDF P (eqDT P d) fs.toList
  | _=>none
def eqNOf(P:Program)(t:TypeId):Option (List (Nat×FK)):=bif P.eqGuardType P.depth t then none else eqDT P 8 t
theorem aEqFs_app(l m:List AVal):∀(a b:List (Nat×FK)),aEqFs (a++b) l m=match aEqFs a l m with
  | some true=>aEqFs b l m
  | some false=>some false
  | none=>none
 | [],b=>rfl
 | (o,k)::a,b=>by
  simp only[List.cons_append,aEqFs]
  cases l[o]? with
  | none=>rfl
  | some x=>
   cases m[o]? with
   | none=>rfl
   | some y=>
    simp only
    cases fEq k x y with
    | none=>rfl
    | some q=>cases q with
     | true=>exact aEqFs_app l m a b
     | false=>rfl
theorem aEqFs_sh{n o:Nat}(l m:List AVal):∀(ks:List (Nat×FK)),ks.all (fun p=>Nat.blt p.1 n)=true→aEqFs (shF o ks) l m=aEqFs ks ((l.drop o).take n) ((m.drop o).take n)
 | [],_=>rfl
 | (i,k)::r,h=>by
  rw[List.all_cons,Bool.and_eq_true]at h
  have hi:i<n:=by have:=h.1; simpa[Nat.blt_eq] using this
  have ih:=aEqFs_sh (n:=n) (o:=o) l m r h.2
  show aEqFs ((o+i,k)::shF o r) l m=_
  simp only[aEqFs,List.getElem?_take_of_lt hi,List.getElem?_drop,ih]
theorem eqDF_ok{rec:TypeId→Option (List (Nat×FK))}{d:Nat}
  (hr:∀{t:TypeId} {ks:List (Nat×FK)},rec t=some ks→∀{l m:List AVal} {xs ys:Array Value},VRels ρ l xs.toList→VRels ρ m ys.toList→∀{b:Bool},aEqFs ks l m=some b→(Op.equalIn (d+1) t (.agg xs) (.agg ys)).run P w=.ok b w) :
  ∀{fs:List Field} {ks:List (Nat×FK)},eqDF P rec fs=some ks→∀{l m:List AVal} {xs ys:Array Value},VRels ρ l xs.toList→VRels ρ m ys.toList→∀{b:Bool},aEqFs ks l m=some b→(Op.eqFields (d+1) xs ys fs).run P w=.ok b w
 | [],ks,hk,l,m,xs,ys,hx,hy,b,h=>by
  simp only[eqDF,sJ]at hk
  subst hk
  simp only[aEqFs,sJ]at h
  subst h
  rfl
 | f::fs,ks,hk,l,m,xs,ys,hx,hy,b,h=>by
  simp only[eqDF]at hk
  cases hn : (f.name == "_") with
  | true=>rw[hn]at hk; simp at hk
  | false=>
   rw[hn]at hk
   simp only[cond_false]at hk
   have hne : f.name ≠ "_" := by simpa using hn
   split at hk <;> first | (simp at hk; done) | skip
   rename_i ks' h3
   split at hk
   ·rename_i k h1
    split at hk <;> first | (simp at hk; done) | skip
    rename_i n h2
    simp only[sJ]at hk
    subst hk
    simp only[aEqFs]at h
    split at h
    ·rename_i x y gx gy
     have p1:aPart false n f.offset l=some x:=by simpa[aPart] using gx
     have p2:aPart false n f.offset m=some y:=by simpa[aPart] using gy
     obtain⟨u,u1,u2⟩:=part_ok (P:=P) (w:=w) (ty_of h2) hx p1
     obtain⟨v,v1,v2⟩:=part_ok (P:=P) (w:=w) (ty_of h2) hy p2
     simp only[Op.eqFields,hne,ne_eq,not_false_eq_true,if_true,Sem.run_bind,u1,v1,Result.andThen_ok]
     split at h
     ·rename_i hb
      rw[fEq_ok h1 u2 v2 hb d]
      simp only[Result.andThen_ok,Bool.not_true,Bool.false_eq_true,if_false]
      exact eqDF_ok hr h3 hx hy h
     ·rename_i hb
      simp only[sJ]at h
      subst h
      rw[fEq_ok h1 u2 v2 hb d]
      simp
     ·simp at h
    ·simp at h
   ·split at hk <;> first | (simp at hk; done) | skip
    rename_i kk n h1 h2
    cases ha:kk.all (fun p=>Nat.blt p.1 n) with
    | false=>rw[ha]at hk; simp at hk
    | true=>
     rw[ha]at hk
     simp only[cond_true,sJ]at hk
     subst hk
     rw[aEqFs_app,aEqFs_sh l m kk ha]at h
     obtain⟨u,u1,u2⟩:=part_ok (P:=P) (w:=w) (ty_of h2) hx (off:=f.offset) (y:=.agg ((l.drop f.offset).take n)) rfl
     obtain⟨v,v1,v2⟩:=part_ok (P:=P) (w:=w) (ty_of h2) hy (off:=f.offset) (y:=.agg ((m.drop f.offset).take n)) rfl
     simp only[VRel]at u2 v2
     obtain⟨us,rfl,u2⟩:=u2
     obtain⟨vs,rfl,v2⟩:=v2
     simp only[Op.eqFields,hne,ne_eq,not_false_eq_true,if_true,Sem.run_bind,u1,v1,Result.andThen_ok]
     split at h
     ·rename_i hb
      rw[hr h1 u2 v2 hb]
      simp only[Result.andThen_ok,Bool.not_true,Bool.false_eq_true,if_false]
      exact eqDF_ok hr h3 hx hy h
     ·rename_i hb
      simp only[sJ]at h
      subst h
      rw[hr h1 u2 v2 hb]
      simp
     ·simp at h
theorem eqDT_ok:∀(e d:Nat) {t:TypeId} {ks:List (Nat×FK)},eqDT P e t=some ks→∀{l m:List AVal} {xs ys:Array Value},VRels ρ l xs.toList→VRels ρ m ys.toList→∀{b:Bool},aEqFs ks l m=some b→(Op.equalIn (d+e+1) t (.agg xs) (.agg ys)).run P w=.ok b w
 | 0,d,t,ks,hk,l,m,xs,ys,hx,hy,b,h=>by simp[eqDT]at hk
 | e+1,d,t,ks,hk,l,m,xs,ys,hx,hy,b,h=>by
  simp only[eqDT]at hk
  split at hk <;> first | (simp at hk; done) | skip
  rename_i fs hu
  cases hs:P.stoodInHeld t with
  | true=>rw[hs]at hk; simp at hk
  | false=>
   rw[hs]at hk
   simp only[cond_false]at hk
   have hfo:P.fieldsOf t=fs:=by simp[Program.fieldsOf,hu]
   have:=run_equalIn_struct (P:=P) w (d+e+1) t xs ys (by rw[hfo]; exact hu) hs
   rw[hfo]at this
   rw[show d+(e+1)+1=d+e+1+1 by omega,this]
   exact eqDF_ok (rec:=eqDT P e) (d:=d+e) (fun h1 _ _ _ _ hx hy _ h=>eqDT_ok e d h1 hx hy h) hk hx hy h
def eqSXOf(P:Program)(t:TypeId):Option (List (Nat×FK)):=match eqSOf P t with
 | some x=>some x
 | none=>match eqAOf P t with
  | some x=>some x
  | none=>eqNOf P t
theorem eqItems2{e:TypeId}{kk:IntKind}(he:P.underlying e=some (.int kk))(T:Ty P e false 1){L M:List AVal}{xs ys:Array Value}(hL:VRels ρ L xs.toList)(hM:VRels ρ M ys.toList)(d:Nat) :
  ∀(k o:Nat) (b:Bool),aEqFs ((List.range' o k).map fun i=>(i,FK.int)) L M=some b→(Op.eqItems (d+1) e 1 xs ys (List.range' o k)).run P w=.ok b w:=by
 intro k
 induction k with
 | zero=>
  intro o b h
  simp only[List.range'_zero,List.map_nil,aEqFs,sJ]at h
  subst h
  simp[Op.eqItems]
 | succ k ih=>
  intro o b h
  rw[List.range'_succ,List.map_cons]at h
  simp only[aEqFs]at h
  split at h
  ·rename_i x y gx gy
   obtain⟨u,u1,u2⟩:=part_ok (P:=P) (w:=w) T hL (off:=o) (y:=x) (by simpa[aPart] using gx)
   obtain⟨v,v1,v2⟩:=part_ok (P:=P) (w:=w) T hM (off:=o) (y:=y) (by simpa[aPart] using gy)
   have hk:fkOf P e=some .int:=by simp[fkOf,he]
   rw[List.range'_succ]
   simp only[Op.eqItems,Nat.mul_one,Sem.run_bind,u1,v1,Result.andThen_ok]
   split at h
   ·rename_i hb
    rw[fEq_ok hk u2 v2 hb d]
    simp only[Result.andThen_ok,Bool.not_true,Bool.false_eq_true,if_false]
    exact ih (o+1) b h
   ·rename_i hb
    simp only[sJ]at h
    subst h
    rw[fEq_ok hk u2 v2 hb d]
    simp
   ·simp at h
  ·simp at h
theorem eqSX_ok{op:BinOp}(ho:op=.eql∨op=.neq){t:TypeId}{x y:Operand}{ks:List (Nat×FK)}(hk:eqSXOf P t=some ks){l m:List AVal}{u v:Value}(hp:VRel ρ (.agg l) u)(hq:VRel ρ (.agg m) v){b:Bool}(h:aEqFs ks l m=some b) :
  (do eqGuard op t x y u v; binOp op t u v:Sem Value).run P w=.ok (.bool (match op with | .eql=>b | _=>!b)) w:=by
 unfold eqSXOf at hk
 split at hk
 ·rename_i z hz
  simp only[sJ]at hk
  subst hk
  exact eqS_ok ho hz hp hq h
 split at hk
 ·rename_i hA
  simp only[sJ]at hk
  subst hk
  have hk:=hA
  unfold eqAOf at hk
  split at hk
  ·rename_i n e hu
   split at hk
   ·rename_i kk he hT
    cases hg:P.eqGuardType P.depth t with
    | true=>rw[hg]at hk; simp at hk
    | false=>
     rw[hg]at hk
     simp only[cond_false,sJ]at hk
     subst hk
     simp only[VRel]at hp hq
     obtain⟨xs,rfl,hx⟩:=hp
     obtain⟨ys,rfl,hy⟩:=hq
     obtain⟨hc1,i0,hi0⟩:=cells_of hT
     have heq:(Op.equalIn 10000 t (.agg xs) (.agg ys)).run P w=.ok b w:=by
      show (Op.equalIn (9998+1+1) t (.agg xs) (.agg ys)).run P w=_
      rw[run_equalIn_array w (9998+1) xs ys hu hi0,hc1,List.range_eq_range']
      exact eqItems2 he (ty_of hT) hx hy 9998 n 0 b h
     rcases ho with rfl | rfl
     ·simp only[Sem.run_bind,run_eqGuard_agg w _ t x y xs ys hg,Result.andThen_ok,run_eql_struct,heq]
     ·simp only[Sem.run_bind,run_eqGuard_agg w _ t x y xs ys hg,Result.andThen_ok,run_neq_struct,heq]
   ·simp at hk
  ·simp at hk
 ·unfold eqNOf at hk
  cases hg:P.eqGuardType P.depth t with
  | true=>rw[hg]at hk; simp at hk
  | false=>
   rw[hg]at hk
   simp only[cond_false]at hk
   simp only[VRel]at hp hq
   obtain⟨xs,rfl,hx⟩:=hp
   obtain⟨ys,rfl,hy⟩:=hq
   have heq:(Op.equalIn 10000 t (.agg xs) (.agg ys)).run P w=.ok b w:=eqDT_ok 8 9991 hk hx hy h
   rcases ho with rfl | rfl
   ·simp only[Sem.run_bind,run_eqGuard_agg w _ t x y xs ys hg,Result.andThen_ok,run_eql_struct,heq]
   ·simp only[Sem.run_bind,run_eqGuard_agg w _ t x y xs ys hg,Result.andThen_ok,run_neq_struct,heq]
theorem clr_ok(R:Rel Prot w0 ρ H w){t e:TypeId}(hu:P.underlying t=some (.slice e)){z:List AVal}(hz:zeroOf P e=some z){ty:TypeId}{x y:AVal}{v:Value}(hx:VRel ρ x v)(h:aClr z H [x]=some (y,H')) :
  GoodV P Prot w0 ρ w (Builtin.clear_ #[t] ty #[v]) y H':=by
 unfold aClr at h
 split at h <;> first | (simp at h; done) | skip
 ·rename_i n r heq
  simp only[List.cons.injEq,and_true]at heq
  subst heq
  simp only[sJ,pJ]at h
  obtain⟨rfl,rfl⟩:=h
  simp only[VRel]at hx
  obtain⟨_,_,rfl⟩:=hx
  refine GoodV.pure R (v:=.tuple #[]) ?_ (by simp[VRel,VRels])
  simp[Builtin.clear_,run_underlying hu]
 ·rename_i a n r heq
  simp only[List.cons.injEq,and_true]at heq
  subst heq
  obtain⟨L,off,c,hL,hsh,rfl,hlen,hoff⟩:=slice_off hx
  cases hn:Nat.beq n 0 with
  | true=>
   rw[hn]at h
   simp only[cond_true,sJ,pJ]at h
   obtain⟨rfl,rfl⟩:=h
   have:=Nat.eq_of_beq_eq_true hn
   subst this
   refine GoodV.pure R (v:=.tuple #[]) ?_ (by simp[VRel,VRels])
   simp[Builtin.clear_,run_underlying hu]
  | false=>
   rw[hn]at h
   simp only[cond_false]at h
   split at h
   ·rename_i H2 hw
    simp only[sJ,pJ]at h
    obtain⟨rfl,rfl⟩:=h
    have hn0:n≠0:=fun e=>by rw[e]at hn; simp at hn
    rw[hoff om]
    obtain⟨zv,hzr,hzl⟩:=zero_of hz
    have hl:=VRels.len (hzl ρ)
    simp only[Array.length_toList]at hl
    have hm:=made_rel (hzl ρ) n
    obtain⟨w',h1,h2⟩:=wr_run (P:=P) R hw hL hsh hm
    refine⟨ρ,w',.tuple #[],Pl.le_refl _,?_,h2,by simp[VRel,VRels]⟩
    have hzc:Builtin.zeroCells zv.cells n=madeOf zv.cells (n*z.length):=by
     rw[hl]; rfl
    simp only[Builtin.clear_,List.getElem?_toArray,List.getElem?_cons_zero,Sem.run_bind,run_underlying hu,Result.andThen_ok,hzr,hzc]
    rw[h1]
    rfl
   ·simp at h
theorem cpy_ok(R:Rel Prot w0 ρ H w){t t2 e:TypeId}(hu:P.underlying t=some (.slice e)){g:Bool}{n:Nat}(T:Ty P e g n){ty:TypeId}{s x y:AVal}{u v:Value}(hs:VRel ρ s u)(hx:VRel ρ x v)(h:aCpy n H [s,x]=some (y,H')) :
  GoodV P Prot w0 ρ w (Builtin.copy_ #[t,t2] ty #[u,v]) y H':=by
 unfold aCpy at h
 split at h <;> first | (simp at h; done) | skip
 rename_i so sl sr xo xl xr heq
 simp only[List.cons.injEq,and_true]at heq
 obtain⟨rfl,rfl⟩:=heq
 have hshape:∀{o:Option Ad} {m:Nat} {r:Room} {z:Value},VRel ρ (.slice o m r) z→∃b c,z=.slice b m c:=by
  intro o m r z hz
  cases o with
  | none=>
   simp only[VRel]at hz
   obtain⟨h1,h2,rfl⟩:=hz
   exact⟨none,0,by rw[h1]⟩
  | some a=>
   obtain⟨L,off,c,_,_,rfl,_,_⟩:=slice_off hz
   exact⟨_,_,rfl⟩
 obtain⟨sb,sc,rfl⟩:=hshape hs
 obtain⟨xb,xc,rfl⟩:=hshape hx
 cases hn:Nat.beq (Nat.min xl sl) 0 with
 | true=>
  rw[hn]at h
  simp only[cond_true,sJ,pJ]at h
  obtain⟨rfl,rfl⟩:=h
  have h0:=Nat.eq_of_beq_eq_true hn
  refine GoodV.pure R (v:=.int .i64 0) ?_ (by simp[VRel])
  have hf:(Builtin.firstCells n 0 (.slice xb xl xc)).run P w=.ok #[] w:=by
   cases xb with
   | none=>rfl
   | some a=>simp only[Builtin.firstCells,loadCells,Nat.zero_mul]; rfl
  simp only[Builtin.copy_,List.getElem?_toArray,List.getElem?_cons_zero,List.getElem?_cons_succ,Sem.run_bind,run_underlying hu,Result.andThen_ok,Builtin.lenOf,Sem.run_pure,T.size,h0,hf]
  cases sb <;> rfl
 | false=>
  rw[hn]at h
  simp only[cond_false]at h
  have hn0:Nat.min xl sl≠0:=fun e=>by rw[e]at hn; simp at hn
  have hmx:Nat.min xl sl≤xl:=Nat.min_le_left _ _
  have hms:Nat.min xl sl≤sl:=Nat.min_le_right _ _
  cases so with
  | none=>simp at h
  | some a=>
  cases xo with
  | none=>simp at h
  | some b=>
  simp only at h
  split at h <;> first | (simp at h; done) | skip
  rename_i l hl
  split at h <;> first | (simp at h; done) | skip
  rename_i H2 hw
  simp only[sJ,pJ]at h
  obtain⟨rfl,rfl⟩:=h
  obtain⟨L,off,c,hL,hsh,e1,hlen,hoff⟩:=slice_off hs
  obtain⟨M,moff,mc,hM,msh,e2,mlen,mo⟩:=slice_off hx
  simp only[Value.slice.injEq,true_and]at e1 e2
  obtain⟨rfl,rfl⟩:=e1
  obtain⟨rfl,rfl⟩:=e2
  have ho:=hoff om
  have hm:=mo om
  subst ho hm
  obtain⟨vs,q1,q2,q3⟩:=rd_run (P:=P) R hl hM msh
  obtain⟨w',h1,h2⟩:=wr_run (P:=P) R hw hL hsh q2
  refine⟨ρ,w',.int .i64 (Nat.min xl sl:Nat),Pl.le_refl _,?_,h2,by simp[VRel]⟩
  have hf:(Builtin.firstCells n (Nat.min xl sl) (.slice (some ⟨M.c,b.o-M.sh,none⟩) xl xc)).run P w=.ok vs w:=q1
  simp only[Builtin.copy_,List.getElem?_toArray,List.getElem?_cons_zero,List.getElem?_cons_succ,Sem.run_bind,run_underlying hu,Result.andThen_ok,Builtin.lenOf,Sem.run_pure,T.size,hf]
  rw[h1]
  rfl
end
end Go.Abs
namespace Go.Abs
section
variable {P:Program} {Prot:Gh} {w0:World} {ρ:Pl} {H H':AHeap} {w:World}
def kfOf(P:Program)(t:TypeId):Option FKd:=match P.underlying t,tyOf P t with
 | some (.pointer e),some (false,1)=>match tyOf P e with
  | some (_,n)=>bif Nat.beq n 0 then none else some .p
  | none=>none
 | some (.int _),some (false,1)=>some .i
 | some .string,some (false,1)=>some .s
 | _,_=>none
def pkOf(P:Program)(t:TypeId):Option (FKd×FKd):=match P.underlying t with
 | some (.struct fs)=>match fs.toList with
  | [f,g]=>match kfOf P f.type,kfOf P g.type with
   | some a, some b => bif !P.stoodInHeld t && (!(f.name == "_") && (!(g.name == "_") && (Nat.beq f.offset 0 && Nat.beq g.offset 1))) then some (a, b) else none
   | _,_=>none
  | _=>none
 | _=>none
structure PK(P:Program)(t:TypeId)(ks:FKd×FKd)(f g:Field)(fs:Array Field):Prop where
 ht:P.underlying t=some (.struct fs)
 hl:fs.toList=[f,g]
 hp:P.stoodInHeld t=false
 hf:kfOf P f.type=some ks.1
 hg:kfOf P g.type=some ks.2
 nf : f.name ≠ "_"
 ng : g.name ≠ "_"
 of_:f.offset=0
 og:g.offset=1
theorem pkOf_spec{t:TypeId}{ks:FKd×FKd}(h:pkOf P t=some ks):∃f g fs,PK P t ks f g fs:=by
 unfold pkOf at h
 split at h
 ·rename_i fs hu
  split at h
  ·rename_i f g hl
   split at h
   ·rename_i a b ha hb
    cases hc : (!P.stoodInHeld t && (!(f.name == "_") && (!(g.name == "_") && (Nat.beq f.offset 0 && Nat.beq g.offset 1)))) with
    | false=>rw[hc]at h; simp at h
    | true=>
     rw[hc]at h
     simp only[cond_true,sJ]at h
     subst h
     simp only[Bool.and_eq_true,Bool.not_eq_true']at hc
     obtain⟨q1,q2,q3,q4,q5⟩:=hc
     exact⟨f,g,fs,hu,hl,q1,ha,hb,by simpa using q2,by simpa using q3,Nat.eq_of_beq_eq_true q4,Nat.eq_of_beq_eq_true q5⟩
   ·simp at h
  ·simp at h
 ·simp at h
inductive FkK(P:Program)(t:TypeId):FKd→Prop
 | p (e:TypeId) (a:Bool) (n:Nat) (h:P.underlying t=some (.pointer e)) (he:tyOf P e=some (a,n)) (hn:n≠0):FkK P t .p
 | i (k:IntKind) (h:P.underlying t=some (.int k)):FkK P t .i
 | s (h:P.underlying t=some .string):FkK P t .s
theorem fk_spec{t:TypeId}{kd:FKd}(h:kfOf P t=some kd):tyOf P t=some (false,1)∧FkK P t kd:=by
 unfold kfOf at h
 split at h
 ·rename_i e hu ht
  split at h
  ·rename_i a n hn
   cases hc:Nat.beq n 0 with
   | true=>rw[hc]at h; simp at h
   | false=>
    rw[hc]at h
    simp only[cond_false,sJ]at h
    subst h
    exact⟨ht,.p e a n hu hn fun e=>by rw[e]at hc; simp at hc⟩
  ·simp at h
 ·rename_i k hu ht
  simp only[sJ]at h
  subst h
  exact⟨ht,.i k hu⟩
 ·rename_i hu ht
  simp only[sJ]at h
  subst h
  exact⟨ht,.s hu⟩
 ·simp at h
theorem part_one{t:TypeId}(ht:tyOf P t=some (false,1)){xs:Array Value}{off:Nat}{u:Value}(h:xs[off]?=some u):(part t xs off).run P w=.ok u w:=by
 simp[part,(ty_of ht).agg,h]
theorem sameAddr_apart{a b:Addr}{ca cb:Array Value}{ta tb:TypeId}{l1 h1 l2 h2:Nat}(hne:a.block≠b.block)(ha:w.heap[a.block]?=some (.cells ca ta (l1,h1)))(hb:w.heap[b.block]?=some (.cells cb tb (l2,h2)))(e1:h1≤l1)(e2:h2≤l2) :
  (sameAddr a b).run P w=.ok false w:=by
 have f1:∀o s,w.frozen? ⟨a.block,o,s⟩=false:=fun o s=>by
  unfold World.frozen?; simp only[ha]; simp; omega
 have f2:∀o s,w.frozen? ⟨b.block,o,s⟩=false:=fun o s=>by
  unfold World.frozen?; simp only[hb]; simp; omega
 have g1:w.frozen? a=false:=f1 a.off _
 have g2:w.frozen? b=false:=f2 b.off _
 simp[sameAddr,hne,ha,hb,g1,g2,f1,f2,noView,viewAt,World.shape?,mayBeOne,stringish]
theorem pEqP_ok(R:Rel Prot w0 ρ H w){a c:Ad}{b:Bool}(h:pEqP H.get a c=some b){L M:Loc}(l1:ρ a.b a.lim=some L)(l2:L.sh≤a.o)(m1:ρ c.b c.lim=some M)(m2:M.sh≤c.o) :
  (sameAddr ⟨L.c,a.o-L.sh,none⟩ ⟨M.c,c.o-M.sh,none⟩).run P w=.ok b w∧(b=true→(⟨L.c,a.o-L.sh,none⟩:Addr)=⟨M.c,c.o-M.sh,none⟩):=by
 unfold pEqP at h
 cases hb:Nat.beq a.b c.b with
 | true=>
  rw[hb]at h
  simp only[cond_true]at h
  cases hl:Nat.beq a.lim c.lim with
  | false=>rw[hl]at h; simp at h
  | true=>
   rw[hl]at h
   simp only[cond_true,sJ]at h
   subst h
   rw[Nat.eq_of_beq_eq_true hb,Nat.eq_of_beq_eq_true hl,m1]at l1
   obtain rfl:=(sJ _ _).mp l1
   cases ho:Nat.beq a.o c.o with
   | true=>
    rw[Nat.eq_of_beq_eq_true ho]
    exact⟨by simp[sameAddr],fun _=>rfl⟩
   | false=>
    have hne:a.o-M.sh≠c.o-M.sh:=fun e=>by
     have:a.o=c.o:=om
     rw[this,Nat.beq_refl]at ho; simp at ho
    exact⟨by simp[sameAddr,hne],fun e=>by simp at e⟩
 | false=>
  rw[hb]at h
  simp only[cond_false]at h
  have hne:a.b≠c.b:=fun e=>by rw[e,Nat.beq_refl]at hb; simp at hb
  split at h
  ·rename_i lx _ ly _ hx hy
   simp only[sJ]at h
   subst h
   obtain⟨x,o,g1,g2,g3⟩:=R.obj _ _ _ l1
   obtain⟨y,p,k1,k2,k3⟩:=R.obj _ _ _ m1
   rw[hx]at g1; rw[hy]at k1
   obtain rfl:=Option.some.inj g1
   obtain rfl:=Option.some.inj k1
   simp only[ORel]at g3 k3
   obtain⟨C,e,lo,hi,rfl,_,q1,_,_⟩:=g3
   obtain⟨C',e',lo',hi',rfl,_,q2,_,_⟩:=k3
   have hc:L.c≠M.c:=fun e=>hne (R.inj _ _ _ _ _ _ _ l1 m1 e hx rfl).1
   exact⟨sameAddr_apart (a:=⟨L.c,a.o-L.sh,none⟩) (b:=⟨M.c,c.o-M.sh,none⟩) hc g2 k2 ((q1 trivial).2.2 rfl) ((q2 trivial).2.2 rfl),fun e=>by simp at e⟩
  ·simp at h
theorem pEqV_ok(R:Rel Prot w0 ρ H w){t:TypeId}{kd:FKd}(K:FkK P t kd){x y:AVal}{u v:Value}{b:Bool}(h:pEqV H.get kd x y=some b)(hx:VRel ρ x u)(hy:VRel ρ y v) :
  (∀d,(Op.equalIn (d+1) t u v).run P w=.ok b w)∧(b=true→v=u):=by
 cases K with
 | p e a n hu he hn=>
  unfold pEqV at h
  split at h <;> first | (simp at h; done) | skip
  all_goals first | (rename_i heq; cases heq; done) | skip
  rename_i a' c
  simp only[VRel]at hx hy
  obtain⟨L,l1,l2,rfl⟩:=hx
  obtain⟨M,m1,m2,rfl⟩:=hy
  obtain⟨q1,q2⟩:=pEqP_ok (P:=P) R h l1 l2 m1 m2
  have hs:=(ty_of he).size
  exact⟨fun d=>by simp[Op.equalIn,run_underlying hu,hs,hn,q1],fun hb=>by rw[q2 hb]⟩
 | i k hu=>
  unfold pEqV at h
  split at h <;> first | (simp at h; done) | skip
  all_goals first | (rename_i heq; cases heq; done) | skip
  simp only[VRel]at hx hy
  subst hx hy
  split at h
  ·rename_i hk
   simp only[sJ]at h
   subst hk
   refine⟨fun d=>?_,fun hb=>?_⟩
   ·rw[← h,eqF_eq]
    simp[Op.equalIn,run_underlying hu]
   ·rw[hb,eqF_eq]at h
    simp only[beq_iff_eq]at h
    rw[h]
  ·simp at h
 | s hu=>
  unfold pEqV at h
  split at h <;> first | (simp at h; done) | skip
  all_goals first | (rename_i heq; cases heq; done) | skip
  rename_i a' c
  simp only[VRel]at hx hy
  subst hx hy
  simp only[sJ]at h
  refine⟨fun d=>?_,fun hb=>?_⟩
  ·simp[Op.equalIn,run_underlying hu,strOf_beq,h]
  ·rw[hb]at h
   rw[eq_of_beq h]
theorem fk_chk{t:TypeId}{kd:FKd}(K:FkK P t kd)(em:Bool)(d:Nat)(u:Value):(Instr.checkKey em (d+1) t u).run P w=.ok () w:=by
 cases K with
 | p e a n hu he hn=>simp[Instr.checkKey,run_underlying hu]
 | i k hu=>exact check1 hu em d u
 | s hu=>simp[Instr.checkKey,run_underlying hu]
theorem two_cells{x y:AVal}{u:Value}(h:VRel ρ (.agg [x,y]) u):∃(xs:Array Value) (a b:Value),u=.agg xs∧xs.toList=[a,b]∧VRel ρ x a∧VRel ρ y b∧xs[0]?=some a∧xs[1]?=some b:=by
 simp only[VRel,VRels]at h
 obtain⟨xs,rfl,a,_,e,ha,b,_,rfl,hb,rfl⟩:=h
 refine⟨xs,a,b,rfl,e,ha,hb,?_,?_⟩
 ·rw[← Array.getElem?_toList,e]; rfl
 ·rw[← Array.getElem?_toList,e]; rfl
theorem pEqK_ok(R:Rel Prot w0 ρ H w){t:TypeId}{ks:FKd×FKd}{f g:Field}{fs:Array Field}(K:PK P t ks f g fs){x y:AVal}{u v:Value}{b:Bool}(h:pEqK H.get ks x y=some b)(hx:VRel ρ x u)(hy:VRel ρ y v) :
  (Op.equal t u v).run P w=.ok b w∧(b=true→v=u):=by
 unfold pEqK at h
 split at h <;> first | (simp at h; done) | skip
 rename_i x1 x2 y1 y2
 obtain⟨xs,a1,a2,rfl,ex,ha1,ha2,g1,g2⟩:=two_cells hx
 obtain⟨ys,b1,b2,rfl,ey,hb1,hb2,k1,k2⟩:=two_cells hy
 obtain⟨tf,kf⟩:=fk_spec K.hf
 obtain⟨tg,kg⟩:=fk_spec K.hg
 have px:(part f.type xs f.offset).run P w=.ok a1 w:=part_one tf (by rw[K.of_]; exact g1)
 have py:(part f.type ys f.offset).run P w=.ok b1 w:=part_one tf (by rw[K.of_]; exact k1)
 have gx:(part g.type xs g.offset).run P w=.ok a2 w:=part_one tg (by rw[K.og]; exact g2)
 have gy:(part g.type ys g.offset).run P w=.ok b2 w:=part_one tg (by rw[K.og]; exact k2)
 have hfo:P.fieldsOf t=fs:=by simp[Program.fieldsOf,K.ht]
 have run:(Op.equal t (.agg xs) (.agg ys)).run P w=(Op.eqFields 9999 xs ys [f,g]).run P w:=by
  show (Op.equalIn (9999+1) t (.agg xs) (.agg ys)).run P w=_
  rw[run_equalIn_struct w 9999 t xs ys (by rw[hfo]; exact K.ht) K.hp,hfo,K.hl]
 rw[run]
 split at h
 ·rename_i h1
  obtain⟨q1,q2⟩:=pEqV_ok (P:=P) R kf h1 ha1 hb1
  obtain⟨r1,r2⟩:=pEqV_ok (P:=P) R kg h ha2 hb2
  refine⟨?_,fun hb=>?_⟩
  ·have gen:∀d,(Op.eqFields (d+1) xs ys [f,g]).run P w=.ok b w:=fun d=>?_
   ·exact gen 9998
   simp only[Op.eqFields,K.nf,K.ng,ne_eq,not_false_eq_true,if_true,Sem.run_bind,px,py,Result.andThen_ok,q1,gx,gy,r1,Bool.not_true,Bool.false_eq_true,if_false]
   cases b <;> simp
  ·congr 1
   apply Array.toList_inj.1
   rw[ex,ey,q2 rfl,r2 hb]
 ·rename_i h1
  simp only[sJ]at h
  subst h
  obtain⟨q1,_⟩:=pEqV_ok (P:=P) R kf h1 ha1 hb1
  refine⟨?_,by simp⟩
  have gen:∀d,(Op.eqFields (d+1) xs ys [f,g]).run P w=.ok false w:=fun d=>?_
  ·exact gen 9998
  simp only[Op.eqFields,K.nf,ne_eq,not_false_eq_true,if_true,Sem.run_bind,px,py,Result.andThen_ok,q1,Bool.not_false]
  simp
 ·simp at h
theorem pFind_ok(R:Rel Prot w0 ρ H w){t:TypeId}{ks:FKd×FKd}(hk:pkOf P t=some ks){x:AVal}{v:Value}(hx:VRel ρ x v):∀(es:List Ent) (ES:List MapEntry) (i:Nat) (r:Option (Nat×Ent)),EntriesRel ρ es ES→pFind H.get ks x es i=some r →
  ∃r',(Instr.findAsking t v ES i).run P w=.ok r' w∧Found ρ v es ES i r r':=by
 obtain⟨f,g,fs,K⟩:=pkOf_spec hk
 intro es
 induction es with
 | nil=>
  intro ES i r hE h
  simp only[pFind,sJ]at h
  simp only[EntriesRel]at hE
  subst h hE
  exact⟨none,rfl,rfl⟩
 | cons e0 es ih=>
  intro ES i r hE h
  simp only[EntriesRel]at hE
  obtain⟨E,ES',rfl,hEE,hE⟩:=hE
  obtain⟨he1,he2,he3⟩:=hEE
  simp only[pFind]at h
  split at h
  ·rename_i hb
   simp only[sJ]at h
   subst h
   obtain⟨k1,k2⟩:=pEqK_ok R K hb hx he1
   exact⟨some (i,E.val),by simp[Instr.findAsking,k1],Nat.le_refl _,E,rfl,by simp,by simp,⟨he1,he2,he3⟩,k2 rfl⟩
  ·rename_i hb
   obtain⟨k1,k2⟩:=pEqK_ok R K hb hx he1
   obtain⟨r',q1,q2⟩:=ih ES' (i+1) r hE h
   exact⟨r',by simp[Instr.findAsking,k1,q1],q2.step⟩
  ·simp at h
theorem pKey_ok(R:Rel Prot w0 ρ H w){t:TypeId}{ks:FKd×FKd}(hk:pkOf P t=some ks){x:AVal}{v:Value}(hx:VRel ρ x v){es:List Ent}{ES:List MapEntry}{r:Option (Nat×Ent)}(hE:EntriesRel ρ es ES)(h:pFind H.get ks x es 0=some r) :
  ∃r',(Instr.findKey t v ES).run P w=.ok r' w∧Found ρ v es ES 0 r r':=by
 obtain⟨f,g,fs,K⟩:=pkOf_spec hk
 cases es with
 | nil=>
  simp only[pFind,sJ]at h
  simp only[EntriesRel]at hE
  subst h hE
  exact⟨none,by simp[Instr.findKey,run_underlying K.ht,Instr.findNow],rfl⟩
 | cons e0 es=>
  obtain⟨r',q1,q2⟩:=pFind_ok R hk hx (e0::es) ES 0 r hE h
  refine⟨r',?_,q2⟩
  simp only[EntriesRel]at hE
  obtain⟨E,ES',rfl,_,_⟩:=hE
  have hn:Instr.findNow (.struct fs) v (E::ES') 0=none:=by
   unfold Instr.findNow
   have:Instr.sameNow (.struct fs) v E.key=none:=by
    cases v <;> cases E.key <;> rfl
   rw[this]
  simp[Instr.findKey,run_underlying K.ht,hn,q1]
theorem pCheck_ok{t:TypeId}{ks:FKd×FKd}(hk:pkOf P t=some ks){x:AVal}{v:Value}(hx:VRel ρ x v)(hi:isPK ks x=true)(em:Bool):(Instr.checkKey em 10000 t v).run P w=.ok () w:=by
 obtain⟨f,g,fs,K⟩:=pkOf_spec hk
 unfold isPK at hi
 split at hi
 ·rename_i a b
  obtain⟨xs,a1,a2,rfl,ex,ha1,ha2,g1,g2⟩:=two_cells hx
  obtain⟨tf,kf⟩:=fk_spec K.hf
  obtain⟨tg,kg⟩:=fk_spec K.hg
  have u1:(part f.type xs f.offset).run P w=.ok a1 w:=part_one tf (by rw[K.of_]; exact g1)
  have v1:(part g.type xs g.offset).run P w=.ok a2 w:=part_one tg (by rw[K.og]; exact g2)
  have c1:∀d,(Instr.checkKey em (d+1) f.type a1).run P w=.ok () w:=fun d=>fk_chk kf em d _
  have c2:∀d,(Instr.checkKey em (d+1) g.type a2).run P w=.ok () w:=fun d=>fk_chk kg em d _
  have gen:∀d,(Instr.checkKey em (d+1+1) t (.agg xs)).run P w=.ok () w:=fun d=>?_
  ·exact gen 9998
  rw[Instr.checkKey]
  simp only[Sem.run_bind,run_underlying K.ht,Result.andThen_ok]
  rw[← Array.forIn_toList,K.hl]
  simp[K.nf,K.ng,u1,v1,c1,c2]
 ·simp at hi
theorem pLook_ok(R:Rel Prot w0 ρ H w){t kt el:TypeId}(hm:P.underlying t=some (.map kt el)){ks:FKd×FKd}(hk:pkOf P kt=some ks){z:AVal}(hz:zeroA P el=some z){ok:Bool}{m k y:AVal}{mv kv:Value}(hx:VRel ρ m mv)(hy:VRel ρ k kv)
  (h:aPLook ks ok z H [m,k]=some (y,H')):GoodV P Prot w0 ρ w (Instr.lookup t mv kv ok) y H':=by
 obtain⟨zv,hz1,hz2⟩:=zeroA_ok hz
 unfold aPLook at h
 split at h <;> first | (simp at h; done) | skip
 rename_i r k' heq
 simp only[List.cons.injEq,and_true]at heq
 obtain⟨rfl,rfl⟩:=heq
 split at h <;> first | (simp at h; done) | skip
 rename_i es c hH
 obtain⟨L,ES,hL,rfl,hb,hE⟩:=map_at R hx hH
 split at h <;> first | (simp at h; done) | skip
 rename_i v hv
 simp only[sJ,pJ]at h
 obtain⟨rfl,rfl⟩:=h
 unfold aPLookE at hv
 cases hi:isPK ks k with
 | false=>rw[hi]at hv; simp at hv
 | true=>
  rw[hi]at hv
  simp only[cond_true]at hv
  split at hv <;> first | (simp at hv; done) | skip
  ·rename_i j e hf
   simp only[sJ]at hv
   subst hv
   obtain⟨r',q1,q2⟩:=pKey_ok R hk hy hE hf
   obtain⟨_,E,rfl,_,_,⟨_,he2,_⟩,_⟩:=q2
   refine GoodV.pure R (v:=if ok=true then .tuple #[E.val,.bool true] else E.val) ?_ (ret_ok ok he2 true)
   simp[Instr.lookup,run_underlying hm,MapKept.run_getObj_map hb,pCheck_ok (w:=w) hk hy hi,q1,Result.andThen]
  ·rename_i hf
   simp only[sJ]at hv
   subst hv
   obtain⟨r',q1,q2⟩:=pKey_ok R hk hy hE hf
   simp only[Found]at q2
   subst q2
   refine GoodV.pure R (v:=if ok=true then .tuple #[zv,.bool false] else zv) ?_ (ret_ok ok (hz2 ρ) false)
   simp[Instr.lookup,run_underlying hm,MapKept.run_getObj_map hb,pCheck_ok (w:=w) hk hy hi,q1,hz1,Result.andThen]
theorem bits_one{kd:FKd}{x:AVal}{v:Value}(hx:VRel ρ x v)(hi:isV kd x=true)(d:Nat):Instr.sameBits (d+1) v v=true:=by
 unfold isV at hi
 split at hi <;> first | (simp at hi; done) | skip
 ·simp only[VRel]at hx
  obtain⟨L,l1,l2,rfl⟩:=hx
  simp[Instr.sameBits]
 ·simp only[VRel]at hx
  subst hx
  simp[Instr.sameBits]
 ·simp only[VRel]at hx
  subst hx
  simp[Instr.sameBits,strOf_beq]
theorem pStays_ok{ks:FKd×FKd}{x:AVal}{v:Value}(hx:VRel ρ x v)(hi:isPK ks x=true):(Instr.keyThatStays v v).run P w=.ok v w:=by
 have:Instr.sameBits 10000 v v=true:=by
  unfold isPK at hi
  split at hi
  ·obtain⟨xs,a1,a2,rfl,ex,ha1,ha2,g1,g2⟩:=two_cells hx
   simp only[Bool.and_eq_true]at hi
   have e1:=bits_one ha1 hi.1
   have e2:=bits_one ha2 hi.2
   show Instr.sameBits (9999+1) _ _=true
   have gen:∀d,Instr.sameBits (d+1+1) (.agg xs) (.agg xs)=true:=fun d=>by simp[Instr.sameBits,ex,e1,e2]
   exact gen 9998
  ·simp at hi
 simp[Instr.keyThatStays,this]
theorem pUpd_ok(R:Rel Prot w0 ρ H w){t kt el:TypeId}(hm:P.underlying t=some (.map kt el)){ks:FKd×FKd}(hk:pkOf P kt=some ks){m k x y:AVal}{mv kv xv:Value}(hx:VRel ρ m mv)(hy:VRel ρ k kv)(hv0:VRel ρ x xv)
  (h:aPUpd ks H [m,k,x]=some (y,H')):y=.tuple []∧∃w',(Instr.mapUpdate t mv kv xv).run P w=.ok () w'∧Rel Prot w0 ρ H' w':=by
 unfold aPUpd at h
 split at h <;> first | (simp at h; done) | skip
 rename_i r k' x' heq
 simp only[List.cons.injEq,and_true]at heq
 obtain⟨rfl,rfl,rfl⟩:=heq
 split at h <;> first | (simp at h; done) | skip
 rename_i es c hH
 obtain⟨L,ES,hL,rfl,hb,hE⟩:=map_at R hx hH
 split at h <;> first | (simp at h; done) | skip
 rename_i es' c' hv
 simp only[sJ,pJ]at h
 obtain⟨rfl,rfl⟩:=h
 unfold aPUpdE at hv
 cases hi:isPK ks k with
 | false=>rw[hi]at hv; simp at hv
 | true=>
  rw[hi]at hv
  simp only[cond_true]at hv
  split at hv <;> first | (simp at hv; done) | skip
  ·rename_i j e hf
   simp only[sJ,pJ]at hv
   obtain⟨rfl,rfl⟩:=hv
   obtain⟨r',q1,q2⟩:=pKey_ok R hk hy hE hf
   obtain⟨_,E,rfl,q3,q4,⟨he1,he2,he3⟩,q5⟩:=q2
   rw[Nat.sub_zero,Array.getElem?_toList]at q4
   refine⟨rfl,_,?_,map_turn R hL hH (ES':=ES.modify j fun e=>{ e with key:=kv,val:=xv }) (by
    rw[modify_set q4]
    exact hE.set j ⟨hy,hv0,he3⟩)⟩
   simp[Instr.mapUpdate,run_underlying hm,MapKept.run_getObj_map hb,pCheck_ok (w:=w) hk hy hi,q1,q4,q5,pStays_ok (w:=w) hy hi,MapKept.run_setObj_map _ hb,Result.andThen]
  ·rename_i hf
   simp only[sJ,pJ]at hv
   obtain⟨rfl,rfl⟩:=hv
   obtain⟨r',q1,q2⟩:=pKey_ok R hk hy hE hf
   simp only[Found]at q2
   subst q2
   refine⟨rfl,_,?_,map_turn R hL hH (ES':=ES.push { key:=kv,val:=xv,born:=c }) (by
    rw[Array.toList_push]
    refine hE.append ?_
    simp only[EntriesRel]
    exact⟨_,_,rfl,⟨hy,hv0,rfl⟩,rfl⟩)⟩
   simp[Instr.mapUpdate,run_underlying hm,MapKept.run_getObj_map hb,pCheck_ok (w:=w) hk hy hi,q1,MapKept.run_setObj_map _ hb,Result.andThen]
theorem eraseRel{es:List Ent}{ES:List MapEntry}(h:EntriesRel ρ es ES):∀i,EntriesRel ρ (es.eraseIdx i) (ES.eraseIdx i):=by
 induction es generalizing ES with
 | nil=>intro i; simp only[EntriesRel]at h; subst h; simp[EntriesRel]
 | cons e es ih=>
  simp only[EntriesRel]at h
  obtain⟨E,r,rfl,h1,h2⟩:=h
  intro i
  cases i with
  | zero=>simpa using h2
  | succ i=>simp only[List.eraseIdx_cons_succ,EntriesRel]; exact⟨E,_,rfl,h1,ih h2 i⟩
theorem pDel_ok(R:Rel Prot w0 ρ H w){t kt el ty t2:TypeId}(hm:P.underlying t=some (.map kt el)){ks:FKd×FKd}(hk:pkOf P kt=some ks){m k y:AVal}{mv kv:Value}(hx:VRel ρ m mv)(hy:VRel ρ k kv)
  (h:aPDel ks H [m,k]=some (y,H')):GoodV P Prot w0 ρ w (Builtin.delete_ #[t,t2] ty #[mv,kv]) y H':=by
 unfold aPDel at h
 split at h <;> first | (simp at h; done) | skip
 rename_i r k' heq
 simp only[List.cons.injEq,and_true]at heq
 obtain⟨rfl,rfl⟩:=heq
 split at h <;> first | (simp at h; done) | skip
 rename_i es c hH
 obtain⟨L,ES,hL,rfl,hb,hE⟩:=map_at R hx hH
 split at h <;> first | (simp at h; done) | skip
 rename_i es' c' hv
 simp only[sJ,pJ]at h
 obtain⟨rfl,rfl⟩:=h
 unfold aPDelE at hv
 cases hi:isPK ks k with
 | false=>rw[hi]at hv; simp at hv
 | true=>
  rw[hi]at hv
  simp only[cond_true]at hv
  split at hv <;> first | (simp at hv; done) | skip
  ·rename_i j e hf
   simp only[sJ,pJ]at hv
   obtain⟨rfl,rfl⟩:=hv
   obtain⟨r',q1,q2⟩:=pKey_ok R hk hy hE hf
   obtain⟨_,E,rfl,q3,q4,_,q5⟩:=q2
   refine⟨ρ,_,.tuple #[],Pl.le_refl _,?_,map_turn R hL hH (ES':=ES.eraseIdxIfInBounds j) (by
    rw[Array.toList_eraseIdxIfInBounds]
    exact eraseRel hE j),by simp[VRel,VRels]⟩
   simp[Builtin.delete_,run_underlying hm,MapKept.run_getObj_map hb,pCheck_ok (w:=w) hk hy hi,q1,MapKept.run_setObj_map _ hb,Result.andThen]
  ·rename_i hf
   simp only[sJ,pJ]at hv
   obtain⟨rfl,rfl⟩:=hv
   obtain⟨r',q1,q2⟩:=pKey_ok R hk hy hE hf
   simp only[Found]at q2
   subst q2
   refine⟨ρ,_,.tuple #[],Pl.le_refl _,?_,map_turn R hL hH (ES':=ES) hE,by simp[VRel,VRels]⟩
   simp[Builtin.delete_,run_underlying hm,MapKept.run_getObj_map hb,pCheck_ok (w:=w) hk hy hi,q1,MapKept.run_setObj_map _ hb,Result.andThen]
end
end Go.Abs
namespace Go.Abs
def BIG:Nat:=1024
inductive Opd where
 | t (i:Nat)
 | c (v:AVal)
 | f (id:FuncId)
inductive AOp where
 | mv (x:Opd)
 | pick (c a b:Opd)
 | new (zero:List AVal)
 | box (x:Opd)
 | build (zero:List AVal) (parts:List (Nat×Nat×Opd))
 | buildSl (len:Nat) (zero:List AVal) (parts:List (Nat×Nat×Opd))
 | load (agg:Bool) (size:Nat) (x:Opd)
 | store (size:Nat) (a x:Opd)
 | nilChk (x:Opd)
 | bin (op:BinOp) (x y:Opd)
 | un (op:UnOp) (x:Opd)
 | conv (k:IntKind) (x:Opd)
 | convSB (x:Opd)
 | convBS (x:Opd)
 | mkFunc (fn:Fn) (first captured:List Opd)
 | mkIface (t:TypeId) (x:Opd)
 | mkSlice (bytes:Nat) (zero:List AVal) (l c:Opd)
 | sl (size:Nat) (x:Opd) (lo hi mx:Option Opd)
 | slStr (x:Opd) (lo hi:Option Opd)
 | fieldA (off:Nat) (x:Opd)
 | field (agg:Bool) (size off:Nat) (x:Opd)
 | idxA (size:Nat) (x i:Opd)
 | idxArr (n size:Nat) (x i:Opd)
 | idx (n size:Nat) (agg:Bool) (x i:Opd)
 | idxS (x i:Opd)
 | extract (i:Nat) (x:Opd)
 | append (size bytes:Nat) (s x:Opd)
 | len (str:Bool) (x:Opd)
 | call (f:FuncId) (args:List Opd)
 | callv (f:Opd) (args:List Opd)
 | pf (f:PF) (xs:List Opd)
 | hf (f:HF) (xs:List Opd)
 | bad
 | claim (b:Nat) (zero:List AVal) (s:Option (Nat×Nat))
 | slA (n size:Nat) (x:Opd) (lo hi mx:Option Opd)
inductive Nx where
 | val (v:AVal)
 | enter (f:FuncId) (args:List AVal)
def undefA:AVal:=.tuple []
def ev(T:Tr AVal):Opd→AVal
 | .t i=>match T.get i with
  | some v=>v
  | none=>undefA
 | .c v=>v
 | .f id=>.func (.func id) [] []
def evs(T:Tr AVal):List Opd→List AVal
 | []=>[]
 | x::r=>ev T x::evs T r
def evO(T:Tr AVal):Option Opd→Option AVal
 | none=>none
 | some x=>some (ev T x)
def evP(T:Tr AVal):List (Nat×Nat×Opd)→List (Nat×Nat×AVal)
 | []=>[]
 | (o,n,x)::r=>(o,n,ev T x)::evP T r
def vv(H:AHeap):Option AVal→Option (Nx×AHeap)
 | some v=>some (.val v,H)
 | none=>none
def vh:Option (AVal×AHeap)→Option (Nx×AHeap)
 | some (v,H)=>some (.val v,H)
 | none=>none
def aNilChk:AVal→Option AVal
 | .ptr none=>none
 | .nilIface=>none
 | .nilFunc=>none
 | .func (.method _) _ _=>none
 | .val _=>none
 | x=>some x
def aLenK(str:Bool):AVal→Option AVal
 | .str s=>bif str then some (.int .i64 s.length) else none
 | .slice _ n _=>bif str then none else some (.int .i64 n)
 | .val (.slice _ n _)=>bif str then none else some (.int .i64 n)
 | _=>none
def aop(tb:FuncId→Bool)(T:Tr AVal)(H:AHeap):AOp→Option (Nx×AHeap)
 | .mv x=>some (.val (ev T x),H)
 | .pick c a b=>match ev T c with
  | .bool b'=>some (.val (bif b' then ev T a else ev T b),H)
  | _=>none
 | .new z=>vh (some (oNew H z))
 | .box x=>vh (some (oNew H (ev T x).cells))
 | .build z ps=>vv H (aBuild z (evP T ps))
 | .buildSl n z ps=>vh (aBuildSl n z H (evP T ps))
 | .load a n x=>vv H (oLoad a n H (ev T x))
 | .store n a x=>match oStore n H (ev T a) (ev T x) with
  | some H'=>some (.val undefA,H')
  | none=>none
 | .nilChk x=>vv H (aNilChk (ev T x))
 | .bin op x y=>vv H (aBin op (ev T x) (ev T y))
 | .un op x=>vv H (aUn op (ev T x))
 | .conv k x=>vv H (aConv k (ev T x))
 | .convSB x=>vh (aSB H (ev T x))
 | .convBS x=>vv H (aBS H (ev T x))
 | .mkFunc fn a b=>some (.val (.func fn (evs T a) (evs T b)),H)
 | .mkIface t x=>some (.val (.iface t (ev T x)),H)
 | .mkSlice b z l c=>vh (aMake b z H (ev T l) (ev T c))
 | .sl n x lo hi mx=>vv H (aSl n (ev T x) (evO T lo) (evO T hi) (evO T mx))
 | .slStr x lo hi=>vv H (aSlStr (ev T x) (evO T lo) (evO T hi))
 | .fieldA o x=>vv H (aField o (ev T x))
 | .field a n o x=>vv H (aFieldV a n o (ev T x))
 | .idxA n x i=>vv H (aIdxA n (ev T x) (ev T i))
 | .idxArr m n x i=>vv H (aIdxArr m n (ev T x) (ev T i))
 | .idx m n a x i=>vv H (aIdx m n a (ev T x) (ev T i))
 | .idxS x i=>vv H (aIdxS (ev T x) (ev T i))
 | .extract i x=>vv H (aExtract i (ev T x))
 | .append n b s x=>vh (aAppend n b H (ev T s) (ev T x))
 | .len s x=>vv H (aLenK s (ev T x))
 | .call f args=>bif tb f then some (.enter f (evs T args),H) else none
 | .callv f args=>match ev T f with
  | .func (.func f) a b=>bif Nat.blt f BIG&&tb f then some (.enter f (a++evs T args++b),H) else none
  | _=>none
 | .pf f xs=>vv H (aPf f (evs T xs))
 | .hf f xs=>vh (aHf f H (evs T xs))
 | .bad=>none
 | .claim b z s=>vv H (aClaim H b z s)
 | .slA m n x lo hi mx=>vv H (aSlArr m n (ev T x) (evO T lo) (evO T hi) (evO T mx))
section
variable (P:Program)
def cOpd:Operand→Option Opd
 | .tmp t=>some (.t t)
 | .const v=>match absC v with
  | some x=>some (.c x)
  | none=>none
 | .global _=>none
 | .func f=>some (.f f)
def cOpds:List Operand→Option (List Opd)
 | []=>some []
 | x::r=>match cOpd x,cOpds r with
  | some y,some l=>some (y::l)
  | _,_=>none
def cOpdO:Option Operand→Option (Option Opd)
 | none=>some none
 | some x=>match cOpd x with
  | some y=>some (some y)
  | none=>none
def cParts(place:Nat→Option (Nat×Nat)):List (Nat×Operand)→Option (List (Nat×Nat×Opd))
 | []=>some []
 | (i,x)::r=>match place i,cOpd x,cParts place r with
  | some (o,n),some y,some l=>some ((o,n,y)::l)
  | _,_,_=>none
def hasBody(f:FuncId):Bool:=
 Nat.blt f BIG&&match P.funcs[f]? with
 | some fn => fn.body.isSome && !(fn.name == "runtime.NumGoroutine")
 | none=>false
def isTail(t:TypeId):Bool:=
 match P.underlying t with
 | some (.slice _)=>true
 | some .string=>true
 | _=>false
def cCall(c:Call):Option AOp:=
 match c.callee with
 | .value (.func f)=>bif Nat.blt f BIG then match cOpds c.args.toList with
   | some l=>some (.call f l)
   | none=>none
  else none
 | .value x=>match cOpd x,cOpds c.args.toList with
  | some y,some l=>some (.callv y l)
  | _,_=>none
 | .builtin .append=>match c.argTypes.toList,cOpds c.args.toList with
  | [sT,xT],some [s,x]=>match P.underlying sT with
   | some (.slice e)=>match tyOf P e,elemOf P e with
    | some (_,n),some (n',b)=>bif Nat.beq n n'&&isTail P xT then some (.append n b s x) else none
    | _,_=>none
   | _=>none
  | _,_=>none
 | .builtin .len=>match c.argTypes.toList,cOpds c.args.toList with
  | [T],some [x]=>match P.underlying T with
   | some (.slice _)=>some (.len false x)
   | some .string=>some (.len true x)
   | _=>none
  | _,_=>none
 | _=>none
def cOp0(o:Op):Option AOp:=
 match o with
 | .move x=>match cOpd x with | some y=>some (.mv y) | none=>none
 | .assign x=>match cOpd x with | some y=>some (.mv y) | none=>none
 | .pick c a b=>match cOpd c,cOpd a,cOpd b with | some c,some a,some b=>some (.pick c a b) | _,_,_=>none
 | .alloc e=>match zeroOf P e with | some z=>some (.new z) | none=>none
 | .box _ x=>match cOpd x with | some y=>some (.box y) | none=>none
 | .build t ps=>match P.underlying t,zeroOf P t with
  | some (.struct fs),some z=>match placesOf P fs.toList with
   | some pl=>match cParts (fun i=>pl[i]?) ps.toList with
    | some l=>some (.build z l)
    | none=>none
   | none=>none
  | some (.array _ e),some z=>match tyOf P e with
   | some (_,n)=>match cParts (fun i=>some (i*n,n)) ps.toList with
    | some l=>some (.build z l)
    | none=>none
   | none=>none
  | _,_=>none
 | .buildSlice t len ps=>match P.underlying t with
  | some (.slice e)=>match tyOf P e,zeroOf P e with
   | some (_,n),some z=>match cParts (fun i=>some (i*n,n)) ps.toList with
    | some l=>bif Nat.beq z.length n&&Nat.ble (len*n) 16777216 then some (.buildSl len z l) else none
    | none=>none
   | _,_=>none
  | _=>none
 | .load t a=>match tyOf P t,cOpd a with | some (g,n),some y=>some (.load g n y) | _,_=>none
 | .store t a x=>match tyOf P t,cOpd a,cOpd x with | some (_,n),some a,some y=>some (.store n a y) | _,_,_=>none
 | .nilCheck x=>match cOpd x with | some y=>some (.nilChk y) | none=>none
 | .binOp op _ x y _=>match cOpd x,cOpd y with | some a,some b=>some (.bin op a b) | _,_=>none
 | .unOp op _ x=>match cOpd x with | some y=>some (.un op y) | none=>none
 | .convert s d x=>match cOpd x with
  | some y=>match P.underlying s,P.underlying d with
   | some _,some (.int k)=>some (.conv k y)
   | some .string,some (.slice e)=>match P.underlying e with
    | some (.int .u8)=>some (.convSB y)
    | _=>none
   | some (.slice e),some .string=>match P.underlying e with
    | some (.int .u8)=>some (.convBS y)
    | _=>none
   | _,_=>none
  | none=>none
 | .makeInterface t x=>match cOpd x,P.underlying t with
  | some _,some (.interface _)=>none
  | some y,some _=>some (.mkIface t y)
  | _,_=>none
 | .makeFunc fn a b=>match cOpds a.toList,cOpds b.toList with | some a,some b=>some (.mkFunc fn a b) | _,_=>none
 | .makeSlice t l c=>match P.underlying t with
  | some (.slice e)=>match elemOf P e,zeroOf P e,cOpd l,cOpd c with
   | some (_,b),some z,some l,some c=>some (.mkSlice b z l c)
   | _,_,_,_=>none
  | _=>none
 | .slice t x lo hi mx=>match P.underlying t,cOpd x,cOpdO lo,cOpdO hi,cOpdO mx with
  | some .string,some x,some lo,some hi,some none=>some (.slStr x lo hi)
  | some (.slice e),some x,some lo,some hi,some mx=>match tyOf P e with
   | some (_,n)=>some (.sl n x lo hi mx)
   | none=>none
  | _,_,_,_,_=>none
 | .fieldAddr s x i=>match P.underlying s,cOpd x with
  | some (.struct fs),some y=>match fs[i]? with
   | some f=>match tyOf P f.type with
    | some (_,n)=>bif Nat.beq n 0 then none else some (.fieldA f.offset y)
    | none=>none
   | none=>none
  | _,_=>none
 | .field s x i=>match P.underlying s,cOpd x with
  | some (.struct fs),some y=>match fs[i]? with
   | some f=>match tyOf P f.type with
    | some (g,n)=>some (.field g n f.offset y)
    | none=>none
   | none=>none
  | _,_=>none
 | .indexAddr t x i=>match P.underlying t,cOpd x,cOpd i with
  | some (.slice e),some x,some i=>match tyOf P e with
   | some (_,n)=>some (.idxA n x i)
   | none=>none
  | some (.array m e),some x,some i=>match tyOf P e with
   | some (_,n)=>some (.idxArr m n x i)
   | none=>none
  | _,_,_=>none
 | .index t x i=>match P.underlying t,cOpd x,cOpd i with
  | some .string,some x,some i=>some (.idxS x i)
  | some (.array m e),some x,some i=>match tyOf P e with
   | some (g,n)=>some (.idx m n g x i)
   | none=>none
  | _,_,_=>none
 | .extract x i=>match cOpd x with | some y=>some (.extract i y) | none=>none
 | .call c=>cCall P c
 | _=>none
def cOpX(o:Op):Option AOp:=
 match o with
 | .binOp .eql t x y _=>match cOpd x,cOpd y with
  | some a,some b=>match eqKOf P t x y with
   | some k=>some (.pf (.eqv false k) [a,b])
   | none=>match eqSXOf P t with
    | some fs=>some (.pf (.eqS false fs) [a,b])
    | none=>none
  | _,_=>none
 | .binOp .neq t x y _=>match cOpd x,cOpd y with
  | some a,some b=>match eqKOf P t x y with
   | some k=>some (.pf (.eqv true k) [a,b])
   | none=>match eqSXOf P t with
    | some fs=>some (.pf (.eqS true fs) [a,b])
    | none=>none
  | _,_=>none
 | .range t x=>match P.underlying t,cOpd x with
  | some .string,some y=>some (.hf .strRange [y])
  | _,_=>none
 | .next x true=>match cOpd x with
  | some y=>some (.hf .strNext [y])
  | none=>none
 | .slice t x lo hi mx=>match P.underlying t,cOpd x,cOpdO lo,cOpdO hi,cOpdO mx with
  | some (.array m e),some x,some lo,some hi,some mx=>match tyOf P e with
   | some (_,n)=>some (.slA m n x lo hi mx)
   | none=>none
  | _,_,_,_,_=>none
 | .convert s d x=>bif Nat.beq s d then (match P.underlying s,cOpd x with
  | some (.slice e),some y=>match P.underlying e with
   | some (.int .u8)=>some (.hf .mark [y])
   | _=>none
  | _,_=>none) else none
 | .call c=>match c.callee with
  | .builtin .max=>match cOpds c.args.toList with
   | some l=>some (.pf (.mm true) l)
   | none=>none
  | .builtin .clear=>match c.argTypes.toList,cOpds c.args.toList with
   | [t],some [x]=>match P.underlying t with
    | some (.slice e)=>match zeroOf P e with
     | some z=>some (.hf (.clr z) [x])
     | none=>none
    | _=>none
   | _,_=>none
  | .builtin .delete=>match c.argTypes.toList,cOpds c.args.toList with
   | [t,_],some [m,k]=>match P.underlying t with
    | some (.map kt _)=>match pkOf P kt with
     | some ks=>some (.hf (.pDel ks) [m,k])
     | none=>none
    | _=>none
   | _,_=>none
  | .builtin .copy=>match c.argTypes.toList,cOpds c.args.toList with
   | [t,_],some [s,x]=>match P.underlying t with
    | some (.slice e)=>match tyOf P e with
     | some (_,n)=>some (.hf (.cpy n) [s,x])
     | none=>none
    | _=>none
   | _,_=>none
  | .builtin .min=>match cOpds c.args.toList with
   | some l=>some (.pf (.mm false) l)
   | none=>none
  | .value (.func f)=>bif isIbs P f then match cOpds c.args.toList with
    | some l=>some (.pf .ibs l)
    | none=>none
   else bif isCbs P f then match cOpds c.args.toList with
    | some l=>some (.pf .cbs l)
    | none=>none
   else none
  | _=>none
 | .indexAddr t (.global g) i=>match P.underlying t,cOpd i with
  | some (.array m e),some i=>match tyOf P e with
   | some (_,n)=>some (.hf (.gIdx g m n) [i])
   | none=>none
  | _,_=>none
 | .load t (.global g)=>match tyOf P t with
  | some (a,n)=>some (.hf (.gLd g a n) [])
  | none=>none
 | .fieldAddr s (.global g) i=>match P.underlying s with
  | some (.struct fs)=>match fs[i]? with
   | some f=>match tyOf P f.type with
    | some (_,n)=>bif Nat.beq n 0 then none else some (.hf (.gFld g f.offset) [])
    | none=>none
   | none=>none
  | _=>none
 | .sliceToArrayPointer t x=>match P.underlying t,cOpd x with
  | some (.array n _),some y=>some (.pf (.s2a n) [y])
  | _,_=>none
 | .makeMap _ none=>some (.hf .mkMap [])
 | .lookup t m k ok=>match P.underlying t,cOpd m,cOpd k with
  | some (.map kt el),some m,some k=>match kcOf P kt,zeroA P el with
   | some kc,some z=>some (.hf (.mLook kc ok z) [m,k])
   | none,some z=>match pkOf P kt with
    | some ks=>some (.hf (.pLook ks ok z) [m,k])
    | none=>none
   | _,_=>none
  | _,_,_=>none
 | .mapEntry t m k=>match P.underlying t,cOpd m,cOpd k with
  | some (.map kt el),some m,some k=>match kcOf P kt,zeroA P el with
   | some kc,some z=>some (.hf (.mf (.entry kc z)) [m,k])
   | _,_=>none
  | _,_,_=>none
 | .entryStore _ m n x=>match cOpd m,cOpd n,cOpd x with
  | some m,some n,some x=>some (.hf (.mf .store) [m,n,x])
  | _,_,_=>none
 | .mapUpdate t m k x=>match P.underlying t,cOpd m,cOpd k,cOpd x with
  | some (.map kt _),some m,some k,some x=>match kcOf P kt with
   | some kc=>some (.hf (.mf (.upd kc)) [m,k,x])
   | none=>match pkOf P kt with
    | some ks=>some (.hf (.pUpd ks) [m,k,x])
    | none=>none
  | _,_,_,_=>none
 | .insert t m k x=>match P.underlying t,cOpd m,cOpd k,cOpd x with
  | some (.map kt _),some m,some k,some x=>match kcOf P kt with
   | some kc=>some (.hf (.mf (.upd kc)) [m,k,x])
   | none=>none
  | _,_,_,_=>none
 | .typeAssert x _ t ok=>match P.underlying t,zeroA P t,cOpd x with
  | some (.interface _),_,_=>none
  | some _,some z,some y=>some (.pf (.tAss t ok z) [y])
  | _,_,_=>none
 | _=>none
def cOp(o:Op):Option AOp:=
 match cOpX P o with
 | some a=>some a
 | none=>match cOp0 P o with
  | some a=>some a
  | none=>some .bad
end
section
variable {P:Program} {Prot:Gh} {w0:World} {ρ:Pl} {H H':AHeap} {w:World}
structure TmpsRel(ρ:Pl)(n:Nat)(T:Tr AVal)(tmps:Array Value):Prop where
 size:tmps.size=n
 at_:∀t,VRel ρ (ev T (.t t)) (tmps.getD t undef)
theorem TmpsRel.mono{ρ ρ':Pl}{n:Nat}{T:Tr AVal}{tmps:Array Value}(h:ρ.le ρ')(t:TmpsRel ρ n T tmps):TmpsRel ρ' n T tmps:=⟨t.size,fun i=>VRel.mono h _ _ (t.at_ i)⟩
theorem opd_ok{n:Nat}{T:Tr AVal}{a:Act}(h:TmpsRel ρ n T a.tmps){x:Operand}{y:Opd}(hc:cOpd x=some y):VRel ρ (ev T y) (a.eval x):=by
 cases x with
 | tmp t=>simp only[cOpd,sJ]at hc; subst hc; exact h.at_ t
 | const v=>
  simp only[cOpd]at hc
  split at hc
  ·rename_i x hx
   simp only[sJ]at hc
   subst hc
   exact absC_ok hx
  ·simp at hc
 | global g=>simp[cOpd]at hc
 | func f=>
  simp only[cOpd,sJ]at hc
  subst hc
  simp only[ev,Act.eval,VRel]
  exact⟨#[],#[],rfl,by simp[VRels],by simp[VRels]⟩
theorem opds_ok{n:Nat}{T:Tr AVal}{a:Act}(h:TmpsRel ρ n T a.tmps):∀{l:List Operand} {m:List Opd},cOpds l=some m→VRels ρ (evs T m) (l.map a.eval):=by
 intro l
 induction l with
 | nil=>intro m hc; simp only[cOpds,sJ]at hc; subst hc; simp[evs,VRels]
 | cons x r ih=>
  intro m hc
  simp only[cOpds]at hc
  split at hc
  ·rename_i y l' h1 h2
   simp only[sJ]at hc
   subst hc
   simp only[evs,List.map_cons,VRels]
   exact⟨_,_,rfl,opd_ok h h1,ih h2⟩
  ·simp at hc
theorem opdO_ok{n:Nat}{T:Tr AVal}{a:Act}(h:TmpsRel ρ n T a.tmps){x:Option Operand}{y:Option Opd}(hc:cOpdO x=some y):ORelV ρ (evO T y) (x.map a.eval):=by
 cases x with
 | none=>simp only[cOpdO,sJ]at hc; subst hc; rfl
 | some x=>
  simp only[cOpdO]at hc
  split at hc
  ·rename_i z hz
   simp only[sJ]at hc
   subst hc
   exact⟨_,rfl,opd_ok h hz⟩
  ·simp at hc
theorem parts_ok{n:Nat}{T:Tr AVal}{a:Act}(h:TmpsRel ρ n T a.tmps){place:Nat→Option (Nat×Nat)}:∀{l:List (Nat×Operand)} {m:List (Nat×Nat×Opd)},cParts place l=some m →
  PartsRel ρ place (evP T m) (l.map fun p=>(p.1,a.eval p.2)):=by
 intro l
 induction l with
 | nil=>intro m hc; simp only[cParts,sJ]at hc; subst hc; simp[evP,PartsRel]
 | cons x r ih=>
  intro m hc
  obtain⟨i,x⟩:=x
  simp only[cParts]at hc
  split at hc
  ·rename_i o k y l' h1 h2 h3
   simp only[sJ]at hc
   subst hc
   simp only[evP,List.map_cons,PartsRel]
   exact⟨_,_,_,rfl,h1,opd_ok h h2,ih h3⟩
  ·simp at hc
def NxRel(P:Program)(ρ:Pl):Nx→Next→Prop
 | .val x,.value v=>VRel ρ x v
 | .val x,.skip=>VRel ρ x undef
 | .enter f l,.enter g vs=>g=f∧Nat.blt f BIG=true∧VRels ρ l vs.toList
 | _,_=>False
def OpSim(P:Program)(Prot:Gh)(w0:World)(ρ:Pl)(w:World)(s:Sem Next)(nx:Nx)(H':AHeap):Prop:=
 ∃ρ' w' n,ρ.le ρ'∧s.run P w=.ok n w'∧Rel Prot w0 ρ' H' w'∧NxRel P ρ' nx n
theorem OpSim.val(R:Rel Prot w0 ρ H w){x:AVal}{s:Sem Value}(h:∃u,s.run P w=.ok u w∧VRel ρ x u):OpSim P Prot w0 ρ w (do pure (.value (← s))) (.val x) H:=by
 obtain⟨u,h1,h2⟩:=h
 exact⟨ρ,w,.value u,Pl.le_refl _,by simp only[Sem.run_bind,h1,Result.andThen_ok]; rfl,R,h2⟩
theorem OpSim.good{x:AVal}{s:Sem Value}(h:GoodV P Prot w0 ρ w s x H'):OpSim P Prot w0 ρ w (do pure (.value (← s))) (.val x) H':=by
 obtain⟨ρ',w',u,h1,h2,h3,h4⟩:=h
 exact⟨ρ',w',.value u,h1,by simp only[Sem.run_bind,h2,Result.andThen_ok]; rfl,h3,h4⟩
theorem vv_spec{x:Option AVal}{nx:Nx}(h:vv H x=some (nx,H')):∃y,x=some y∧nx=.val y∧H'=H:=by
 unfold vv at h
 split at h
 ·simp only[sJ,pJ]at h; exact⟨_,rfl,h.1.symm,h.2.symm⟩
 ·simp at h
theorem vh_spec{x:Option (AVal×AHeap)}{nx:Nx}(h:vh x=some (nx,H')):∃y,x=some (y,H')∧nx=.val y:=by
 unfold vh at h
 split at h
 ·simp only[sJ,pJ]at h; obtain⟨rfl,rfl⟩:=h; exact⟨_,rfl,rfl⟩
 ·simp at h
theorem nilChk_ok(R:Rel Prot w0 ρ H w){x y:AVal}{v:Value}(hx:VRel ρ x v)(h:aNilChk x=some y)(o:Oper){q:Operand}(ev':Operand→Value)(hv:ev' q=v) :
  OpSim P Prot w0 ρ w (execOp ev' { o with op:=.nilCheck q }) (.val y) H:=by
 have hy:y=x∧(∀b,execOp ev' { o with op:=.nilCheck q }=pure (.value v)∨b=true):=by
  cases x with
  | val a=>simp[aNilChk]at h
  | ptr a=>
   cases a with
   | none=>simp[aNilChk]at h
   | some a=>
    simp only[aNilChk,sJ]at h
    simp only[VRel]at hx
    obtain⟨L,_,_,rfl⟩:=hx
    exact⟨h.symm,fun _=>.inl (by simp[execOp,hv])⟩
  | nilIface=>simp[aNilChk]at h
  | nilFunc=>simp[aNilChk]at h
  | func fn a b=>
   cases fn <;> simp only[aNilChk,sJ,reduceCtorEq]at h
   all_goals
    simp only[VRel]at hx
    obtain⟨f,c,rfl,_⟩:=hx
    exact⟨h.symm,fun _=>.inl (by simp[execOp,hv])⟩
  | slice a n r=>
   simp only[aNilChk,sJ]at h
   have:∃b m c,v=.slice b m c:=by
    cases a with
    | none=>simp only[VRel]at hx; exact⟨_,_,_,hx.2.2⟩
    | some a=>obtain⟨_,_,_,_,_,h3,_⟩:=slice_off hx; exact⟨_,_,_,h3⟩
   obtain⟨b,m,c,rfl⟩:=this
   exact⟨h.symm,fun _=>.inl (by simp[execOp,hv])⟩
  | map a=>
   simp only[aNilChk,sJ]at h
   cases a with
   | none=>simp only[VRel]at hx; subst hx; exact⟨h.symm,fun _=>.inl (by simp[execOp,hv])⟩
   | some a=>simp only[VRel]at hx; obtain⟨L,_,rfl⟩:=hx; exact⟨h.symm,fun _=>.inl (by simp[execOp,hv])⟩
  | bool b=>simp only[aNilChk,sJ]at h; simp only[VRel]at hx; subst hx; exact⟨h.symm,fun _=>.inl (by simp[execOp,hv])⟩
  | int b c=>simp only[aNilChk,sJ]at h; simp only[VRel]at hx; subst hx; exact⟨h.symm,fun _=>.inl (by simp[execOp,hv])⟩
  | str b=>simp only[aNilChk,sJ]at h; simp only[VRel]at hx; subst hx; exact⟨h.symm,fun _=>.inl (by simp[execOp,hv])⟩
  | iface t b=>simp only[aNilChk,sJ]at h; simp only[VRel]at hx; obtain⟨_,rfl,_⟩:=hx; exact⟨h.symm,fun _=>.inl (by simp[execOp,hv])⟩
  | agg l=>simp only[aNilChk,sJ]at h; simp only[VRel]at hx; obtain⟨_,rfl,_⟩:=hx; exact⟨h.symm,fun _=>.inl (by simp[execOp,hv])⟩
  | tuple l=>simp only[aNilChk,sJ]at h; simp only[VRel]at hx; obtain⟨_,rfl,_⟩:=hx; exact⟨h.symm,fun _=>.inl (by simp[execOp,hv])⟩
 obtain⟨rfl,h2⟩:=hy
 rcases h2 false with h2 | h2
 ·exact⟨ρ,w,.value v,Pl.le_refl _,by rw[h2]; rfl,R,hx⟩
 ·simp at h2
end
end Go.Abs
