/- Part of a proof (A8f A8h A9); no condition. -/
import Derived.ChangeKeysEq
import Derived.Laws.Sem
import Derived.MapKept
import Derived.Carry
import Derived.Test.YteabnpheoiakdaaGreatP2
set_option linter.unusedSimpArgs false
set_option linter.unusedVariables false
set_option linter.unnecessarySimpa false
namespace Go.Abs
section
variable {P:Program} {Prot:Gh} {w0:World} {ρ:Pl} {H H':ae} {w:World}
def tz(P:Program)(t:TypeId):Option KC:=match P.underlying t with
 | some (.int _)=>some .int
 | some .string=>some .str
 | some (.array n e)=>match P.underlying e,ep P e with
  | some (.int _),some (false,1)=>some (.arr n)
  | _,_=>none
 | _=>none
def qp(P:Program)(t:TypeId):Option aa:=match P.info? t with
 | some i=>match i.zero with
  | some z=>LL z
  | none=>none
 | none=>none
theorem nX{t:TypeId}{x:aa}(h:qp P t=some x):∃z,(∀W,(zeroValue t).run P W=.ok z W)/\∀ρ,ah ρ x z:=by
 unfold qp at h
 split at h
 ·rename_i i hi
  split at h
  ·rename_i z hz
   exact⟨z,fun W=>by simp[zeroValue,run_typeInfo W hi,hz],fun ρ=>Ee h⟩
  ·simp at h
 ·simp at h
theorem CZ:∀{l m:List aa},zH l m=some true->∀{vs us:List Value},aq ρ l vs->aq ρ m us->vs=us
 | [],[],_,vs,us,hv,hu=>by
  simp only[aq]at hv hu
  subst hv hu; rfl
 | .int k a::l,.int k' c::m,h,vs,us,hv,hu=>by
  simp only[aq,ah]at hv hu
  obtain⟨v,r,rfl,rfl,hv⟩:=hv
  obtain⟨u,s,rfl,rfl,hu⟩:=hu
  simp only[zH]at h
  split at h
  ·rename_i hk
   subst hk
   rw[fD]at h
   by_cases e:a=c
   ·subst e
    simp only[beq_self_eq_true,cond_true]at h
    rw[CZ h hv hu]
   ·have:(a==c)=false:=by simpa using e
    rw[this]at h
    simp at h
  ·simp at h
theorem Ll{x y:aa}{b:Bool}(h:Bp .int x y=some b):∃k a c,x=.int k a/\y=.int k c/\b=(a==c):=by
 cases x <;> simp only[Bp,reduceCtorEq]at h
 rename_i k a
 cases y <;> simp only[Bp,reduceCtorEq]at h
 rename_i k' c
 split at h
 ·rename_i hk
  subst hk
  simp only[sJ]at h
  exact⟨k,a,c,rfl,rfl,by rw[<- h,fD]⟩
 ·simp at h
theorem Lj{x y:aa}{b:Bool}(h:Bp .str x y=some b):∃a c,x=.str a/\y=.str c/\b=(a==c):=by
 cases x <;> simp only[Bp,reduceCtorEq]at h
 rename_i a
 cases y <;> simp only[Bp,reduceCtorEq]at h
 rename_i c
 simp only[sJ]at h
 exact⟨a,c,rfl,rfl,h.symm⟩
theorem Lm{n:Nat}{x y:aa}{b:Bool}(h:Bp (.arr n) x y=some b):∃l m,x=.agg l/\y=.agg m/\l.length=n/\m.length=n/\zH l m=some b:=by
 cases x <;> simp only[Bp,reduceCtorEq]at h
 rename_i l
 cases y <;> simp only[Bp,reduceCtorEq]at h
 rename_i m
 cases hg:(Nat.beq l.length n&&Nat.beq m.length n) with
 | false=>rw[hg]at h; simp at h
 | true=>
  rw[hg]at h
  simp only[cond_true]at h
  simp only[SE]at hg
  exact⟨l,m,rfl,rfl,SI hg.1,SI hg.2,h⟩
theorem zX{t:TypeId}{a:Bool}{n:Nat}(h:ep P t=some (a,n)):P.cellsOf t=n/\∃i,P.info? t=some i:=by
 unfold ep at h
 split at h <;> simp only[sJ,pJ,reduceCtorEq]at h
 all_goals
  rename_i hi
  exact⟨by simp[Program.cellsOf,hi,h.2],_,hi⟩
theorem BE{e:TypeId}{kk:IntKind}(he:P.underlying e=some (.int kk))(T:Ty P e false 1){L M:List aa}{xs ys:Array Value}(hL:aq ρ L xs.toList)(hM:aq ρ M ys.toList)(d:Nat) :
  ∀(k o:Nat) (b:Bool),L.length=o+k->M.length=o+k->zH (L.drop o) (M.drop o)=some b->(Op.eqItems (d+1) e 1 xs ys (List.range' o k)).run P w=.ok b w:=by
 intro k
 induction k with
 | zero=>
  intro o b h1 h2 h
  rw[List.drop_eq_nil_of_le om,List.drop_eq_nil_of_le om]at h
  simp only[zH,sJ]at h
  subst h
  simp[Op.eqItems]
 | succ k ih=>
  intro o b h1 h2 h
  have hl:o<L.length:=om
  have hm:o<M.length:=om
  rw[List.drop_eq_getElem_cons hl,List.drop_eq_getElem_cons hm]at h
  have gl:L[o]?=some L[o]:=SB hl
  have gm:M[o]?=some M[o]:=SB hm
  generalize L[o]=x at *
  generalize M[o]=y at *
  obtain⟨u,u1,u2⟩:=eW (P:=P) (w:=w) T hL (off:=o) (y:=x) (by simpa[hJ] using gl)
  obtain⟨v,v1,v2⟩:=eW (P:=P) (w:=w) T hM (off:=o) (y:=y) (by simpa[hJ] using gm)
  unfold zH at h
  split at h
  ·rename_i heq _; simp at heq
  ·rename_i k1 a l k2 c m e1 e2
   simp only[List.cons.injEq]at e1 e2
   obtain⟨rfl,rfl⟩:=e1
   obtain⟨rfl,rfl⟩:=e2
   simp only[ah]at u2 v2
   subst u2 v2
   split at h
   ·rename_i hk
    subst hk
    rw[fD]at h
    rw[List.range'_succ]
    simp only[Op.eqItems,Nat.mul_one,Sem.run_bind,u1,v1,Result.andThen_ok]
    have hq:(Op.equalIn (d+1) e (.int k1 a) (.int k1 c)).run P w=.ok (a==c) w:=by
     simp[Op.equalIn,run_underlying he]
    rw[hq]
    cases hac:(a==c) with
    | true=>
     rw[hac]at h
     simp only[Result.andThen_ok,Bool.not_true,SO,if_false]
     exact ih (o+1) b om om h
    | false=>
     rw[hac]at h
     simp only[cond_false,sJ]at h
     subst h
     simp
   ·simp at h
  ·simp at h
def iV(ρ:Pl)(v:Value)(es:List ip)(ES:List MapEntry)(i:Nat):Option (Nat×ip)->Option (Nat×Value)->Prop
 | none,r=>r=none
 | some (j,e),r=>i<=j/\∃E,r=some (j,E.val)/\es[j-i]?=some e/\ES[j-i]?=some E/\lX ρ e E/\E.key=v
theorem iV.step{v:Value}{e:ip}{es:List ip}{E:MapEntry}{ES:List MapEntry}{i:Nat}{r:Option (Nat×ip)}{r':Option (Nat×Value)}(h:iV ρ v es ES (i+1) r r'):iV ρ v (e::es) (E::ES) i r r':=by
 cases r with
 | none=>exact h
 | some p=>
  obtain⟨j,x⟩:=p
  obtain⟨h1,E',h2,h3,h4,h5⟩:=h
  refine⟨om,E',h2,?_,?_,h5⟩
  ·rw[show j-i=(j-(i+1))+1 by omega]; simpa using h3
  ·rw[show j-i=(j-(i+1))+1 by omega]; simpa using h4
theorem HV{kc:KC}{d:TypeDesc}(hd:(kc=.int/\∃k,d=.int k)∨(kc=.str/\d=.string)){x:aa}{v:Value}(hx:ah ρ x v):∀(es:List ip) (ES:List MapEntry) (i:Nat) (r:Option (Nat×ip)),aC ρ es ES->gj kc x es i=some r ->
  ∃r',Instr.findNow d v ES i=some r'/\iV ρ v es ES i r r':=by
 intro es
 induction es with
 | nil=>
  intro ES i r hE h
  simp only[gj,sJ]at h
  simp only[aC]at hE
  subst h hE
  exact⟨none,rfl,rfl⟩
 | cons e es ih=>
  intro ES i r hE h
  simp only[aC]at hE
  obtain⟨E,ES',rfl,hEE,hE⟩:=hE
  obtain⟨he1,he2,he3⟩:=hEE
  have key:∀b,Bp kc x e.1=some b->Instr.sameNow d v E.key=some b/\(b=true->E.key=v):=by
   intro b hb
   rcases hd with⟨rfl,k,rfl⟩ | ⟨rfl,rfl⟩
   ·obtain⟨k1,a,c,hx1,hx2,rfl⟩:=Ll hb
    rw[hx1]at hx
    rw[hx2]at he1
    simp only[ah]at hx he1
    rw[hx,he1]
    refine⟨by simp[Instr.sameNow],fun ht=>?_⟩
    have:a=c:=by simpa using ht
    rw[this]
   ·obtain⟨a,c,hx1,hx2,rfl⟩:=Lj hb
    rw[hx1]at hx
    rw[hx2]at he1
    simp only[ah]at hx he1
    rw[hx,he1]
    have hs:(aP a==aP c)=(a==c):=by
     rw[Bool.eq_iff_iff,MapKept.bytes_beq]
     simp only[beq_iff_eq]
     exact⟨fun q=>by simpa[aP] using congrArg (fun s:ByteArray=>s.data.toList) q,fun q=>by rw[q]⟩
    refine⟨by simp only[Instr.sameNow,hs],fun ht=>?_⟩
    have:a=c:=by simpa using ht
    rw[this]
  simp only[gj]at h
  split at h
  ·rename_i hb
   simp only[sJ]at h
   subst h
   obtain⟨k1,k2⟩:=key _ hb
   exact⟨some (i,E.val),by simp[Instr.findNow,k1],Nat.le_refl _,E,rfl,by simp,by simp,⟨he1,he2,he3⟩,k2 rfl⟩
  ·rename_i hb
   obtain⟨k1,k2⟩:=key _ hb
   obtain⟨r',q1,q2⟩:=ih ES' (i+1) r hE h
   exact⟨r',by simp[Instr.findNow,k1,q1],q2.step⟩
  ·simp at h
theorem FZ{kt e:TypeId}{n:Nat}{kk:IntKind}(hu:P.underlying kt=some (.array n e))(he:P.underlying e=some (.int kk))(hT:ep P e=some (false,1)){x:aa}{v:Value}(hx:ah ρ x v):∀(es:List ip) (ES:List MapEntry) (i:Nat) (r:Option (Nat×ip)),aC ρ es ES->gj (.arr n) x es i=some r ->
  ∃r',(Instr.findAsking kt v ES i).run P w=.ok r' w/\iV ρ v es ES i r r':=by
 intro es
 induction es with
 | nil=>
  intro ES i r hE h
  simp only[gj,sJ]at h
  simp only[aC]at hE
  subst h hE
  exact⟨none,rfl,rfl⟩
 | cons e0 es ih=>
  intro ES i r hE h
  simp only[aC]at hE
  obtain⟨E,ES',rfl,hEE,hE⟩:=hE
  obtain⟨he1,he2,he3⟩:=hEE
  have key:∀b,Bp (.arr n) x e0.1=some b->(Op.equal kt v E.key).run P w=.ok b w/\(b=true->E.key=v):=by
   intro b hb
   obtain⟨l,m,hx1,hx2,h1,h2,hb⟩:=Lm hb
   rw[hx1]at hx
   rw[hx2]at he1
   simp only[ah]at hx he1
   obtain⟨xs,rfl,hxs⟩:=hx
   obtain⟨ys,hy,hys⟩:=he1
   obtain⟨hc1,i0,hi0⟩:=zX hT
   rw[hy]
   constructor
   ·show (Op.equalIn (9998+1+1) kt (.agg xs) (.agg ys)).run P w=_
    rw[run_equalIn_array w (9998+1) xs ys hu hi0,hc1,List.range_eq_range']
    exact BE he (dl hT) hxs hys 9998 n 0 b om om (by simpa using hb)
   ·intro ht
    subst ht
    rw[Array.toList_inj.1 (CZ hb hxs hys)]
  simp only[gj]at h
  split at h
  ·rename_i hb
   simp only[sJ]at h
   subst h
   obtain⟨k1,k2⟩:=key _ hb
   exact⟨some (i,E.val),by simp[Instr.findAsking,k1],Nat.le_refl _,E,rfl,by simp,by simp,⟨he1,he2,he3⟩,k2 rfl⟩
  ·rename_i hb
   obtain⟨k1,k2⟩:=key _ hb
   obtain⟨r',q1,q2⟩:=ih ES' (i+1) r hE h
   exact⟨r',by simp[Instr.findAsking,k1,q1],q2.step⟩
  ·simp at h
theorem tx{kt:TypeId}{kc:KC}(h:tz P kt=some kc):(∃k,kc=.int/\P.underlying kt=some (.int k))∨(kc=.str/\P.underlying kt=some .string)∨∃n e kk,kc=.arr n/\P.underlying kt=some (.array n e)/\P.underlying e=some (.int kk)/\ep P e=some (false,1):=by
 unfold tz at h
 split at h
 ·rename_i k hu
  simp only[sJ]at h
  exact .inl ⟨k,h.symm,hu⟩
 ·rename_i hu
  simp only[sJ]at h
  exact .inr (.inl ⟨h.symm,hu⟩)
 ·rename_i n e hu
  split at h
  ·rename_i kk he hT
   simp only[sJ]at h
   exact .inr (.inr ⟨n,e,kk,h.symm,hu,he,hT⟩)
  ·simp at h
 ·simp at h
theorem fC{kt:TypeId}{kc:KC}(hk:tz P kt=some kc){x:aa}{v:Value}(hx:ah ρ x v){es:List ip}{ES:List MapEntry}{r:Option (Nat×ip)}(hE:aC ρ es ES)(h:gj kc x es 0=some r) :
  ∃r',(Instr.findKey kt v ES).run P w=.ok r' w/\iV ρ v es ES 0 r r':=by
 rcases tx hk with⟨k,rfl,hu⟩ | ⟨rfl,hu⟩ | ⟨n,e,kk,rfl,hu,he,hT⟩
 ·obtain⟨r',q1,q2⟩:=HV (d:=.int k) (.inl ⟨rfl,k,rfl⟩) hx es ES 0 r hE h
  exact⟨r',by simp[Instr.findKey,run_underlying hu,q1],q2⟩
 ·obtain⟨r',q1,q2⟩:=HV (d:=.string) (.inr ⟨rfl,rfl⟩) hx es ES 0 r hE h
  exact⟨r',by simp[Instr.findKey,run_underlying hu,q1],q2⟩
 ·cases es with
  | nil=>
   simp only[gj,sJ]at h
   simp only[aC]at hE
   subst h hE
   exact⟨none,by simp[Instr.findKey,run_underlying hu,Instr.findNow],rfl⟩
  | cons e0 es=>
   obtain⟨r',q1,q2⟩:=FZ (w:=w) hu he hT hx (e0::es) ES 0 r hE h
   refine⟨r',?_,q2⟩
   simp only[aC]at hE
   obtain⟨E,ES',rfl,_,_⟩:=hE
   have hn:Instr.findNow (.array n e) v (E::ES') 0=none:=by
    unfold Instr.findNow
    have:Instr.sameNow (.array n e) v E.key=none:=by
     cases v <;> cases E.key <;> rfl
    rw[this]
   simp[Instr.findKey,run_underlying hu,hn,q1]
theorem zK:∀{l:List aa},Ln l=true->∀x∈l,∃k n,x=.int k n
 | [],_,x,hx=>by simp at hx
 | .int k n::l,h,x,hx=>by
  rcases List.mem_cons.1 hx with rfl | hx
  ·exact⟨_,_,rfl⟩
  ·exact zK (l:=l) h x hx
theorem BO{t:TypeId}{k:IntKind}(hu:P.underlying t=some (.int k))(em:Bool)(d:Nat)(x:Value):(Instr.checkKey em (d+1) t x).run P w=.ok () w:=by
 simp[Instr.checkKey,run_underlying hu]
theorem N6{t:TypeId}(hu:P.underlying t=some .string)(em:Bool)(d:Nat)(x:Value):(Instr.checkKey em (d+1) t x).run P w=.ok () w:=by
 simp[Instr.checkKey,run_underlying hu]
theorem eP{kt:TypeId}{kc:KC}(hk:tz P kt=some kc){x:aa}{v:Value}(hx:ah ρ x v)(hi:xM kc x=true)(em:Bool):(Instr.checkKey em 10000 kt v).run P w=.ok () w:=by
 rcases tx hk with⟨k,rfl,hu⟩ | ⟨rfl,hu⟩ | ⟨n,e,kk,rfl,hu,he,hT⟩
 ·cases x <;> simp only[xM,SO]at hi
  simp only[ah]at hx; subst hx
  exact BO hu em 9999 _
 ·cases x <;> simp only[xM,SO]at hi
  simp only[ah]at hx; subst hx
  exact N6 hu em 9999 _
 ·cases x <;> simp only[xM,SO]at hi
  rename_i l
  simp only[SE]at hi
  have hl:=SI hi.1
  have hint:=zK hi.2
  simp only[ah]at hx
  obtain⟨xs,rfl,hxs⟩:=hx
  show (Instr.checkKey em (9998+1+1) kt _).run P w=_
  rw[Instr.checkKey]
  simp only[Sem.run_bind,run_underlying hu,Result.andThen_ok]
  simp only[Std.Legacy.Range.forIn_eq_forIn_range',Std.Legacy.Range.size,Nat.sub_zero,Nat.add_one_sub_one,Nat.div_one]
  have hT':=dl hT
  have key:∀(k o:Nat),o+k=n->((forIn (List.range' o k) PUnit.unit fun i _=>do
    let a <- sizeOf e
    let b <- part e xs (i*a)
    Instr.checkKey em (9998+1) e b
    pure (ForInStep.yield PUnit.unit)):Sem PUnit).run P w=.ok PUnit.unit w:=by
   intro k
   induction k with
   | zero=>intro o _; simp
   | succ k ih=>
    intro o ho
    have hlt:o<l.length:=om
    have gl:l[o]?=some l[o]:=SB hlt
    obtain⟨k1,a,hxa⟩:=hint l[o] (List.getElem_mem hlt)
    obtain⟨u,u1,u2⟩:=eW (P:=P) (w:=w) hT' hxs (off:=o) (y:=l[o]) (by simpa[hJ] using gl)
    rw[hxa]at u2
    simp only[ah]at u2
    subst u2
    have hc:(Instr.checkKey em (9998+1) e (.int k1 a)).run P w=.ok () w:=BO he em 9998 _
    rw[List.range'_succ]
    simp only[List.forIn_cons,Sem.run_bind,hT'.size,Nat.mul_one,Result.andThen_ok,u1,hc,Sem.run_pure]
    exact ih (o+1) om
  rw[key n 0 om]
  rfl
theorem aC.append:∀{es fs:List ip} {ES FS:List MapEntry},aC ρ es ES->aC ρ fs FS->aC ρ (es++fs) (ES++FS)
 | [],_,_,_,h,h'=>by simp only[aC]at h; subst h; simpa using h'
 | x::l,fs,ES,FS,h,h'=>by
  simp only[aC]at h
  obtain⟨e,r,rfl,h1,h2⟩:=h
  simp only[SX,aC]
  exact⟨e,r++FS,rfl,h1,aC.append h2 h'⟩
theorem aC.set:∀{es:List ip} {ES:List MapEntry} (i:Nat) {e':ip} {E':MapEntry},aC ρ es ES->lX ρ e' E'->aC ρ (nB es i e') (ES.set i E')
 | [],_,_,_,_,h,_=>by simp only[aC]at h; subst h; simp[nB,aC]
 | x::l,ES,i,e',E',h,h'=>by
  simp only[aC]at h
  obtain⟨e,r,rfl,h1,h2⟩:=h
  cases i with
  | zero=>simp only[nB,List.set_cons_zero,aC]; exact⟨E',r,rfl,h',h2⟩
  | succ i=>simp only[nB,List.set_cons_succ,aC]; exact⟨e,_,rfl,h1,aC.set i h2 h'⟩
theorem j5{ES:Array MapEntry}{i:Nat}{E:MapEntry}(h:ES[i]?=some E)(f:MapEntry->MapEntry):(ES.modify i f).toList=ES.toList.set i (f E):=by
 apply List.ext_getElem?
 intro j
 rw[Array.getElem?_toList,Array.getElem?_modify,List.getElem?_set]
 by_cases e:i=j
 ·subst e
  obtain⟨hlt,hE⟩:=Array.getElem?_eq_some_iff.1 h
  simp[h,hlt,hE]
 ·simp[e]
theorem nA(R:bF Prot w0 ρ H w){r:Nat}{mv:Value}(hx:ah ρ (.map (some r)) mv){es:List ip}{c:Nat}(hH:H.get r=some (.map es c)):∃L ES,ρ r 0=some L/\mv=.map (some L.c)/\w.heap[L.c]?=some (.map ES c)/\aC ρ es ES.toList:=by
 simp only[ah]at hx
 obtain⟨L,hL,rfl⟩:=hx
 obtain⟨x,o,g1,g2,g3⟩:=R.obj _ _ _ hL
 rw[hH]at g1
 simp only[sJ]at g1
 subst g1
 simp only[er]at g3
 obtain⟨_,ES,rfl,hE⟩:=g3
 exact⟨L,ES,hL,rfl,g2,hE⟩
theorem fX(R:bF Prot w0 ρ H w){r:Nat}{L:AL}(hL:ρ r 0=some L){es:List ip}{c:Nat}(hH:H.get r=some (.map es c)){es':List ip}{c':Nat}{ES':Array MapEntry}(hE:aC ρ es' ES'.toList) :
  bF Prot w0 ρ (H.set r (.map es' c')) { w with heap:=w.heap.setIfInBounds L.c (.map ES' c') }:=by
 have hlt:L.c<w.heap.size:=(R.dom _ _ _ hL).2
 refine R.turn (w':={ w with heap:=w.heap.setIfInBounds L.c (.map ES' c') }) (y:=.map es' c') hL hH rfl ⟨rfl,rfl,rfl,by simp,fun i hi=>by simp[Array.getElem?_setIfInBounds,Ne.symm hi]⟩ rfl fun l' L' h'=>?_
 obtain⟨x,o,k1,k2,k3⟩:=R.obj _ _ _ h'
 rw[hH]at k1
 simp only[sJ]at k1
 subst k1
 simp only[er]at k3
 obtain⟨rfl,_⟩:=k3
 rw[hL]at h'
 simp only[sJ]at h'
 subst h'
 exact⟨.map ES' c',by simp[hlt],by simp only[er]; exact⟨trivial,ES',rfl,hE⟩⟩
theorem HZ(R:bF Prot w0 ρ H w)(t:TypeId){y:aa}(h:B4 H []=some (y,H')):dG P Prot w0 ρ w (Instr.makeMap t none) y H':=by
 simp only[B4,sJ,pJ]at h
 obtain⟨rfl,rfl⟩:=h
 obtain⟨h1,h2⟩:=R.push' (w':=w.alloc (.map #[] 0)) rfl rfl rfl (Array.size_push _) (fun i hi=>by rw[World.alloc,Array.getElem?_push,if_neg (Nat.ne_of_lt hi)])
  (x:=.map [] 0) (o:=.map #[] 0) (lim:=0) (n:=0) (cl:=false) (by rw[World.alloc,Array.getElem?_push,if_pos rfl]) (by simp only[er]; exact⟨trivial,#[],rfl,by simp[aC]⟩) rfl
 refine⟨_,_,_,h1,RowKit.run_makeMap t w,h2,?_⟩
 simp only[ah]
 exact⟨_,fU _ _ _ _,rfl⟩
theorem sV(ok:Bool){x:aa}{v:Value}(h:ah ρ x v)(b:Bool):ah ρ (uR ok x b) (if ok=true then .tuple #[v,.bool b] else v):=by
 cases ok with
 | false=>simpa[uR] using h
 | true=>simp[uR,ah,aq,h]
theorem Ib(R:bF Prot w0 ρ H w){t kt el:TypeId}{kc:KC}(hm:P.underlying t=some (.map kt el))(hk:tz P kt=some kc){z:aa}(hz:qp P el=some z){ok:Bool}{m k y:aa}{mv kv:Value}(hx:ah ρ m mv)(hy:ah ρ k kv)
  (h:uo kc ok z H [m,k]=some (y,H')):dG P Prot w0 ρ w (Instr.lookup t mv kv ok) y H':=by
 obtain⟨zv,hz1,hz2⟩:=nX hz
 unfold uo at h
 split at h <;> first | (simp at h; done) | skip
 ·rename_i k' heq
  simp only[List.cons.injEq,and_true]at heq
  obtain⟨rfl,rfl⟩:=heq
  cases hi:xM kc k with
  | false=>rw[hi]at h; simp at h
  | true=>
   rw[hi]at h
   simp only[cond_true,sJ,pJ]at h
   obtain⟨rfl,rfl⟩:=h
   simp only[ah]at hx
   subst hx
   obtain⟨r',q1,q2⟩:=fC (w:=w) hk hy (es:=[]) (ES:=[]) (r:=none) (by simp[aC]) rfl
   simp only[iV]at q2
   subst q2
   refine dG.pure R (v:=if ok=true then .tuple #[zv,.bool false] else zv) ?_ (sV ok (hz2 ρ) false)
   simp[Instr.lookup,run_underlying hm,eP (w:=w) hk hy hi,q1,hz1,Result.andThen]
 ·rename_i r k' heq
  simp only[List.cons.injEq,and_true]at heq
  obtain⟨rfl,rfl⟩:=heq
  split at h <;> first | (simp at h; done) | skip
  rename_i es c hH
  obtain⟨L,ES,hL,rfl,hb,hE⟩:=nA R hx hH
  split at h <;> first | (simp at h; done) | skip
  rename_i v hv
  simp only[sJ,pJ]at h
  obtain⟨rfl,rfl⟩:=h
  unfold yh at hv
  cases hi:xM kc k with
  | false=>rw[hi]at hv; simp at hv
  | true=>
   rw[hi]at hv
   simp only[cond_true]at hv
   split at hv <;> first | (simp at hv; done) | skip
   ·rename_i j e hf
    simp only[sJ]at hv
    subst hv
    obtain⟨r',q1,q2⟩:=fC (w:=w) hk hy hE hf
    obtain⟨_,E,rfl,_,_,⟨_,he2,_⟩,_⟩:=q2
    refine dG.pure R (v:=if ok=true then .tuple #[E.val,.bool true] else E.val) ?_ (sV ok he2 true)
    simp[Instr.lookup,run_underlying hm,MapKept.run_getObj_map hb,eP (w:=w) hk hy hi,q1,Result.andThen]
   ·rename_i hf
    simp only[sJ]at hv
    subst hv
    obtain⟨r',q1,q2⟩:=fC (w:=w) hk hy hE hf
    simp only[iV]at q2
    subst q2
    refine dG.pure R (v:=if ok=true then .tuple #[zv,.bool false] else zv) ?_ (sV ok (hz2 ρ) false)
    simp[Instr.lookup,run_underlying hm,MapKept.run_getObj_map hb,eP (w:=w) hk hy hi,q1,hz1,Result.andThen]
theorem wB:∀{l:List aa},Ln l=true->∀{vs:List Value},aq ρ l vs->∀n,((vs.zip vs).all fun (x,y)=>Instr.sameBits n x y)=true
 | [],_,vs,h,n=>by simp only[aq]at h; subst h; rfl
 | .int k a::l,hi,vs,h,n=>by
  simp only[aq,ah]at h
  obtain⟨v,r,rfl,rfl,h⟩:=h
  have:=wB (l:=l) hi h n
  simp only[List.zip_cons_cons,List.all_cons,this,Bool.and_true]
  cases n <;> simp[Instr.sameBits]
theorem yI{kc:KC}{x:aa}{v:Value}(hx:ah ρ x v)(hi:xM kc x=true):(Instr.keyThatStays v v).run P w=.ok v w:=by
 have:Instr.sameBits 10000 v v=true:=by
  cases kc with
  | int=>cases x <;> simp only[xM,SO]at hi; simp only[ah]at hx; subst hx; show Instr.sameBits (9999+1) _ _=true; simp[Instr.sameBits]
  | str=>cases x <;> simp only[xM,SO]at hi; simp only[ah]at hx; subst hx; show Instr.sameBits (9999+1) _ _=true; rw[Instr.sameBits]; exact (MapKept.bytes_beq _ _).2 rfl
  | arr n=>
   cases x <;> simp only[xM,SO]at hi
   simp only[SE]at hi
   simp only[ah]at hx
   obtain⟨xs,rfl,hxs⟩:=hx
   show Instr.sameBits (9999+1) _ _=true
   have:=wB hi.2 hxs 9999
   simp only[Instr.sameBits,beq_self_eq_true,Bool.true_and]
   exact this
 simp[Instr.keyThatStays,this]
theorem Do(n:Nat):∀(es:List ip) (ES:List MapEntry) (i j:Nat) (e:ip),aC ρ es ES->vT n es i=some (j,e)->i<=j/\es[j-i]?=some e/\∃E,ES[j-i]?=some E/\lX ρ e E/\ES.findIdx? (fun e=>(e.born:Int)==(n:Int))=some (j-i)
 | [],ES,i,j,e,_,h=>by simp[vT]at h
 | x::es,ES,i,j,e,hE,h=>by
  simp only[aC]at hE
  obtain⟨E,ES',rfl,hEE,hE⟩:=hE
  simp only[vT]at h
  have hb:((E.born:Int)==(n:Int))=Nat.beq x.2.2 n:=by
   rw[hEE.2.2,cE]
   by_cases e:x.2.2=n
   ·simp[e]
   ·have:¬((x.2.2:Int)=(n:Int)):=om
    simp[e,this]
  cases hc:Nat.beq x.2.2 n with
  | true=>
   rw[hc]at h hb
   simp only[cond_true,sJ,pJ]at h
   obtain⟨rfl,rfl⟩:=h
   refine⟨Nat.le_refl _,by simp,E,by simp,hEE,?_⟩
   simp[List.findIdx?_cons,hb]
  | false=>
   rw[hc]at h hb
   simp only[cond_false]at h
   obtain⟨h1,h2,E',h3,h4,h5⟩:=Do n es ES' (i+1) j e hE h
   have e1:j-i=(j-(i+1))+1:=om
   refine⟨om,by rw[e1]; simpa using h2,E',by rw[e1]; simpa using h3,h4,?_⟩
   rw[List.findIdx?_cons,hb]
   simp only[SO,if_false,h5,Option.map_some]
   congr 1; omega
theorem Ft(R:bF Prot w0 ρ H w){t kt el:TypeId}{kc:KC}(hm:P.underlying t=some (.map kt el))(hk:tz P kt=some kc){z:aa}(hz:qp P el=some z){m k y:aa}{mv kv:Value}(hx:ah ρ m mv)(hy:ah ρ k kv)
  (h:M7 (.entry kc z) H [m,k]=some (y,H')):dG P Prot w0 ρ w (Instr.mapEntry t mv kv) y H':=by
 obtain⟨zv,hz1,hz2⟩:=nX hz
 unfold M7 at h
 split at h <;> first | (simp at h; done) | skip
 rename_i r l heq
 simp only[List.cons.injEq]at heq
 obtain⟨rfl,rfl⟩:=heq
 split at h <;> first | (simp at h; done) | skip
 rename_i es c hH
 obtain⟨L,ES,hL,rfl,hb,hE⟩:=nA R hx hH
 split at h <;> first | (simp at h; done) | skip
 rename_i v es' c' hv
 simp only[sJ,pJ]at h
 obtain⟨rfl,rfl⟩:=h
 simp only[QA]at hv
 cases hi:xM kc k with
 | false=>rw[hi]at hv; simp at hv
 | true=>
  rw[hi]at hv
  simp only[cond_true]at hv
  split at hv <;> first | (simp at hv; done) | skip
  ·rename_i j e hf
   simp only[sJ,pJ]at hv
   obtain⟨rfl,rfl,rfl⟩:=hv
   obtain⟨r',q1,q2⟩:=fC (w:=w) hk hy hE hf
   obtain⟨_,E,rfl,q3,q4,⟨he1,he2,he3⟩,q5⟩:=q2
   rw[Nat.sub_zero,Array.getElem?_toList]at q4
   refine⟨ρ,_,.tuple #[E.val,.int .i64 E.born],Pl.le_refl _,?_,fX R hL hH (ES':=ES.modify j fun e=>{ e with key:=kv }) (by
    rw[j5 q4]
    exact hE.set j ⟨hy,he2,he3⟩),by simp[ah,aq,he2,he3]⟩
   simp[Instr.mapEntry,run_underlying hm,MapKept.run_getObj_map hb,eP (w:=w) hk hy hi,q1,q4,q5,yI (w:=w) hy hi,MapKept.run_setObj_map _ hb,Result.andThen,goInt]
  ·rename_i hf
   simp only[sJ,pJ]at hv
   obtain⟨rfl,rfl,rfl⟩:=hv
   obtain⟨r',q1,q2⟩:=fC (w:=w) hk hy hE hf
   simp only[iV]at q2
   subst q2
   refine⟨ρ,_,.tuple #[zv,.int .i64 c],Pl.le_refl _,?_,fX R hL hH (ES':=ES.push { key:=kv,val:=zv,born:=c }) (by
    rw[Array.toList_push]
    refine hE.append ?_
    simp only[aC]
    exact⟨_,_,rfl,⟨hy,hz2 ρ,rfl⟩,rfl⟩),by simp[ah,aq,hz2 ρ]⟩
   simp[Instr.mapEntry,run_underlying hm,MapKept.run_getObj_map hb,eP (w:=w) hk hy hi,q1,hz1,MapKept.run_setObj_map _ hb,Result.andThen,goInt]
theorem Gg(es:List ip)(c:Nat)(n x:aa):QA .store es c [n,x]=match n with
  | .int .i64 (.ofNat b)=>match vT b es 0 with
   | some (i,e)=>some (.tuple [],nB es i (e.1,x,e.2.2),c)
   | none=>none
  | _=>none:=by
 cases n with
 | int k z=>cases k <;> cases z <;> rfl
 | _=>rfl
theorem Fq(R:bF Prot w0 ρ H w)(t:TypeId){m n x y:aa}{mv nv xv:Value}(hx:ah ρ m mv)(hn:ah ρ n nv)(hy:ah ρ x xv)
  (h:M7 .store H [m,n,x]=some (y,H')):y=.tuple []/\∃w',(Instr.entryStore t mv nv xv).run P w=.ok () w'/\bF Prot w0 ρ H' w':=by
 unfold M7 at h
 split at h <;> first | (simp at h; done) | skip
 rename_i r l heq
 simp only[List.cons.injEq]at heq
 obtain⟨rfl,rfl⟩:=heq
 split at h <;> first | (simp at h; done) | skip
 rename_i es c hH
 obtain⟨L,ES,hL,rfl,hb,hE⟩:=nA R hx hH
 split at h <;> first | (simp at h; done) | skip
 rename_i v es' c' hv
 simp only[sJ,pJ]at h
 obtain⟨rfl,rfl⟩:=h
 rw[Gg]at hv
 split at hv <;> first | (simp at hv; done) | skip
 ·rename_i b
  split at hv <;> first | (simp at hv; done) | skip
  rename_i j e hf
  simp only[sJ,pJ]at hv
  obtain⟨rfl,rfl,rfl⟩:=hv
  obtain⟨_,q3,E,q4,⟨he1,he2,he3⟩,q5⟩:=Do b es ES.toList 0 j e hE hf
  rw[Nat.sub_zero]at q3 q4 q5
  rw[Array.getElem?_toList]at q4
  simp only[ah]at hn
  subst hn
  have hidx:ES.findIdx? (fun e=>(e.born:Int)==(b:Int))=some j:=by
   rw[<- q5]; exact (List.findIdx?_toArray _ ES.toList)
  refine⟨rfl,_,?_,fX R hL hH (ES':=ES.modify j fun e=>{ e with val:=xv }) (by
   rw[j5 q4]
   exact hE.set j ⟨he1,hy,he3⟩)⟩
  simp[Instr.entryStore,MapKept.run_getObj_map hb,asInt,asIntOf,hidx,MapKept.run_setObj_map _ hb,Result.andThen]
theorem CR(R:bF Prot w0 ρ H w){t kt el:TypeId}{kc:KC}(hm:P.underlying t=some (.map kt el))(hk:tz P kt=some kc){m k x y:aa}{mv kv xv:Value}(hx:ah ρ m mv)(hy:ah ρ k kv)(hv0:ah ρ x xv)
  (h:M7 (.upd kc) H [m,k,x]=some (y,H')):y=.tuple []/\∃w',(Instr.mapUpdate t mv kv xv).run P w=.ok () w'/\bF Prot w0 ρ H' w':=by
 unfold M7 at h
 split at h <;> first | (simp at h; done) | skip
 rename_i r l heq
 simp only[List.cons.injEq]at heq
 obtain⟨rfl,rfl⟩:=heq
 split at h <;> first | (simp at h; done) | skip
 rename_i es c hH
 obtain⟨L,ES,hL,rfl,hb,hE⟩:=nA R hx hH
 split at h <;> first | (simp at h; done) | skip
 rename_i v es' c' hv
 simp only[sJ,pJ]at h
 obtain⟨rfl,rfl⟩:=h
 simp only[QA]at hv
 cases hi:xM kc k with
 | false=>rw[hi]at hv; simp at hv
 | true=>
  rw[hi]at hv
  simp only[cond_true]at hv
  split at hv <;> first | (simp at hv; done) | skip
  ·rename_i j e hf
   simp only[sJ,pJ]at hv
   obtain⟨rfl,rfl,rfl⟩:=hv
   obtain⟨r',q1,q2⟩:=fC (w:=w) hk hy hE hf
   obtain⟨_,E,rfl,q3,q4,⟨he1,he2,he3⟩,q5⟩:=q2
   rw[Nat.sub_zero,Array.getElem?_toList]at q4
   refine⟨rfl,_,?_,fX R hL hH (ES':=ES.modify j fun e=>{ e with key:=kv,val:=xv }) (by
    rw[j5 q4]
    exact hE.set j ⟨hy,hv0,he3⟩)⟩
   simp[Instr.mapUpdate,run_underlying hm,MapKept.run_getObj_map hb,eP (w:=w) hk hy hi,q1,q4,q5,yI (w:=w) hy hi,MapKept.run_setObj_map _ hb,Result.andThen]
  ·rename_i hf
   simp only[sJ,pJ]at hv
   obtain⟨rfl,rfl,rfl⟩:=hv
   obtain⟨r',q1,q2⟩:=fC (w:=w) hk hy hE hf
   simp only[iV]at q2
   subst q2
   refine⟨rfl,_,?_,fX R hL hH (ES':=ES.push { key:=kv,val:=xv,born:=c }) (by
    rw[Array.toList_push]
    refine hE.append ?_
    simp only[aC]
    exact⟨_,_,rfl,⟨hy,hv0,rfl⟩,rfl⟩)⟩
   simp[Instr.mapUpdate,run_underlying hm,MapKept.run_getObj_map hb,eP (w:=w) hk hy hi,q1,MapKept.run_setObj_map _ hb,Result.andThen]
def MJ(P:Program)(t:TypeId):Option (List (Nat×FK)):=match P.underlying t with
 | some (.array n e)=>match P.underlying e,ep P e with
  | some (.int _),some (false,1)=>bif P.eqGuardType P.depth t then none else some ((List.range' 0 n).map fun i=>(i,FK.int))
  | _,_=>none
 | _=>none
def RZ(o:Nat)(ks:List (Nat×FK)):List (Nat×FK):=ks.map fun p=>(o+p.1,p.2)
def IV(P:Program)(rec:TypeId->Option (List (Nat×FK))):List Field->Option (List (Nat×FK))
 | []=>some []
 | f::r => bif f.name == "_" then none else match IV P rec r with
  | none=>none
  | some l=>match FG P f.type with
   | some k=>match ep P f.type with
    | some (false,_)=>some ((f.offset,k)::l)
    | _=>none
   | none=>match rec f.type,ep P f.type with
    | some ks,some (true,n)=>bif ks.all (fun p=>Nat.blt p.1 n) then some (RZ f.offset ks++l) else none
    | _,_=>none
def FL(P:Program):Nat->TypeId->Option (List (Nat×FK))
 | 0,_=>none
 | d+1,t=>match P.underlying t with
  | some (.struct fs)=>bif P.stoodInHeld t then none else IV P (FL P d) fs.toList
  | _=>none
def MI(P:Program)(t:TypeId):Option (List (Nat×FK)):=bif P.eqGuardType P.depth t then none else FL P 8 t
theorem wQ(l m:List aa):∀(a b:List (Nat×FK)),ef (a++b) l m=match ef a l m with
  | some true=>ef b l m
  | some false=>some false
  | none=>none
 | [],b=>rfl
 | (o,k)::a,b=>by
  simp only[SX,ef]
  cases l[o]? with
  | none=>rfl
  | some x=>
   cases m[o]? with
   | none=>rfl
   | some y=>
    simp only
    cases OM k x y with
    | none=>rfl
    | some q=>cases q with
     | true=>exact wQ l m a b
     | false=>rfl
theorem Az{n o:Nat}(l m:List aa):∀(ks:List (Nat×FK)),ks.all (fun p=>Nat.blt p.1 n)=true->ef (RZ o ks) l m=ef ks ((l.drop o).take n) ((m.drop o).take n)
 | [],_=>rfl
 | (i,k)::r,h=>by
  rw[List.all_cons,SE]at h
  have hi:i<n:=by have:=h.1; simpa[Nat.blt_eq] using this
  have ih:=Az (n:=n) (o:=o) l m r h.2
  show ef ((o+i,k)::RZ o r) l m=_
  simp only[ef,List.getElem?_take_of_lt hi,List.getElem?_drop,ih]
theorem xR{rec:TypeId->Option (List (Nat×FK))}{d:Nat}
  (hr:∀{t:TypeId} {ks:List (Nat×FK)},rec t=some ks->∀{l m:List aa} {xs ys:Array Value},aq ρ l xs.toList->aq ρ m ys.toList->∀{b:Bool},ef ks l m=some b->(Op.equalIn (d+1) t (.agg xs) (.agg ys)).run P w=.ok b w) :
  ∀{fs:List Field} {ks:List (Nat×FK)},IV P rec fs=some ks->∀{l m:List aa} {xs ys:Array Value},aq ρ l xs.toList->aq ρ m ys.toList->∀{b:Bool},ef ks l m=some b->(Op.eqFields (d+1) xs ys fs).run P w=.ok b w
 | [],ks,hk,l,m,xs,ys,hx,hy,b,h=>by
  simp only[IV,sJ]at hk
  subst hk
  simp only[ef,sJ]at h
  subst h
  rfl
 | f::fs,ks,hk,l,m,xs,ys,hx,hy,b,h=>by
  simp only[IV]at hk
  cases hn : (f.name == "_") with
  | true=>rw[hn]at hk; simp at hk
  | false=>
   rw[hn]at hk
   simp only[cond_false]at hk
   have hne : f.name ≠ "_" := by simpa using hn
   split at hk <;> first | (simp at hk; done) | skip
   rename_i ks' h3
   split at hk
   ·rename_i k h1
    split at hk <;> first | (simp at hk; done) | skip
    rename_i n h2
    simp only[sJ]at hk
    subst hk
    simp only[ef]at h
    split at h
    ·rename_i x y gx gy
     have p1:hJ false n f.offset l=some x:=by simpa[hJ] using gx
     have p2:hJ false n f.offset m=some y:=by simpa[hJ] using gy
     obtain⟨u,u1,u2⟩:=eW (P:=P) (w:=w) (dl h2) hx p1
     obtain⟨v,v1,v2⟩:=eW (P:=P) (w:=w) (dl h2) hy p2
     simp only[Op.eqFields,hne,ne_eq,not_false_eq_true,if_true,Sem.run_bind,u1,v1,Result.andThen_ok]
     split at h
     ·rename_i hb
      rw[pW h1 u2 v2 hb d]
      simp only[Result.andThen_ok,Bool.not_true,SO,if_false]
      exact xR hr h3 hx hy h
     ·rename_i hb
      simp only[sJ]at h
      subst h
      rw[pW h1 u2 v2 hb d]
      simp
     ·simp at h
    ·simp at h
   ·split at hk <;> first | (simp at hk; done) | skip
    rename_i kk n h1 h2
    cases ha:kk.all (fun p=>Nat.blt p.1 n) with
    | false=>rw[ha]at hk; simp at hk
    | true=>
     rw[ha]at hk
     simp only[cond_true,sJ]at hk
     subst hk
     rw[wQ,Az l m kk ha]at h
     obtain⟨u,u1,u2⟩:=eW (P:=P) (w:=w) (dl h2) hx (off:=f.offset) (y:=.agg ((l.drop f.offset).take n)) rfl
     obtain⟨v,v1,v2⟩:=eW (P:=P) (w:=w) (dl h2) hy (off:=f.offset) (y:=.agg ((m.drop f.offset).take n)) rfl
     simp only[ah]at u2 v2
     obtain⟨us,rfl,u2⟩:=u2
     obtain⟨vs,rfl,v2⟩:=v2
     simp only[Op.eqFields,hne,ne_eq,not_false_eq_true,if_true,Sem.run_bind,u1,v1,Result.andThen_ok]
     split at h
     ·rename_i hb
      rw[hr h1 u2 v2 hb]
      simp only[Result.andThen_ok,Bool.not_true,SO,if_false]
      exact xR hr h3 hx hy h
     ·rename_i hb
      simp only[sJ]at h
      subst h
      rw[hr h1 u2 v2 hb]
      simp
     ·simp at h
theorem Dg:∀(e d:Nat) {t:TypeId} {ks:List (Nat×FK)},FL P e t=some ks->∀{l m:List aa} {xs ys:Array Value},aq ρ l xs.toList->aq ρ m ys.toList->∀{b:Bool},ef ks l m=some b->(Op.equalIn (d+e+1) t (.agg xs) (.agg ys)).run P w=.ok b w
 | 0,d,t,ks,hk,l,m,xs,ys,hx,hy,b,h=>by simp[FL]at hk
 | e+1,d,t,ks,hk,l,m,xs,ys,hx,hy,b,h=>by
  simp only[FL]at hk
  split at hk <;> first | (simp at hk; done) | skip
  rename_i fs hu
  cases hs:P.stoodInHeld t with
  | true=>rw[hs]at hk; simp at hk
  | false=>
   rw[hs]at hk
   simp only[cond_false]at hk
   have hfo:P.fieldsOf t=fs:=by simp[Program.fieldsOf,hu]
   have:=run_equalIn_struct (P:=P) w (d+e+1) t xs ys (by rw[hfo]; exact hu) hs
   rw[hfo]at this
   rw[show d+(e+1)+1=d+e+1+1 by omega,this]
   exact xR (rec:=FL P e) (d:=d+e) (fun h1 _ _ _ _ hx hy _ h=>Dg e d h1 hx hy h) hk hx hy h
def xQ(P:Program)(t:TypeId):Option (List (Nat×FK)):=match IQ P t with
 | some x=>some x
 | none=>match MJ P t with
  | some x=>some x
  | none=>MI P t
theorem IR{e:TypeId}{kk:IntKind}(he:P.underlying e=some (.int kk))(T:Ty P e false 1){L M:List aa}{xs ys:Array Value}(hL:aq ρ L xs.toList)(hM:aq ρ M ys.toList)(d:Nat) :
  ∀(k o:Nat) (b:Bool),ef ((List.range' o k).map fun i=>(i,FK.int)) L M=some b->(Op.eqItems (d+1) e 1 xs ys (List.range' o k)).run P w=.ok b w:=by
 intro k
 induction k with
 | zero=>
  intro o b h
  simp only[List.range'_zero,List.map_nil,ef,sJ]at h
  subst h
  simp[Op.eqItems]
 | succ k ih=>
  intro o b h
  rw[List.range'_succ,List.map_cons]at h
  simp only[ef]at h
  split at h
  ·rename_i x y gx gy
   obtain⟨u,u1,u2⟩:=eW (P:=P) (w:=w) T hL (off:=o) (y:=x) (by simpa[hJ] using gx)
   obtain⟨v,v1,v2⟩:=eW (P:=P) (w:=w) T hM (off:=o) (y:=y) (by simpa[hJ] using gy)
   have hk:FG P e=some .int:=by simp[FG,he]
   rw[List.range'_succ]
   simp only[Op.eqItems,Nat.mul_one,Sem.run_bind,u1,v1,Result.andThen_ok]
   split at h
   ·rename_i hb
    rw[pW hk u2 v2 hb d]
    simp only[Result.andThen_ok,Bool.not_true,SO,if_false]
    exact ih (o+1) b h
   ·rename_i hb
    simp only[sJ]at h
    subst h
    rw[pW hk u2 v2 hb d]
    simp
   ·simp at h
  ·simp at h
theorem De{op:BinOp}(ho:op=.eql∨op=.neq){t:TypeId}{x y:Operand}{ks:List (Nat×FK)}(hk:xQ P t=some ks){l m:List aa}{u v:Value}(hp:ah ρ (.agg l) u)(hq:ah ρ (.agg m) v){b:Bool}(h:ef ks l m=some b) :
  (do eqGuard op t x y u v; binOp op t u v:Sem Value).run P w=.ok (.bool (match op with | .eql=>b | _=>!b)) w:=by
 unfold xQ at hk
 split at hk
 ·rename_i z hz
  simp only[sJ]at hk
  subst hk
  exact N1 ho hz hp hq h
 split at hk
 ·rename_i hA
  simp only[sJ]at hk
  subst hk
  have hk:=hA
  unfold MJ at hk
  split at hk
  ·rename_i n e hu
   split at hk
   ·rename_i kk he hT
    cases hg:P.eqGuardType P.depth t with
    | true=>rw[hg]at hk; simp at hk
    | false=>
     rw[hg]at hk
     simp only[cond_false,sJ]at hk
     subst hk
     simp only[ah]at hp hq
     obtain⟨xs,rfl,hx⟩:=hp
     obtain⟨ys,rfl,hy⟩:=hq
     obtain⟨hc1,i0,hi0⟩:=zX hT
     have heq:(Op.equalIn 10000 t (.agg xs) (.agg ys)).run P w=.ok b w:=by
      show (Op.equalIn (9998+1+1) t (.agg xs) (.agg ys)).run P w=_
      rw[run_equalIn_array w (9998+1) xs ys hu hi0,hc1,List.range_eq_range']
      exact IR he (dl hT) hx hy 9998 n 0 b h
     rcases ho with rfl | rfl
     ·simp only[Sem.run_bind,run_eqGuard_agg w _ t x y xs ys hg,Result.andThen_ok,run_eql_struct,heq]
     ·simp only[Sem.run_bind,run_eqGuard_agg w _ t x y xs ys hg,Result.andThen_ok,run_neq_struct,heq]
   ·simp at hk
  ·simp at hk
 ·unfold MI at hk
  cases hg:P.eqGuardType P.depth t with
  | true=>rw[hg]at hk; simp at hk
  | false=>
   rw[hg]at hk
   simp only[cond_false]at hk
   simp only[ah]at hp hq
   obtain⟨xs,rfl,hx⟩:=hp
   obtain⟨ys,rfl,hy⟩:=hq
   have heq:(Op.equalIn 10000 t (.agg xs) (.agg ys)).run P w=.ok b w:=Dg 8 9991 hk hx hy h
   rcases ho with rfl | rfl
   ·simp only[Sem.run_bind,run_eqGuard_agg w _ t x y xs ys hg,Result.andThen_ok,run_eql_struct,heq]
   ·simp only[Sem.run_bind,run_eqGuard_agg w _ t x y xs ys hg,Result.andThen_ok,run_neq_struct,heq]
theorem N5(R:bF Prot w0 ρ H w){t e:TypeId}(hu:P.underlying t=some (.slice e)){z:List aa}(hz:dH P e=some z){ty:TypeId}{x y:aa}{v:Value}(hx:ah ρ x v)(h:Oy z H [x]=some (y,H')) :
  dG P Prot w0 ρ w (Builtin.clear_ #[t] ty #[v]) y H':=by
 unfold Oy at h
 split at h <;> first | (simp at h; done) | skip
 ·rename_i n r heq
  simp only[List.cons.injEq,and_true]at heq
  subst heq
  simp only[sJ,pJ]at h
  obtain⟨rfl,rfl⟩:=h
  simp only[ah]at hx
  obtain⟨_,_,rfl⟩:=hx
  refine dG.pure R (v:=.tuple #[]) ?_ (by simp[ah,aq])
  simp[Builtin.clear_,run_underlying hu]
 ·rename_i a n r heq
  simp only[List.cons.injEq,and_true]at heq
  subst heq
  obtain⟨L,off,c,hL,hsh,rfl,hlen,hoff⟩:=cT hx
  cases hn:Nat.beq n 0 with
  | true=>
   rw[hn]at h
   simp only[cond_true,sJ,pJ]at h
   obtain⟨rfl,rfl⟩:=h
   have:=SI hn
   subst this
   refine dG.pure R (v:=.tuple #[]) ?_ (by simp[ah,aq])
   simp[Builtin.clear_,run_underlying hu]
  | false=>
   rw[hn]at h
   simp only[cond_false]at h
   split at h
   ·rename_i H2 hw
    simp only[sJ,pJ]at h
    obtain⟨rfl,rfl⟩:=h
    have hn0:n≠0:=fun e=>by rw[e]at hn; simp at hn
    rw[hoff om]
    obtain⟨zv,hzr,hzl⟩:=ii hz
    have hl:=aq.len (hzl ρ)
    simp only[Array.length_toList]at hl
    have hm:=lq (hzl ρ) n
    obtain⟨w',h1,h2⟩:=rX (P:=P) R hw hL hsh hm
    refine⟨ρ,w',.tuple #[],Pl.le_refl _,?_,h2,by simp[ah,aq]⟩
    have hzc:Builtin.zeroCells zv.cells n=dw zv.cells (n*z.length):=by
     rw[hl]; rfl
    simp only[Builtin.clear_,List.getElem?_toArray,SL,Sem.run_bind,run_underlying hu,Result.andThen_ok,hzr,hzc]
    rw[h1]
    rfl
   ·simp at h
theorem N4(R:bF Prot w0 ρ H w){t t2 e:TypeId}(hu:P.underlying t=some (.slice e)){g:Bool}{n:Nat}(T:Ty P e g n){ty:TypeId}{s x y:aa}{u v:Value}(hs:ah ρ s u)(hx:ah ρ x v)(h:Ox n H [s,x]=some (y,H')) :
  dG P Prot w0 ρ w (Builtin.copy_ #[t,t2] ty #[u,v]) y H':=by
 unfold Ox at h
 split at h <;> first | (simp at h; done) | skip
 rename_i so sl sr xo xl xr heq
 simp only[List.cons.injEq,and_true]at heq
 obtain⟨rfl,rfl⟩:=heq
 have hshape:∀{o:Option Ad} {m:Nat} {r:uy} {z:Value},ah ρ (.slice o m r) z->∃b c,z=.slice b m c:=by
  intro o m r z hz
  cases o with
  | none=>
   simp only[ah]at hz
   obtain⟨h1,h2,rfl⟩:=hz
   exact⟨none,0,by rw[h1]⟩
  | some a=>
   obtain⟨L,off,c,_,_,rfl,_,_⟩:=cT hz
   exact⟨_,_,rfl⟩
 obtain⟨sb,sc,rfl⟩:=hshape hs
 obtain⟨xb,xc,rfl⟩:=hshape hx
 cases hn:Nat.beq (Nat.min xl sl) 0 with
 | true=>
  rw[hn]at h
  simp only[cond_true,sJ,pJ]at h
  obtain⟨rfl,rfl⟩:=h
  have h0:=SI hn
  refine dG.pure R (v:=.int .i64 0) ?_ (by simp[ah])
  have hf:(Builtin.firstCells n 0 (.slice xb xl xc)).run P w=.ok #[] w:=by
   cases xb with
   | none=>rfl
   | some a=>simp only[Builtin.firstCells,loadCells,Nat.zero_mul]; rfl
  simp only[Builtin.copy_,List.getElem?_toArray,SL,SN,Sem.run_bind,run_underlying hu,Result.andThen_ok,Builtin.lenOf,Sem.run_pure,T.size,h0,hf]
  cases sb <;> rfl
 | false=>
  rw[hn]at h
  simp only[cond_false]at h
  have hn0:Nat.min xl sl≠0:=fun e=>by rw[e]at hn; simp at hn
  have hmx:Nat.min xl sl<=xl:=Nat.min_le_left _ _
  have hms:Nat.min xl sl<=sl:=Nat.min_le_right _ _
  cases so with
  | none=>simp at h
  | some a=>
  cases xo with
  | none=>simp at h
  | some b=>
  simp only at h
  split at h <;> first | (simp at h; done) | skip
  rename_i l hl
  split at h <;> first | (simp at h; done) | skip
  rename_i H2 hw
  simp only[sJ,pJ]at h
  obtain⟨rfl,rfl⟩:=h
  obtain⟨L,off,c,hL,hsh,e1,hlen,hoff⟩:=cT hs
  obtain⟨M,moff,mc,hM,msh,e2,mlen,mo⟩:=cT hx
  simp only[Value.slice.injEq,true_and]at e1 e2
  obtain⟨rfl,rfl⟩:=e1
  obtain⟨rfl,rfl⟩:=e2
  have ho:=hoff om
  have hm:=mo om
  subst ho hm
  obtain⟨vs,q1,q2,q3⟩:=np (P:=P) R hl hM msh
  obtain⟨w',h1,h2⟩:=rX (P:=P) R hw hL hsh q2
  refine⟨ρ,w',.int .i64 (Nat.min xl sl:Nat),Pl.le_refl _,?_,h2,by simp[ah]⟩
  have hf:(Builtin.firstCells n (Nat.min xl sl) (.slice (some ⟨M.c,b.o-M.sh,none⟩) xl xc)).run P w=.ok vs w:=q1
  simp only[Builtin.copy_,List.getElem?_toArray,SL,SN,Sem.run_bind,run_underlying hu,Result.andThen_ok,Builtin.lenOf,Sem.run_pure,T.size,hf]
  rw[h1]
  rfl
end
end Go.Abs
namespace Go.Abs
section
variable {P:Program} {Prot:Gh} {w0:World} {ρ:Pl} {H H':ae} {w:World}
def Fx(P:Program)(t:TypeId):Option gp:=match P.underlying t,ep P t with
 | some (.pointer e),some (false,1)=>match ep P e with
  | some (_,n)=>bif Nat.beq n 0 then none else some .p
  | none=>none
 | some (.int _),some (false,1)=>some .i
 | some .string,some (false,1)=>some .s
 | _,_=>none
def ti(P:Program)(t:TypeId):Option (gp×gp):=match P.underlying t with
 | some (.struct fs)=>match fs.toList with
  | [f,g]=>match Fx P f.type,Fx P g.type with
   | some a, some b => bif !P.stoodInHeld t && (!(f.name == "_") && (!(g.name == "_") && (Nat.beq f.offset 0 && Nat.beq g.offset 1))) then some (a, b) else none
   | _,_=>none
  | _=>none
 | _=>none
structure PK(P:Program)(t:TypeId)(ks:gp×gp)(f g:Field)(fs:Array Field):Prop where
 ht:P.underlying t=some (.struct fs)
 hl:fs.toList=[f,g]
 hp:P.stoodInHeld t=false
 hf:Fx P f.type=some ks.1
 hg:Fx P g.type=some ks.2
 nf : f.name ≠ "_"
 ng : g.name ≠ "_"
 of_:f.offset=0
 og:g.offset=1
theorem pO{t:TypeId}{ks:gp×gp}(h:ti P t=some ks):∃f g fs,PK P t ks f g fs:=by
 unfold ti at h
 split at h
 ·rename_i fs hu
  split at h
  ·rename_i f g hl
   split at h
   ·rename_i a b ha hb
    cases hc : (!P.stoodInHeld t && (!(f.name == "_") && (!(g.name == "_") && (Nat.beq f.offset 0 && Nat.beq g.offset 1)))) with
    | false=>rw[hc]at h; simp at h
    | true=>
     rw[hc]at h
     simp only[cond_true,sJ]at h
     subst h
     simp only[SE,Bool.not_eq_true']at hc
     obtain⟨q1,q2,q3,q4,q5⟩:=hc
     exact⟨f,g,fs,hu,hl,q1,ha,hb,by simpa using q2,by simpa using q3,SI q4,SI q5⟩
   ·simp at h
  ·simp at h
 ·simp at h
inductive OS(P:Program)(t:TypeId):gp->Prop
 | p (e:TypeId) (a:Bool) (n:Nat) (h:P.underlying t=some (.pointer e)) (he:ep P e=some (a,n)) (hn:n≠0):OS P t .p
 | i (k:IntKind) (h:P.underlying t=some (.int k)):OS P t .i
 | s (h:P.underlying t=some .string):OS P t .s
theorem rG{t:TypeId}{kd:gp}(h:Fx P t=some kd):ep P t=some (false,1)/\OS P t kd:=by
 unfold Fx at h
 split at h
 ·rename_i e hu ht
  split at h
  ·rename_i a n hn
   cases hc:Nat.beq n 0 with
   | true=>rw[hc]at h; simp at h
   | false=>
    rw[hc]at h
    simp only[cond_false,sJ]at h
    subst h
    exact⟨ht,.p e a n hu hn fun e=>by rw[e]at hc; simp at hc⟩
  ·simp at h
 ·rename_i k hu ht
  simp only[sJ]at h
  subst h
  exact⟨ht,.i k hu⟩
 ·rename_i hu ht
  simp only[sJ]at h
  subst h
  exact⟨ht,.s hu⟩
 ·simp at h
theorem jJ{t:TypeId}(ht:ep P t=some (false,1)){xs:Array Value}{off:Nat}{u:Value}(h:xs[off]?=some u):(part t xs off).run P w=.ok u w:=by
 simp[part,(dl ht).agg,h]
theorem sU{a b:Addr}{ca cb:Array Value}{ta tb:TypeId}{l1 h1 l2 h2:Nat}(hne:a.block≠b.block)(ha:w.heap[a.block]?=some (.cells ca ta (l1,h1)))(hb:w.heap[b.block]?=some (.cells cb tb (l2,h2)))(e1:h1<=l1)(e2:h2<=l2) :
  (sameAddr a b).run P w=.ok false w:=by
 have f1:∀o s,w.frozen? ⟨a.block,o,s⟩=false:=fun o s=>by
  unfold World.frozen?; simp only[ha]; simp; omega
 have f2:∀o s,w.frozen? ⟨b.block,o,s⟩=false:=fun o s=>by
  unfold World.frozen?; simp only[hb]; simp; omega
 have g1:w.frozen? a=false:=f1 a.off _
 have g2:w.frozen? b=false:=f2 b.off _
 simp[sameAddr,hne,ha,hb,g1,g2,f1,f2,noView,viewAt,World.shape?,mayBeOne,stringish]
theorem KG(R:bF Prot w0 ρ H w){a c:Ad}{b:Bool}(h:HN H.get a c=some b){L M:AL}(l1:ρ a.b a.lim=some L)(l2:L.sh<=a.o)(m1:ρ c.b c.lim=some M)(m2:M.sh<=c.o) :
  (sameAddr ⟨L.c,a.o-L.sh,none⟩ ⟨M.c,c.o-M.sh,none⟩).run P w=.ok b w/\(b=true->(⟨L.c,a.o-L.sh,none⟩:Addr)=⟨M.c,c.o-M.sh,none⟩):=by
 unfold HN at h
 cases hb:Nat.beq a.b c.b with
 | true=>
  rw[hb]at h
  simp only[cond_true]at h
  cases hl:Nat.beq a.lim c.lim with
  | false=>rw[hl]at h; simp at h
  | true=>
   rw[hl]at h
   simp only[cond_true,sJ]at h
   subst h
   rw[SI hb,SI hl,m1]at l1
   obtain rfl:=(sJ _ _).mp l1
   cases ho:Nat.beq a.o c.o with
   | true=>
    rw[SI ho]
    exact⟨by simp[sameAddr],fun _=>rfl⟩
   | false=>
    have hne:a.o-M.sh≠c.o-M.sh:=fun e=>by
     have:a.o=c.o:=om
     rw[this,Nat.beq_refl]at ho; simp at ho
    exact⟨by simp[sameAddr,hne],fun e=>by simp at e⟩
 | false=>
  rw[hb]at h
  simp only[cond_false]at h
  have hne:a.b≠c.b:=fun e=>by rw[e,Nat.beq_refl]at hb; simp at hb
  split at h
  ·rename_i lx _ ly _ hx hy
   simp only[sJ]at h
   subst h
   obtain⟨x,o,g1,g2,g3⟩:=R.obj _ _ _ l1
   obtain⟨y,p,k1,k2,k3⟩:=R.obj _ _ _ m1
   rw[hx]at g1; rw[hy]at k1
   obtain rfl:=Option.some.inj g1
   obtain rfl:=Option.some.inj k1
   simp only[er]at g3 k3
   obtain⟨C,e,lo,hi,rfl,_,q1,_,_⟩:=g3
   obtain⟨C',e',lo',hi',rfl,_,q2,_,_⟩:=k3
   have hc:L.c≠M.c:=fun e=>hne (R.inj _ _ _ _ _ _ _ l1 m1 e hx rfl).1
   exact⟨sU (a:=⟨L.c,a.o-L.sh,none⟩) (b:=⟨M.c,c.o-M.sh,none⟩) hc g2 k2 ((q1 trivial).2.2 rfl) ((q2 trivial).2.2 rfl),fun e=>by simp at e⟩
  ·simp at h
theorem xx(R:bF Prot w0 ρ H w){t:TypeId}{kd:gp}(K:OS P t kd){x y:aa}{u v:Value}{b:Bool}(h:yX H.get kd x y=some b)(hx:ah ρ x u)(hy:ah ρ y v) :
  (∀d,(Op.equalIn (d+1) t u v).run P w=.ok b w)/\(b=true->v=u):=by
 cases K with
 | p e a n hu he hn=>
  unfold yX at h
  split at h <;> first | (simp at h; done) | skip
  all_goals first | (rename_i heq; cases heq; done) | skip
  rename_i a' c
  simp only[ah]at hx hy
  obtain⟨L,l1,l2,rfl⟩:=hx
  obtain⟨M,m1,m2,rfl⟩:=hy
  obtain⟨q1,q2⟩:=KG (P:=P) R h l1 l2 m1 m2
  have hs:=(dl he).size
  exact⟨fun d=>by simp[Op.equalIn,run_underlying hu,hs,hn,q1],fun hb=>by rw[q2 hb]⟩
 | i k hu=>
  unfold yX at h
  split at h <;> first | (simp at h; done) | skip
  all_goals first | (rename_i heq; cases heq; done) | skip
  simp only[ah]at hx hy
  subst hx hy
  split at h
  ·rename_i hk
   simp only[sJ]at h
   subst hk
   refine⟨fun d=>?_,fun hb=>?_⟩
   ·rw[<- h,fD]
    simp[Op.equalIn,run_underlying hu]
   ·rw[hb,fD]at h
    simp only[beq_iff_eq]at h
    rw[h]
  ·simp at h
 | s hu=>
  unfold yX at h
  split at h <;> first | (simp at h; done) | skip
  all_goals first | (rename_i heq; cases heq; done) | skip
  rename_i a' c
  simp only[ah]at hx hy
  subst hx hy
  simp only[sJ]at h
  refine⟨fun d=>?_,fun hb=>?_⟩
  ·simp[Op.equalIn,run_underlying hu,pH,h]
  ·rw[hb]at h
   rw[eq_of_beq h]
theorem ID{t:TypeId}{kd:gp}(K:OS P t kd)(em:Bool)(d:Nat)(u:Value):(Instr.checkKey em (d+1) t u).run P w=.ok () w:=by
 cases K with
 | p e a n hu he hn=>simp[Instr.checkKey,run_underlying hu]
 | i k hu=>exact BO hu em d u
 | s hu=>simp[Instr.checkKey,run_underlying hu]
theorem mj{x y:aa}{u:Value}(h:ah ρ (.agg [x,y]) u):∃(xs:Array Value) (a b:Value),u=.agg xs/\xs.toList=[a,b]/\ah ρ x a/\ah ρ y b/\xs[0]?=some a/\xs[1]?=some b:=by
 simp only[ah,aq]at h
 obtain⟨xs,rfl,a,_,e,ha,b,_,rfl,hb,rfl⟩:=h
 refine⟨xs,a,b,rfl,e,ha,hb,?_,?_⟩
 ·rw[<- Array.getElem?_toList,e]; rfl
 ·rw[<- Array.getElem?_toList,e]; rfl
theorem CL(R:bF Prot w0 ρ H w){t:TypeId}{ks:gp×gp}{f g:Field}{fs:Array Field}(K:PK P t ks f g fs){x y:aa}{u v:Value}{b:Bool}(h:EZ H.get ks x y=some b)(hx:ah ρ x u)(hy:ah ρ y v) :
  (Op.equal t u v).run P w=.ok b w/\(b=true->v=u):=by
 unfold EZ at h
 split at h <;> first | (simp at h; done) | skip
 rename_i x1 x2 y1 y2
 obtain⟨xs,a1,a2,rfl,ex,ha1,ha2,g1,g2⟩:=mj hx
 obtain⟨ys,b1,b2,rfl,ey,hb1,hb2,k1,k2⟩:=mj hy
 obtain⟨tf,kf⟩:=rG K.hf
 obtain⟨tg,kg⟩:=rG K.hg
 have px:(part f.type xs f.offset).run P w=.ok a1 w:=jJ tf (by rw[K.of_]; exact g1)
 have py:(part f.type ys f.offset).run P w=.ok b1 w:=jJ tf (by rw[K.of_]; exact k1)
 have gx:(part g.type xs g.offset).run P w=.ok a2 w:=jJ tg (by rw[K.og]; exact g2)
 have gy:(part g.type ys g.offset).run P w=.ok b2 w:=jJ tg (by rw[K.og]; exact k2)
 have hfo:P.fieldsOf t=fs:=by simp[Program.fieldsOf,K.ht]
 have run:(Op.equal t (.agg xs) (.agg ys)).run P w=(Op.eqFields 9999 xs ys [f,g]).run P w:=by
  show (Op.equalIn (9999+1) t (.agg xs) (.agg ys)).run P w=_
  rw[run_equalIn_struct w 9999 t xs ys (by rw[hfo]; exact K.ht) K.hp,hfo,K.hl]
 rw[run]
 split at h
 ·rename_i h1
  obtain⟨q1,q2⟩:=xx (P:=P) R kf h1 ha1 hb1
  obtain⟨r1,r2⟩:=xx (P:=P) R kg h ha2 hb2
  refine⟨?_,fun hb=>?_⟩
  ·have gen:∀d,(Op.eqFields (d+1) xs ys [f,g]).run P w=.ok b w:=fun d=>?_
   ·exact gen 9998
   simp only[Op.eqFields,K.nf,K.ng,ne_eq,not_false_eq_true,if_true,Sem.run_bind,px,py,Result.andThen_ok,q1,gx,gy,r1,Bool.not_true,SO,if_false]
   cases b <;> simp
  ·congr 1
   apply Array.toList_inj.1
   rw[ex,ey,q2 rfl,r2 hb]
 ·rename_i h1
  simp only[sJ]at h
  subst h
  obtain⟨q1,_⟩:=xx (P:=P) R kf h1 ha1 hb1
  refine⟨?_,by simp⟩
  have gen:∀d,(Op.eqFields (d+1) xs ys [f,g]).run P w=.ok false w:=fun d=>?_
  ·exact gen 9998
  simp only[Op.eqFields,K.nf,ne_eq,not_false_eq_true,if_true,Sem.run_bind,px,py,Result.andThen_ok,q1,Bool.not_false]
  simp
 ·simp at h
theorem HM(R:bF Prot w0 ρ H w){t:TypeId}{ks:gp×gp}(hk:ti P t=some ks){x:aa}{v:Value}(hx:ah ρ x v):∀(es:List ip) (ES:List MapEntry) (i:Nat) (r:Option (Nat×ip)),aC ρ es ES->jg H.get ks x es i=some r ->
  ∃r',(Instr.findAsking t v ES i).run P w=.ok r' w/\iV ρ v es ES i r r':=by
 obtain⟨f,g,fs,K⟩:=pO hk
 intro es
 induction es with
 | nil=>
  intro ES i r hE h
  simp only[jg,sJ]at h
  simp only[aC]at hE
  subst h hE
  exact⟨none,rfl,rfl⟩
 | cons e0 es ih=>
  intro ES i r hE h
  simp only[aC]at hE
  obtain⟨E,ES',rfl,hEE,hE⟩:=hE
  obtain⟨he1,he2,he3⟩:=hEE
  simp only[jg]at h
  split at h
  ·rename_i hb
   simp only[sJ]at h
   subst h
   obtain⟨k1,k2⟩:=CL R K hb hx he1
   exact⟨some (i,E.val),by simp[Instr.findAsking,k1],Nat.le_refl _,E,rfl,by simp,by simp,⟨he1,he2,he3⟩,k2 rfl⟩
  ·rename_i hb
   obtain⟨k1,k2⟩:=CL R K hb hx he1
   obtain⟨r',q1,q2⟩:=ih ES' (i+1) r hE h
   exact⟨r',by simp[Instr.findAsking,k1,q1],q2.step⟩
  ·simp at h
theorem mw(R:bF Prot w0 ρ H w){t:TypeId}{ks:gp×gp}(hk:ti P t=some ks){x:aa}{v:Value}(hx:ah ρ x v){es:List ip}{ES:List MapEntry}{r:Option (Nat×ip)}(hE:aC ρ es ES)(h:jg H.get ks x es 0=some r) :
  ∃r',(Instr.findKey t v ES).run P w=.ok r' w/\iV ρ v es ES 0 r r':=by
 obtain⟨f,g,fs,K⟩:=pO hk
 cases es with
 | nil=>
  simp only[jg,sJ]at h
  simp only[aC]at hE
  subst h hE
  exact⟨none,by simp[Instr.findKey,run_underlying K.ht,Instr.findNow],rfl⟩
 | cons e0 es=>
  obtain⟨r',q1,q2⟩:=HM R hk hx (e0::es) ES 0 r hE h
  refine⟨r',?_,q2⟩
  simp only[aC]at hE
  obtain⟨E,ES',rfl,_,_⟩:=hE
  have hn:Instr.findNow (.struct fs) v (E::ES') 0=none:=by
   unfold Instr.findNow
   have:Instr.sameNow (.struct fs) v E.key=none:=by
    cases v <;> cases E.key <;> rfl
   rw[this]
  simp[Instr.findKey,run_underlying K.ht,hn,q1]
theorem iu{t:TypeId}{ks:gp×gp}(hk:ti P t=some ks){x:aa}{v:Value}(hx:ah ρ x v)(hi:tC ks x=true)(em:Bool):(Instr.checkKey em 10000 t v).run P w=.ok () w:=by
 obtain⟨f,g,fs,K⟩:=pO hk
 unfold tC at hi
 split at hi
 ·rename_i a b
  obtain⟨xs,a1,a2,rfl,ex,ha1,ha2,g1,g2⟩:=mj hx
  obtain⟨tf,kf⟩:=rG K.hf
  obtain⟨tg,kg⟩:=rG K.hg
  have u1:(part f.type xs f.offset).run P w=.ok a1 w:=jJ tf (by rw[K.of_]; exact g1)
  have v1:(part g.type xs g.offset).run P w=.ok a2 w:=jJ tg (by rw[K.og]; exact g2)
  have c1:∀d,(Instr.checkKey em (d+1) f.type a1).run P w=.ok () w:=fun d=>ID kf em d _
  have c2:∀d,(Instr.checkKey em (d+1) g.type a2).run P w=.ok () w:=fun d=>ID kg em d _
  have gen:∀d,(Instr.checkKey em (d+1+1) t (.agg xs)).run P w=.ok () w:=fun d=>?_
  ·exact gen 9998
  rw[Instr.checkKey]
  simp only[Sem.run_bind,run_underlying K.ht,Result.andThen_ok]
  rw[<- Array.forIn_toList,K.hl]
  simp[K.nf,K.ng,u1,v1,c1,c2]
 ·simp at hi
theorem HL(R:bF Prot w0 ρ H w){t kt el:TypeId}(hm:P.underlying t=some (.map kt el)){ks:gp×gp}(hk:ti P kt=some ks){z:aa}(hz:qp P el=some z){ok:Bool}{m k y:aa}{mv kv:Value}(hx:ah ρ m mv)(hy:ah ρ k kv)
  (h:nT ks ok z H [m,k]=some (y,H')):dG P Prot w0 ρ w (Instr.lookup t mv kv ok) y H':=by
 obtain⟨zv,hz1,hz2⟩:=nX hz
 unfold nT at h
 split at h <;> first | (simp at h; done) | skip
 rename_i r k' heq
 simp only[List.cons.injEq,and_true]at heq
 obtain⟨rfl,rfl⟩:=heq
 split at h <;> first | (simp at h; done) | skip
 rename_i es c hH
 obtain⟨L,ES,hL,rfl,hb,hE⟩:=nA R hx hH
 split at h <;> first | (simp at h; done) | skip
 rename_i v hv
 simp only[sJ,pJ]at h
 obtain⟨rfl,rfl⟩:=h
 unfold rR at hv
 cases hi:tC ks k with
 | false=>rw[hi]at hv; simp at hv
 | true=>
  rw[hi]at hv
  simp only[cond_true]at hv
  split at hv <;> first | (simp at hv; done) | skip
  ·rename_i j e hf
   simp only[sJ]at hv
   subst hv
   obtain⟨r',q1,q2⟩:=mw R hk hy hE hf
   obtain⟨_,E,rfl,_,_,⟨_,he2,_⟩,_⟩:=q2
   refine dG.pure R (v:=if ok=true then .tuple #[E.val,.bool true] else E.val) ?_ (sV ok he2 true)
   simp[Instr.lookup,run_underlying hm,MapKept.run_getObj_map hb,iu (w:=w) hk hy hi,q1,Result.andThen]
  ·rename_i hf
   simp only[sJ]at hv
   subst hv
   obtain⟨r',q1,q2⟩:=mw R hk hy hE hf
   simp only[iV]at q2
   subst q2
   refine dG.pure R (v:=if ok=true then .tuple #[zv,.bool false] else zv) ?_ (sV ok (hz2 ρ) false)
   simp[Instr.lookup,run_underlying hm,MapKept.run_getObj_map hb,iu (w:=w) hk hy hi,q1,hz1,Result.andThen]
theorem Ag{kd:gp}{x:aa}{v:Value}(hx:ah ρ x v)(hi:QI kd x=true)(d:Nat):Instr.sameBits (d+1) v v=true:=by
 unfold QI at hi
 split at hi <;> first | (simp at hi; done) | skip
 ·simp only[ah]at hx
  obtain⟨L,l1,l2,rfl⟩:=hx
  simp[Instr.sameBits]
 ·simp only[ah]at hx
  subst hx
  simp[Instr.sameBits]
 ·simp only[ah]at hx
  subst hx
  simp[Instr.sameBits,pH]
theorem EY{ks:gp×gp}{x:aa}{v:Value}(hx:ah ρ x v)(hi:tC ks x=true):(Instr.keyThatStays v v).run P w=.ok v w:=by
 have:Instr.sameBits 10000 v v=true:=by
  unfold tC at hi
  split at hi
  ·obtain⟨xs,a1,a2,rfl,ex,ha1,ha2,g1,g2⟩:=mj hx
   simp only[SE]at hi
   have e1:=Ag ha1 hi.1
   have e2:=Ag ha2 hi.2
   show Instr.sameBits (9999+1) _ _=true
   have gen:∀d,Instr.sameBits (d+1+1) (.agg xs) (.agg xs)=true:=fun d=>by simp[Instr.sameBits,ex,e1,e2]
   exact gen 9998
  ·simp at hi
 simp[Instr.keyThatStays,this]
theorem KF(R:bF Prot w0 ρ H w){t kt el:TypeId}(hm:P.underlying t=some (.map kt el)){ks:gp×gp}(hk:ti P kt=some ks){m k x y:aa}{mv kv xv:Value}(hx:ah ρ m mv)(hy:ah ρ k kv)(hv0:ah ρ x xv)
  (h:wO ks H [m,k,x]=some (y,H')):y=.tuple []/\∃w',(Instr.mapUpdate t mv kv xv).run P w=.ok () w'/\bF Prot w0 ρ H' w':=by
 unfold wO at h
 split at h <;> first | (simp at h; done) | skip
 rename_i r k' x' heq
 simp only[List.cons.injEq,and_true]at heq
 obtain⟨rfl,rfl,rfl⟩:=heq
 split at h <;> first | (simp at h; done) | skip
 rename_i es c hH
 obtain⟨L,ES,hL,rfl,hb,hE⟩:=nA R hx hH
 split at h <;> first | (simp at h; done) | skip
 rename_i es' c' hv
 simp only[sJ,pJ]at h
 obtain⟨rfl,rfl⟩:=h
 unfold yg at hv
 cases hi:tC ks k with
 | false=>rw[hi]at hv; simp at hv
 | true=>
  rw[hi]at hv
  simp only[cond_true]at hv
  split at hv <;> first | (simp at hv; done) | skip
  ·rename_i j e hf
   simp only[sJ,pJ]at hv
   obtain⟨rfl,rfl⟩:=hv
   obtain⟨r',q1,q2⟩:=mw R hk hy hE hf
   obtain⟨_,E,rfl,q3,q4,⟨he1,he2,he3⟩,q5⟩:=q2
   rw[Nat.sub_zero,Array.getElem?_toList]at q4
   refine⟨rfl,_,?_,fX R hL hH (ES':=ES.modify j fun e=>{ e with key:=kv,val:=xv }) (by
    rw[j5 q4]
    exact hE.set j ⟨hy,hv0,he3⟩)⟩
   simp[Instr.mapUpdate,run_underlying hm,MapKept.run_getObj_map hb,iu (w:=w) hk hy hi,q1,q4,q5,EY (w:=w) hy hi,MapKept.run_setObj_map _ hb,Result.andThen]
  ·rename_i hf
   simp only[sJ,pJ]at hv
   obtain⟨rfl,rfl⟩:=hv
   obtain⟨r',q1,q2⟩:=mw R hk hy hE hf
   simp only[iV]at q2
   subst q2
   refine⟨rfl,_,?_,fX R hL hH (ES':=ES.push { key:=kv,val:=xv,born:=c }) (by
    rw[Array.toList_push]
    refine hE.append ?_
    simp only[aC]
    exact⟨_,_,rfl,⟨hy,hv0,rfl⟩,rfl⟩)⟩
   simp[Instr.mapUpdate,run_underlying hm,MapKept.run_getObj_map hb,iu (w:=w) hk hy hi,q1,MapKept.run_setObj_map _ hb,Result.andThen]
theorem IL{es:List ip}{ES:List MapEntry}(h:aC ρ es ES):∀i,aC ρ (es.eraseIdx i) (ES.eraseIdx i):=by
 induction es generalizing ES with
 | nil=>intro i; simp only[aC]at h; subst h; simp[aC]
 | cons e es ih=>
  simp only[aC]at h
  obtain⟨E,r,rfl,h1,h2⟩:=h
  intro i
  cases i with
  | zero=>simpa using h2
  | succ i=>simp only[List.eraseIdx_cons_succ,aC]; exact⟨E,_,rfl,h1,ih h2 i⟩
theorem KH(R:bF Prot w0 ρ H w){t kt el ty t2:TypeId}(hm:P.underlying t=some (.map kt el)){ks:gp×gp}(hk:ti P kt=some ks){m k y:aa}{mv kv:Value}(hx:ah ρ m mv)(hy:ah ρ k kv)
  (h:Jy ks H [m,k]=some (y,H')):dG P Prot w0 ρ w (Builtin.delete_ #[t,t2] ty #[mv,kv]) y H':=by
 unfold Jy at h
 split at h <;> first | (simp at h; done) | skip
 rename_i r k' heq
 simp only[List.cons.injEq,and_true]at heq
 obtain⟨rfl,rfl⟩:=heq
 split at h <;> first | (simp at h; done) | skip
 rename_i es c hH
 obtain⟨L,ES,hL,rfl,hb,hE⟩:=nA R hx hH
 split at h <;> first | (simp at h; done) | skip
 rename_i es' c' hv
 simp only[sJ,pJ]at h
 obtain⟨rfl,rfl⟩:=h
 unfold Jx at hv
 cases hi:tC ks k with
 | false=>rw[hi]at hv; simp at hv
 | true=>
  rw[hi]at hv
  simp only[cond_true]at hv
  split at hv <;> first | (simp at hv; done) | skip
  ·rename_i j e hf
   simp only[sJ,pJ]at hv
   obtain⟨rfl,rfl⟩:=hv
   obtain⟨r',q1,q2⟩:=mw R hk hy hE hf
   obtain⟨_,E,rfl,q3,q4,_,q5⟩:=q2
   refine⟨ρ,_,.tuple #[],Pl.le_refl _,?_,fX R hL hH (ES':=ES.eraseIdxIfInBounds j) (by
    rw[Array.toList_eraseIdxIfInBounds]
    exact IL hE j),by simp[ah,aq]⟩
   simp[Builtin.delete_,run_underlying hm,MapKept.run_getObj_map hb,iu (w:=w) hk hy hi,q1,MapKept.run_setObj_map _ hb,Result.andThen]
  ·rename_i hf
   simp only[sJ,pJ]at hv
   obtain⟨rfl,rfl⟩:=hv
   obtain⟨r',q1,q2⟩:=mw R hk hy hE hf
   simp only[iV]at q2
   subst q2
   refine⟨ρ,_,.tuple #[],Pl.le_refl _,?_,fX R hL hH (ES':=ES) hE,by simp[ah,aq]⟩
   simp[Builtin.delete_,run_underlying hm,MapKept.run_getObj_map hb,iu (w:=w) hk hy hi,q1,MapKept.run_setObj_map _ hb,Result.andThen]
end
end Go.Abs
namespace Go.Abs
def cj:Nat:=1024
inductive a8 where
 | t (i:Nat)
 | c (v:aa)
 | f (id:FuncId)
inductive gL where
 | mv (x:a8)
 | pick (c a b:a8)
 | new (zero:List aa)
 | box (x:a8)
 | build (zero:List aa) (parts:List (Nat×Nat×a8))
 | buildSl (len:Nat) (zero:List aa) (parts:List (Nat×Nat×a8))
 | load (agg:Bool) (size:Nat) (x:a8)
 | store (size:Nat) (a x:a8)
 | nilChk (x:a8)
 | bin (op:BinOp) (x y:a8)
 | un (op:UnOp) (x:a8)
 | conv (k:IntKind) (x:a8)
 | convSB (x:a8)
 | convBS (x:a8)
 | mkFunc (fn:Fn) (first captured:List a8)
 | mkIface (t:TypeId) (x:a8)
 | mkSlice (bytes:Nat) (zero:List aa) (l c:a8)
 | sl (size:Nat) (x:a8) (lo hi mx:Option a8)
 | slStr (x:a8) (lo hi:Option a8)
 | fieldA (off:Nat) (x:a8)
 | field (agg:Bool) (size off:Nat) (x:a8)
 | idxA (size:Nat) (x i:a8)
 | idxArr (n size:Nat) (x i:a8)
 | idx (n size:Nat) (agg:Bool) (x i:a8)
 | idxS (x i:a8)
 | extract (i:Nat) (x:a8)
 | append (size bytes:Nat) (s x:a8)
 | len (str:Bool) (x:a8)
 | call (f:FuncId) (args:List a8)
 | callv (f:a8) (args:List a8)
 | pf (f:PF) (xs:List a8)
 | hf (f:HF) (xs:List a8)
 | bad
 | claim (b:Nat) (zero:List aa) (s:Option (Nat×Nat))
 | slA (n size:Nat) (x:a8) (lo hi mx:Option a8)
inductive Nx where
 | val (v:aa)
 | enter (f:FuncId) (args:List aa)
def aR:aa:=.tuple []
def ev(T:Tr aa):a8->aa
 | .t i=>match T.get i with
  | some v=>v
  | none=>aR
 | .c v=>v
 | .f id=>.func (.func id) [] []
def fT(T:Tr aa):List a8->List aa
 | []=>[]
 | x::r=>ev T x::fT T r
def zQ(T:Tr aa):Option a8->Option aa
 | none=>none
 | some x=>some (ev T x)
def AG(T:Tr aa):List (Nat×Nat×a8)->List (Nat×Nat×aa)
 | []=>[]
 | (o,n,x)::r=>(o,n,ev T x)::AG T r
def vv(H:ae):Option aa->Option (Nx×ae)
 | some v=>some (.val v,H)
 | none=>none
def vh:Option (aa×ae)->Option (Nx×ae)
 | some (v,H)=>some (.val v,H)
 | none=>none
def cF:aa->Option aa
 | .ptr none=>none
 | .nilIface=>none
 | .nilFunc=>none
 | .func (.method _) _ _=>none
 | .val _=>none
 | x=>some x
def iT(str:Bool):aa->Option aa
 | .str s=>bif str then some (.int .i64 s.length) else none
 | .slice _ n _=>bif str then none else some (.int .i64 n)
 | .val (.slice _ n _)=>bif str then none else some (.int .i64 n)
 | _=>none
def bW(tb:FuncId->Bool)(T:Tr aa)(H:ae):gL->Option (Nx×ae)
 | .mv x=>some (.val (ev T x),H)
 | .pick c a b=>match ev T c with
  | .bool b'=>some (.val (bif b' then ev T a else ev T b),H)
  | _=>none
 | .new z=>vh (some (fS H z))
 | .box x=>vh (some (fS H (ev T x).cells))
 | .build z ps=>vv H (aL z (AG T ps))
 | .buildSl n z ps=>vh (cA n z H (AG T ps))
 | .load a n x=>vv H (au a n H (ev T x))
 | .store n a x=>match bu n H (ev T a) (ev T x) with
  | some H'=>some (.val aR,H')
  | none=>none
 | .nilChk x=>vv H (cF (ev T x))
 | .bin op x y=>vv H (bv op (ev T x) (ev T y))
 | .un op x=>vv H (LN op (ev T x))
 | .conv k x=>vv H (qU k (ev T x))
 | .convSB x=>vh (OQ H (ev T x))
 | .convBS x=>vv H (OR H (ev T x))
 | .mkFunc fn a b=>some (.val (.func fn (fT T a) (fT T b)),H)
 | .mkIface t x=>some (.val (.iface t (ev T x)),H)
 | .mkSlice b z l c=>vh (wP b z H (ev T l) (ev T c))
 | .sl n x lo hi mx=>vv H (LP n (ev T x) (zQ T lo) (zQ T hi) (zQ T mx))
 | .slStr x lo hi=>vv H (fG (ev T x) (zQ T lo) (zQ T hi))
 | .fieldA o x=>vv H (ic o (ev T x))
 | .field a n o x=>vv H (mJ a n o (ev T x))
 | .idxA n x i=>vv H (iU n (ev T x) (ev T i))
 | .idxArr m n x i=>vv H (fw m n (ev T x) (ev T i))
 | .idx m n a x i=>vv H (B6 m n a (ev T x) (ev T i))
 | .idxS x i=>vv H (lT (ev T x) (ev T i))
 | .extract i x=>vv H (eR i (ev T x))
 | .append n b s x=>vh (bQ n b H (ev T s) (ev T x))
 | .len s x=>vv H (iT s (ev T x))
 | .call f args=>bif tb f then some (.enter f (fT T args),H) else none
 | .callv f args=>match ev T f with
  | .func (.func f) a b=>bif Nat.blt f cj&&tb f then some (.enter f (a++fT T args++b),H) else none
  | _=>none
 | .pf f xs=>vv H (gJ f (fT T xs))
 | .hf f xs=>vh (mV f H (fT T xs))
 | .bad=>none
 | .claim b z s=>vv H (dy H b z s)
 | .slA m n x lo hi mx=>vv H (nR m n (ev T x) (zQ T lo) (zQ T hi) (zQ T mx))
section
variable (P:Program)
def bT:Operand->Option a8
 | .tmp t=>some (.t t)
 | .const v=>match LL v with
  | some x=>some (.c x)
  | none=>none
 | .global _=>none
 | .func f=>some (.f f)
def dC:List Operand->Option (List a8)
 | []=>some []
 | x::r=>match bT x,dC r with
  | some y,some l=>some (y::l)
  | _,_=>none
def mT:Option Operand->Option (Option a8)
 | none=>some none
 | some x=>match bT x with
  | some y=>some (some y)
  | none=>none
def lM(place:Nat->Option (Nat×Nat)):List (Nat×Operand)->Option (List (Nat×Nat×a8))
 | []=>some []
 | (i,x)::r=>match place i,bT x,lM place r with
  | some (o,n),some y,some l=>some ((o,n,y)::l)
  | _,_,_=>none
def bO(f:FuncId):Bool:=
 Nat.blt f cj&&match P.funcs[f]? with
 | some fn => fn.body.isSome && !(fn.name == "runtime.NumGoroutine")
 | none=>false
def lu(t:TypeId):Bool:=
 match P.underlying t with
 | some (.slice _)=>true
 | some .string=>true
 | _=>false
def iR(c:Call):Option gL:=
 match c.callee with
 | .value (.func f)=>bif Nat.blt f cj then match dC c.args.toList with
   | some l=>some (.call f l)
   | none=>none
  else none
 | .value x=>match bT x,dC c.args.toList with
  | some y,some l=>some (.callv y l)
  | _,_=>none
 | .builtin .append=>match c.argTypes.toList,dC c.args.toList with
  | [sT,xT],some [s,x]=>match P.underlying sT with
   | some (.slice e)=>match ep P e,pY P e with
    | some (_,n),some (n',b)=>bif Nat.beq n n'&&lu P xT then some (.append n b s x) else none
    | _,_=>none
   | _=>none
  | _,_=>none
 | .builtin .len=>match c.argTypes.toList,dC c.args.toList with
  | [T],some [x]=>match P.underlying T with
   | some (.slice _)=>some (.len false x)
   | some .string=>some (.len true x)
   | _=>none
  | _,_=>none
 | _=>none
def ya(o:Op):Option gL:=
 match o with
 | .move x=>match bT x with | some y=>some (.mv y) | none=>none
 | .assign x=>match bT x with | some y=>some (.mv y) | none=>none
 | .pick c a b=>match bT c,bT a,bT b with | some c,some a,some b=>some (.pick c a b) | _,_,_=>none
 | .alloc e=>match dH P e with | some z=>some (.new z) | none=>none
 | .box _ x=>match bT x with | some y=>some (.box y) | none=>none
 | .build t ps=>match P.underlying t,dH P t with
  | some (.struct fs),some z=>match jI P fs.toList with
   | some pl=>match lM (fun i=>pl[i]?) ps.toList with
    | some l=>some (.build z l)
    | none=>none
   | none=>none
  | some (.array _ e),some z=>match ep P e with
   | some (_,n)=>match lM (fun i=>some (i*n,n)) ps.toList with
    | some l=>some (.build z l)
    | none=>none
   | none=>none
  | _,_=>none
 | .buildSlice t len ps=>match P.underlying t with
  | some (.slice e)=>match ep P e,dH P e with
   | some (_,n),some z=>match lM (fun i=>some (i*n,n)) ps.toList with
    | some l=>bif Nat.beq z.length n&&Nat.ble (len*n) 16777216 then some (.buildSl len z l) else none
    | none=>none
   | _,_=>none
  | _=>none
 | .load t a=>match ep P t,bT a with | some (g,n),some y=>some (.load g n y) | _,_=>none
 | .store t a x=>match ep P t,bT a,bT x with | some (_,n),some a,some y=>some (.store n a y) | _,_,_=>none
 | .nilCheck x=>match bT x with | some y=>some (.nilChk y) | none=>none
 | .binOp op _ x y _=>match bT x,bT y with | some a,some b=>some (.bin op a b) | _,_=>none
 | .unOp op _ x=>match bT x with | some y=>some (.un op y) | none=>none
 | .convert s d x=>match bT x with
  | some y=>match P.underlying s,P.underlying d with
   | some _,some (.int k)=>some (.conv k y)
   | some .string,some (.slice e)=>match P.underlying e with
    | some (.int .u8)=>some (.convSB y)
    | _=>none
   | some (.slice e),some .string=>match P.underlying e with
    | some (.int .u8)=>some (.convBS y)
    | _=>none
   | _,_=>none
  | none=>none
 | .makeInterface t x=>match bT x,P.underlying t with
  | some _,some (.interface _)=>none
  | some y,some _=>some (.mkIface t y)
  | _,_=>none
 | .makeFunc fn a b=>match dC a.toList,dC b.toList with | some a,some b=>some (.mkFunc fn a b) | _,_=>none
 | .makeSlice t l c=>match P.underlying t with
  | some (.slice e)=>match pY P e,dH P e,bT l,bT c with
   | some (_,b),some z,some l,some c=>some (.mkSlice b z l c)
   | _,_,_,_=>none
  | _=>none
 | .slice t x lo hi mx=>match P.underlying t,bT x,mT lo,mT hi,mT mx with
  | some .string,some x,some lo,some hi,some none=>some (.slStr x lo hi)
  | some (.slice e),some x,some lo,some hi,some mx=>match ep P e with
   | some (_,n)=>some (.sl n x lo hi mx)
   | none=>none
  | _,_,_,_,_=>none
 | .fieldAddr s x i=>match P.underlying s,bT x with
  | some (.struct fs),some y=>match fs[i]? with
   | some f=>match ep P f.type with
    | some (_,n)=>bif Nat.beq n 0 then none else some (.fieldA f.offset y)
    | none=>none
   | none=>none
  | _,_=>none
 | .field s x i=>match P.underlying s,bT x with
  | some (.struct fs),some y=>match fs[i]? with
   | some f=>match ep P f.type with
    | some (g,n)=>some (.field g n f.offset y)
    | none=>none
   | none=>none
  | _,_=>none
 | .indexAddr t x i=>match P.underlying t,bT x,bT i with
  | some (.slice e),some x,some i=>match ep P e with
   | some (_,n)=>some (.idxA n x i)
   | none=>none
  | some (.array m e),some x,some i=>match ep P e with
   | some (_,n)=>some (.idxArr m n x i)
   | none=>none
  | _,_,_=>none
 | .index t x i=>match P.underlying t,bT x,bT i with
  | some .string,some x,some i=>some (.idxS x i)
  | some (.array m e),some x,some i=>match ep P e with
   | some (g,n)=>some (.idx m n g x i)
   | none=>none
  | _,_,_=>none
 | .extract x i=>match bT x with | some y=>some (.extract i y) | none=>none
 | .call c=>iR P c
 | _=>none
def nN(o:Op):Option gL:=
 match o with
 | .binOp .eql t x y _=>match bT x,bT y with
  | some a,some b=>match qP P t x y with
   | some k=>some (.pf (.eqv false k) [a,b])
   | none=>match xQ P t with
    | some fs=>some (.pf (.eqS false fs) [a,b])
    | none=>none
  | _,_=>none
 | .binOp .neq t x y _=>match bT x,bT y with
  | some a,some b=>match qP P t x y with
   | some k=>some (.pf (.eqv true k) [a,b])
   | none=>match xQ P t with
    | some fs=>some (.pf (.eqS true fs) [a,b])
    | none=>none
  | _,_=>none
 | .range t x=>match P.underlying t,bT x with
  | some .string,some y=>some (.hf .strRange [y])
  | _,_=>none
 | .next x true=>match bT x with
  | some y=>some (.hf .strNext [y])
  | none=>none
 | .slice t x lo hi mx=>match P.underlying t,bT x,mT lo,mT hi,mT mx with
  | some (.array m e),some x,some lo,some hi,some mx=>match ep P e with
   | some (_,n)=>some (.slA m n x lo hi mx)
   | none=>none
  | _,_,_,_,_=>none
 | .convert s d x=>bif Nat.beq s d then (match P.underlying s,bT x with
  | some (.slice e),some y=>match P.underlying e with
   | some (.int .u8)=>some (.hf .mark [y])
   | _=>none
  | _,_=>none) else none
 | .call c=>match c.callee with
  | .builtin .max=>match dC c.args.toList with
   | some l=>some (.pf (.mm true) l)
   | none=>none
  | .builtin .clear=>match c.argTypes.toList,dC c.args.toList with
   | [t],some [x]=>match P.underlying t with
    | some (.slice e)=>match dH P e with
     | some z=>some (.hf (.clr z) [x])
     | none=>none
    | _=>none
   | _,_=>none
  | .builtin .delete=>match c.argTypes.toList,dC c.args.toList with
   | [t,_],some [m,k]=>match P.underlying t with
    | some (.map kt _)=>match ti P kt with
     | some ks=>some (.hf (.pDel ks) [m,k])
     | none=>none
    | _=>none
   | _,_=>none
  | .builtin .copy=>match c.argTypes.toList,dC c.args.toList with
   | [t,_],some [s,x]=>match P.underlying t with
    | some (.slice e)=>match ep P e with
     | some (_,n)=>some (.hf (.cpy n) [s,x])
     | none=>none
    | _=>none
   | _,_=>none
  | .builtin .min=>match dC c.args.toList with
   | some l=>some (.pf (.mm false) l)
   | none=>none
  | .value (.func f)=>bif C0 P f then match dC c.args.toList with
    | some l=>some (.pf .ibs l)
    | none=>none
   else bif C3 P f then match dC c.args.toList with
    | some l=>some (.pf .cbs l)
    | none=>none
   else none
  | _=>none
 | .indexAddr t (.global g) i=>match P.underlying t,bT i with
  | some (.array m e),some i=>match ep P e with
   | some (_,n)=>some (.hf (.gIdx g m n) [i])
   | none=>none
  | _,_=>none
 | .load t (.global g)=>match ep P t with
  | some (a,n)=>some (.hf (.gLd g a n) [])
  | none=>none
 | .fieldAddr s (.global g) i=>match P.underlying s with
  | some (.struct fs)=>match fs[i]? with
   | some f=>match ep P f.type with
    | some (_,n)=>bif Nat.beq n 0 then none else some (.hf (.gFld g f.offset) [])
    | none=>none
   | none=>none
  | _=>none
 | .sliceToArrayPointer t x=>match P.underlying t,bT x with
  | some (.array n _),some y=>some (.pf (.s2a n) [y])
  | _,_=>none
 | .makeMap _ none=>some (.hf .mkMap [])
 | .lookup t m k ok=>match P.underlying t,bT m,bT k with
  | some (.map kt el),some m,some k=>match tz P kt,qp P el with
   | some kc,some z=>some (.hf (.mLook kc ok z) [m,k])
   | none,some z=>match ti P kt with
    | some ks=>some (.hf (.pLook ks ok z) [m,k])
    | none=>none
   | _,_=>none
  | _,_,_=>none
 | .mapEntry t m k=>match P.underlying t,bT m,bT k with
  | some (.map kt el),some m,some k=>match tz P kt,qp P el with
   | some kc,some z=>some (.hf (.mf (.entry kc z)) [m,k])
   | _,_=>none
  | _,_,_=>none
 | .entryStore _ m n x=>match bT m,bT n,bT x with
  | some m,some n,some x=>some (.hf (.mf .store) [m,n,x])
  | _,_,_=>none
 | .mapUpdate t m k x=>match P.underlying t,bT m,bT k,bT x with
  | some (.map kt _),some m,some k,some x=>match tz P kt with
   | some kc=>some (.hf (.mf (.upd kc)) [m,k,x])
   | none=>match ti P kt with
    | some ks=>some (.hf (.pUpd ks) [m,k,x])
    | none=>none
  | _,_,_,_=>none
 | .insert t m k x=>match P.underlying t,bT m,bT k,bT x with
  | some (.map kt _),some m,some k,some x=>match tz P kt with
   | some kc=>some (.hf (.mf (.upd kc)) [m,k,x])
   | none=>none
  | _,_,_,_=>none
 | .typeAssert x _ t ok=>match P.underlying t,qp P t,bT x with
  | some (.interface _),_,_=>none
  | some _,some z,some y=>some (.pf (.tAss t ok z) [y])
  | _,_,_=>none
 | _=>none
def uG(o:Op):Option gL:=
 match nN P o with
 | some a=>some a
 | none=>match ya P o with
  | some a=>some a
  | none=>some .bad
end
section
variable {P:Program} {Prot:Gh} {w0:World} {ρ:Pl} {H H':ae} {w:World}
structure be(ρ:Pl)(n:Nat)(T:Tr aa)(tmps:Array Value):Prop where
 size:tmps.size=n
 at_:∀t,ah ρ (ev T (.t t)) (tmps.getD t undef)
theorem be.mono{ρ ρ':Pl}{n:Nat}{T:Tr aa}{tmps:Array Value}(h:ρ.le ρ')(t:be ρ n T tmps):be ρ' n T tmps:=⟨t.size,fun i=>ah.mono h _ _ (t.at_ i)⟩
theorem aG{n:Nat}{T:Tr aa}{a:Act}(h:be ρ n T a.tmps){x:Operand}{y:a8}(hc:bT x=some y):ah ρ (ev T y) (a.eval x):=by
 cases x with
 | tmp t=>simp only[bT,sJ]at hc; subst hc; exact h.at_ t
 | const v=>
  simp only[bT]at hc
  split at hc
  ·rename_i x hx
   simp only[sJ]at hc
   subst hc
   exact Ee hx
  ·simp at hc
 | global g=>simp[bT]at hc
 | func f=>
  simp only[bT,sJ]at hc
  subst hc
  simp only[ev,Act.eval,ah]
  exact⟨#[],#[],rfl,by simp[aq],by simp[aq]⟩
theorem gI{n:Nat}{T:Tr aa}{a:Act}(h:be ρ n T a.tmps):∀{l:List Operand} {m:List a8},dC l=some m->aq ρ (fT T m) (l.map a.eval):=by
 intro l
 induction l with
 | nil=>intro m hc; simp only[dC,sJ]at hc; subst hc; simp[fT,aq]
 | cons x r ih=>
  intro m hc
  simp only[dC]at hc
  split at hc
  ·rename_i y l' h1 h2
   simp only[sJ]at hc
   subst hc
   simp only[fT,List.map_cons,aq]
   exact⟨_,_,rfl,aG h h1,ih h2⟩
  ·simp at hc
theorem jh{n:Nat}{T:Tr aa}{a:Act}(h:be ρ n T a.tmps){x:Option Operand}{y:Option a8}(hc:mT x=some y):ge ρ (zQ T y) (x.map a.eval):=by
 cases x with
 | none=>simp only[mT,sJ]at hc; subst hc; rfl
 | some x=>
  simp only[mT]at hc
  split at hc
  ·rename_i z hz
   simp only[sJ]at hc
   subst hc
   exact⟨_,rfl,aG h hz⟩
  ·simp at hc
theorem oA{n:Nat}{T:Tr aa}{a:Act}(h:be ρ n T a.tmps){place:Nat->Option (Nat×Nat)}:∀{l:List (Nat×Operand)} {m:List (Nat×Nat×a8)},lM place l=some m ->
  eT ρ place (AG T m) (l.map fun p=>(p.1,a.eval p.2)):=by
 intro l
 induction l with
 | nil=>intro m hc; simp only[lM,sJ]at hc; subst hc; simp[AG,eT]
 | cons x r ih=>
  intro m hc
  obtain⟨i,x⟩:=x
  simp only[lM]at hc
  split at hc
  ·rename_i o k y l' h1 h2 h3
   simp only[sJ]at hc
   subst hc
   simp only[AG,List.map_cons,eT]
   exact⟨_,_,_,rfl,h1,aG h h2,ih h3⟩
  ·simp at hc
def jQ(P:Program)(ρ:Pl):Nx->Next->Prop
 | .val x,.value v=>ah ρ x v
 | .val x,.skip=>ah ρ x undef
 | .enter f l,.enter g vs=>g=f/\Nat.blt f cj=true/\aq ρ l vs.toList
 | _,_=>False
def aX(P:Program)(Prot:Gh)(w0:World)(ρ:Pl)(w:World)(s:Sem Next)(nx:Nx)(H':ae):Prop:=
 ∃ρ' w' n,ρ.le ρ'/\s.run P w=.ok n w'/\bF Prot w0 ρ' H' w'/\jQ P ρ' nx n
theorem aX.val(R:bF Prot w0 ρ H w){x:aa}{s:Sem Value}(h:∃u,s.run P w=.ok u w/\ah ρ x u):aX P Prot w0 ρ w (do pure (.value (<- s))) (.val x) H:=by
 obtain⟨u,h1,h2⟩:=h
 exact⟨ρ,w,.value u,Pl.le_refl _,by simp only[Sem.run_bind,h1,Result.andThen_ok]; rfl,R,h2⟩
theorem aX.good{x:aa}{s:Sem Value}(h:dG P Prot w0 ρ w s x H'):aX P Prot w0 ρ w (do pure (.value (<- s))) (.val x) H':=by
 obtain⟨ρ',w',u,h1,h2,h3,h4⟩:=h
 exact⟨ρ',w',.value u,h1,by simp only[Sem.run_bind,h2,Result.andThen_ok]; rfl,h3,h4⟩
theorem bD{x:Option aa}{nx:Nx}(h:vv H x=some (nx,H')):∃y,x=some y/\nx=.val y/\H'=H:=by
 unfold vv at h
 split at h
 ·simp only[sJ,pJ]at h; exact⟨_,rfl,h.1.symm,h.2.symm⟩
 ·simp at h
theorem cr{x:Option (aa×ae)}{nx:Nx}(h:vh x=some (nx,H')):∃y,x=some (y,H')/\nx=.val y:=by
 unfold vh at h
 split at h
 ·simp only[sJ,pJ]at h; obtain⟨rfl,rfl⟩:=h; exact⟨_,rfl,rfl⟩
 ·simp at h
theorem Fj(R:bF Prot w0 ρ H w){x y:aa}{v:Value}(hx:ah ρ x v)(h:cF x=some y)(o:Oper){q:Operand}(ev':Operand->Value)(hv:ev' q=v) :
  aX P Prot w0 ρ w (execOp ev' { o with op:=.nilCheck q }) (.val y) H:=by
 have hy:y=x/\(∀b,execOp ev' { o with op:=.nilCheck q }=pure (.value v)∨b=true):=by
  cases x with
  | val a=>simp[cF]at h
  | ptr a=>
   cases a with
   | none=>simp[cF]at h
   | some a=>
    simp only[cF,sJ]at h
    simp only[ah]at hx
    obtain⟨L,_,_,rfl⟩:=hx
    exact⟨h.symm,fun _=>.inl (by simp[execOp,hv])⟩
  | nilIface=>simp[cF]at h
  | nilFunc=>simp[cF]at h
  | func fn a b=>
   cases fn <;> simp only[cF,sJ,reduceCtorEq]at h
   all_goals
    simp only[ah]at hx
    obtain⟨f,c,rfl,_⟩:=hx
    exact⟨h.symm,fun _=>.inl (by simp[execOp,hv])⟩
  | slice a n r=>
   simp only[cF,sJ]at h
   have:∃b m c,v=.slice b m c:=by
    cases a with
    | none=>simp only[ah]at hx; exact⟨_,_,_,hx.2.2⟩
    | some a=>obtain⟨_,_,_,_,_,h3,_⟩:=cT hx; exact⟨_,_,_,h3⟩
   obtain⟨b,m,c,rfl⟩:=this
   exact⟨h.symm,fun _=>.inl (by simp[execOp,hv])⟩
  | map a=>
   simp only[cF,sJ]at h
   cases a with
   | none=>simp only[ah]at hx; subst hx; exact⟨h.symm,fun _=>.inl (by simp[execOp,hv])⟩
   | some a=>simp only[ah]at hx; obtain⟨L,_,rfl⟩:=hx; exact⟨h.symm,fun _=>.inl (by simp[execOp,hv])⟩
  | bool b=>simp only[cF,sJ]at h; simp only[ah]at hx; subst hx; exact⟨h.symm,fun _=>.inl (by simp[execOp,hv])⟩
  | int b c=>simp only[cF,sJ]at h; simp only[ah]at hx; subst hx; exact⟨h.symm,fun _=>.inl (by simp[execOp,hv])⟩
  | str b=>simp only[cF,sJ]at h; simp only[ah]at hx; subst hx; exact⟨h.symm,fun _=>.inl (by simp[execOp,hv])⟩
  | iface t b=>simp only[cF,sJ]at h; simp only[ah]at hx; obtain⟨_,rfl,_⟩:=hx; exact⟨h.symm,fun _=>.inl (by simp[execOp,hv])⟩
  | agg l=>simp only[cF,sJ]at h; simp only[ah]at hx; obtain⟨_,rfl,_⟩:=hx; exact⟨h.symm,fun _=>.inl (by simp[execOp,hv])⟩
  | tuple l=>simp only[cF,sJ]at h; simp only[ah]at hx; obtain⟨_,rfl,_⟩:=hx; exact⟨h.symm,fun _=>.inl (by simp[execOp,hv])⟩
 obtain⟨rfl,h2⟩:=hy
 rcases h2 false with h2 | h2
 ·exact⟨ρ,w,.value v,Pl.le_refl _,by rw[h2]; rfl,R,hx⟩
 ·simp at h2
end
end Go.Abs
