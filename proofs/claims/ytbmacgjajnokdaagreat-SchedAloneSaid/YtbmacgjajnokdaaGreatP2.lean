/- Part of a proof (A7 A8 A8b A8c A8d A8e A8f A8h); no condition. -/
import Derived.Laws.BytesString
import Derived.Lib.ConvBytes
import Derived.Lib.Bytealg
import Derived.Laws.Externs
import Derived.Laws.Small
import Derived.Laws.StructEq
import Derived.Lib.OthersKept
import Derived.ChangeKeysEq
import Derived.Laws.Sem
import Derived.MapKept
import Derived.Carry
import Derived.Test.YtbmacgjajnokdaaGreatP1
set_option linter.unusedSimpArgs false
set_option linter.unusedVariables false
set_option linter.defProp false
set_option linter.unnecessarySimpa false
namespace Go.Abs
section
variable {P:Program} {Prot:Gh} {w0:World} {ρ:Pl} {H H':AHeap} {w:World}
def splice(l:List AVal)(off:Nat)(xs:List AVal):List AVal:=l.take off++(xs++l.drop (off+xs.length))
def aFill:List AVal→List (Nat×Nat×AVal)→Option (List AVal)
 | cells,[]=>some cells
 | cells,(off,size,v)::r=>bif Nat.beq v.cells.length size&&Nat.ble (off+size) cells.length then aFill (splice cells off v.cells) r else none
theorem foldl_set(off:Nat):∀(l:List Value) (k:Nat) (C:Array Value),off+k+l.length≤C.size →
  ((l.zipIdx k).foldl (fun (cs:Array Value) (p:Value×Nat)=>cs.setIfInBounds (off+p.2) p.1) C).size=C.size ∧
  ∀j,((l.zipIdx k).foldl (fun (cs:Array Value) (p:Value×Nat)=>cs.setIfInBounds (off+p.2) p.1) C)[j]?=if off+k≤j∧j<off+k+l.length then l[j-(off+k)]? else C[j]?:=by
 intro l
 induction l with
 | nil=>intro k C _; refine⟨rfl,fun j=>?_⟩; rw[if_neg (by simp only[List.length_nil]; omega)]; rfl
 | cons v l ih=>
  intro k C hb
  simp only[List.length_cons]at hb
  simp only[List.zipIdx_cons,List.foldl_cons]
  obtain⟨h1,h2⟩:=ih (k+1) (C.setIfInBounds (off+k) v) (by rw[Array.size_setIfInBounds]; omega)
  refine⟨by rw[h1,Array.size_setIfInBounds],fun j=>?_⟩
  rw[h2 j]
  simp only[List.length_cons]
  by_cases c1:off+(k+1)≤j∧j<off+(k+1)+l.length
  ·rw[if_pos c1,if_pos om,show j-(off+k)=(j-(off+(k+1)))+1 by omega]
   simp
  ·rw[if_neg c1]
   by_cases c2:j=off+k
   ·subst c2
    rw[if_pos om]
    have:off+k<C.size:=om
    simp[this]
   ·rw[if_neg om,Array.getElem?_setIfInBounds_ne om]
theorem splice_rel{l xs:List AVal}{C:Array Value}{vs:Array Value}{off:Nat}(hl:VRels ρ l C.toList)(hv:VRels ρ xs vs.toList)(hb:off+xs.length≤l.length) :
  VRels ρ (splice l off xs) (vs.zipIdx.foldl (fun (cs:Array Value) (p:Value×Nat)=>cs.setIfInBounds (off+p.2) p.1) C).toList:=by
 have e1:=VRels.len hl
 have e2:=VRels.len hv
 simp only[Array.length_toList]at e1 e2
 have hf:vs.zipIdx.foldl (fun (cs:Array Value) (p:Value×Nat)=>cs.setIfInBounds (off+p.2) p.1) C=(vs.toList.zipIdx 0).foldl (fun (cs:Array Value) (p:Value×Nat)=>cs.setIfInBounds (off+p.2) p.1) C:=by
  rw[← Array.foldl_toList,Array.toList_zipIdx]
 rw[hf]
 obtain⟨h1,h2⟩:=foldl_set off vs.toList 0 C (by simp; omega)
 refine VRels.of_nth _ _ (by simp only[Array.length_toList,h1,splice,lA,List.length_take,List.length_drop]; omega) fun i x hx=>?_
 rw[Array.getElem?_toList,h2 i]
 simp only[Array.length_toList]
 unfold splice at hx
 by_cases c1:off+0≤i∧i<off+0+vs.size
 ·rw[if_pos c1]
  rw[List.getElem?_append_right (by simp; omega),List.getElem?_append_left (by simp; omega)]at hx
  have:i-(l.take off).length=i-(off+0):=by simp; omega
  rw[this]at hx
  exact hv.nth _ _ hx
 ·rw[if_neg c1,← Array.getElem?_toList]
  refine hl.nth _ _ ?_
  rw[← hx]
  by_cases c2:i<off
  ·rw[List.getElem?_append_left (by simp; omega),List.getElem?_take,if_pos c2]
  ·rw[List.getElem?_append_right (by simp; omega),List.getElem?_append_right (by simp; omega),List.getElem?_drop]
   congr 1
   simp
   omega
def PartsRel(ρ:Pl)(place:Nat→Option (Nat×Nat)):List (Nat×Nat×AVal)→List (Nat×Value)→Prop
 | [],ps=>ps=[]
 | (off,size,x)::l,ps=>∃i v r,ps=(i,v)::r∧place i=some (off,size)∧VRel ρ x v∧PartsRel ρ place l r
theorem fill_ok{place:Nat→Option (Nat×Nat)}:∀{ps:List (Nat×Nat×AVal)} {qs:List (Nat×Value)} {cells out:List AVal} {C:Array Value},PartsRel ρ place ps qs→VRels ρ cells C.toList →
  aFill cells ps=some out→∃C',Instr.fill place C qs=some C'∧VRels ρ out C'.toList:=by
 intro ps
 induction ps with
 | nil=>
  intro qs cells out C hp hc h
  simp only[PartsRel]at hp
  subst hp
  simp only[aFill,sJ]at h
  subst h
  exact⟨C,rfl,hc⟩
 | cons p ps ih=>
  intro qs cells out C hp hc h
  obtain⟨off,size,x⟩:=p
  simp only[PartsRel]at hp
  obtain⟨i,v,r,rfl,hpl,hx,hr⟩:=hp
  simp only[aFill]at h
  cases hg:(Nat.beq x.cells.length size&&Nat.ble (off+size) cells.length) with
  | false=>rw[hg]at h; simp at h
  | true=>
   rw[hg]at h
   simp only[Bool.and_eq_true,Nat.ble_eq]at hg
   obtain⟨g1,g2⟩:=hg
   have g1:=Nat.eq_of_beq_eq_true g1
   simp only[cond_true]at h
   have hxc:=hx.cells
   have e1:=VRels.len hxc
   have e2:=VRels.len hc
   simp only[Array.length_toList]at e1 e2
   obtain⟨C',q1,q2⟩:=ih hr (splice_rel hc hxc om) h
   refine⟨C',?_,q2⟩
   simp only[Instr.fill,hpl]
   rw[if_neg (by simp; omega)]
   exact q1
def absV:Value→Option AVal
 | .bool b=>some (.bool b)
 | .int k n=>some (.int k n)
 | .string s=>some (.str s.data.toList)
 | .pointer none=>some (.ptr none)
 | .slice none 0 0=>some (.slice none 0 (.known 0))
 | .map none=>some (.map none)
 | .nilFunc=>some .nilFunc
 | .nilIface=>some .nilIface
 | _=>none
def absVs:List Value→Option (List AVal)
 | []=>some []
 | v::r=>match absV v,absVs r with
  | some x,some l=>some (x::l)
  | _,_=>none
def absC:Value→Option AVal
 | .agg cs=>match absVs cs.toList with
  | some l=>some (.agg l)
  | none=>none
 | .tuple cs=>match absVs cs.toList with
  | some l=>some (.tuple l)
  | none=>none
 | v=>absV v
theorem absV_ok{v:Value}{x:AVal}(h:absV v=some x):VRel ρ x v:=by
 unfold absV at h
 split at h <;> simp only[sJ,reduceCtorEq]at h <;> subst h <;> first
  | rfl
  | (simp[VRel]; done)
theorem absVs_ok:∀{vs:List Value} {l:List AVal},absVs vs=some l→VRels ρ l vs:=by
 intro vs
 induction vs with
 | nil=>intro l h; simp only[absVs,sJ]at h; subst h; simp[VRels]
 | cons v r ih=>
  intro l h
  simp only[absVs]at h
  split at h
  ·rename_i x l' h1 h2
   simp only[sJ]at h
   subst h
   simp only[VRels]
   exact⟨v,r,rfl,absV_ok h1,ih h2⟩
  ·simp at h
theorem absC_ok{v:Value}{x:AVal}(h:absC v=some x):VRel ρ x v:=by
 unfold absC at h
 split at h
 ·split at h
  ·rename_i l hl
   simp only[sJ]at h
   subst h
   simp only[VRel]
   exact⟨_,rfl,absVs_ok hl⟩
  ·simp at h
 ·split at h
  ·rename_i l hl
   simp only[sJ]at h
   subst h
   simp only[VRel]
   exact⟨_,rfl,absVs_ok hl⟩
  ·simp at h
 ·exact absV_ok h
def zeroOf(P:Program)(t:TypeId):Option (List AVal):=
 match P.info? t with
 | some i=>match i.zero with
  | some z=>absVs z.cells.toList
  | none=>none
 | none=>none
theorem zero_of{t:TypeId}{l:List AVal}(h:zeroOf P t=some l):∃z,(∀W,(zeroValue t).run P W=.ok z W)∧∀ρ,VRels ρ l z.cells.toList:=by
 unfold zeroOf at h
 split at h
 ·rename_i i hi
  split at h
  ·rename_i z hz
   exact⟨z,fun W=>by simp[zeroValue,run_typeInfo W hi,hz],fun ρ=>absVs_ok h⟩
  ·simp at h
 ·simp at h
theorem alloc_ok(R:Rel Prot w0 ρ H w){t:TypeId}{l:List AVal}(h:zeroOf P t=some l):GoodV P Prot w0 ρ w (Instr.alloc t true (.tuple #[])) (oNew H l).1 (oNew H l).2:=by
 obtain⟨z,h1,h2⟩:=zero_of h
 obtain⟨ρ',w',q1,q2,q3,q4⟩:=newRow_ok (P:=P) R t (h2 ρ)
 refine⟨ρ',w',.pointer (some ⟨w.heap.size,0,none⟩),q1,?_,q3,?_⟩
 ·simp only[Instr.alloc,Sem.run_bind,h1,Result.andThen_ok,newVar,q2]; rfl
 ·simp only[oNew,VRel]; exact⟨_,q4,Nat.zero_le _,rfl⟩
def rep(z:List AVal):Nat→List AVal
 | 0=>[]
 | n+1=>z++rep z n
theorem rep_len(z:List AVal):∀n,(rep z n).length=n*z.length
 | 0=>by simp[rep]
 | n+1=>by simp only[rep,lA,rep_len z n,Nat.add_mul]; omega
theorem rep_get(z:List AVal):∀(n i:Nat),i<n*z.length→(rep z n)[i]?=z[i % z.length]?
 | 0,i,h=>om
 | n+1,i,h=>by
  simp only[rep]
  by_cases hi:i<z.length
  ·rw[List.getElem?_append_left hi,Nat.mod_eq_of_lt hi]
  ·have hle:z.length≤i:=om
   rw[List.getElem?_append_right hle,rep_get z n _ (by rw[Nat.add_mul]at h; omega),Nat.mod_eq_sub_mod hle]
def madeOf(z:Array Value)(n:Nat):Array Value:=(Array.range n).map (z[· % z.size]!)
theorem made_rel{z:List AVal}{Z:Array Value}(h:VRels ρ z Z.toList)(c:Nat):VRels ρ (rep z c) (madeOf Z (c*z.length)).toList:=by
 have hl:=VRels.len h
 simp only[Array.length_toList]at hl
 refine VRels.of_nth _ _ (by simp[rep_len,madeOf]) fun i x hx=>?_
 have hi:i<c*z.length:=by
  have:=(List.getElem?_eq_some_iff.1 hx).1
  rwa [rep_len]at this
 rw[rep_get _ _ _ hi]at hx
 obtain⟨v,h1,h2⟩:=h.nth _ _ hx
 refine⟨v,?_,h2⟩
 rw[Array.getElem?_toList]at h1
 have hz:0<Z.size:=by
  rcases Nat.eq_zero_or_pos z.length with e | e
  ·rw[e]at hi; omega
  ·omega
 have hm:i % Z.size<Z.size:=Nat.mod_lt _ hz
 rw[hl,Array.getElem?_eq_getElem hm]at h1
 simp only[sJ]at h1
 simp only[madeOf,Array.getElem?_toList,Array.getElem?_map]
 rw[Array.getElem?_range,if_pos hi]
 simp only[Option.map_some,sJ]
 rw[getElem!_pos Z _ hm]
 exact h1
def natOf:AVal→Option Nat
 | .int .i64 (Int.ofNat n)=>bif Nat.ble n 9223372036854775807 then some n else none
 | _=>none
theorem natOf_ok{x:AVal}{n:Nat}(h:natOf x=some n):x=.int .i64 (n:Int)∧n≤9223372036854775807:=by
 unfold natOf at h
 split at h
 ·rename_i m
  cases hb:Nat.ble m 9223372036854775807 with
  | false=>rw[hb]at h; simp at h
  | true=>
   rw[hb]at h
   simp only[cond_true,sJ]at h
   subst h
   exact⟨rfl,Nat.le_of_ble_eq_true hb⟩
 ·simp at h
theorem wrap_nat{n:Nat}(h:n≤9223372036854775807):IntKind.i64.wrap (n:Int)=n:=by
 simp[IntKind.wrap,IntKind.signed,IntKind.bits]; omega
def aMake(bytes:Nat)(z:List AVal)(H:AHeap)(l c:AVal):Option (AVal×AHeap):=
 match natOf l,natOf c with
 | some l,some c=>
  bif Nat.ble l c&&Nat.ble (bytes*c) 281474976710656 then some (.slice (some ⟨H.next,(rep z c).length,0⟩) l (.known c),H.push (.cells (rep z c) 0 false)) else none
 | _,_=>none
theorem make_ok(R:Rel Prot w0 ρ H w){sT elem:TypeId}{size bytes:Nat}{z:List AVal}(hu:P.underlying sT=some (.slice elem))(E:Elem P elem size bytes)(hz:zeroOf P elem=some z)
  {l c y:AVal} {lv cv:Value} (hl:VRel ρ l lv) (hc:VRel ρ c cv) (h:aMake bytes z H l c=some (y,H')):GoodV P Prot w0 ρ w (Instr.makeSlice sT lv cv) y H':=by
 unfold aMake at h
 split at h
 ·rename_i ln cn hln hcn
  obtain⟨rfl,b1⟩:=natOf_ok hln
  obtain⟨rfl,b2⟩:=natOf_ok hcn
  cases hg:(Nat.ble ln cn&&Nat.ble (bytes*cn) 281474976710656) with
  | false=>rw[hg]at h; simp at h
  | true=>
   rw[hg]at h
   simp only[Bool.and_eq_true,Nat.ble_eq]at hg
   simp only[cond_true,sJ,pJ]at h
   obtain⟨rfl,rfl⟩:=h
   simp only[VRel]at hl hc
   subst hl hc
   obtain⟨i,zv,hi,rfl,rfl,hzero,hzs⟩:=E.ex
   obtain⟨zv',hzr,hzl⟩:=zero_of hz
   have hzv:zv'=zv:=by
    have:=hzr w
    simp[zeroValue,run_typeInfo w hi,hzero]at this
    exact this.symm
   subst hzv
   have hlen:=VRels.len (hzl ρ)
   simp only[Array.length_toList,hzs]at hlen
   obtain⟨ρ',w',q1,q2,q3,q4⟩:=newRow_ok (P:=P) R elem (made_rel (hzl ρ) cn)
   have hnb:¬((281474976710656:Int)<(i.bytes:Int)*(cn:Int)):=by
    have:(i.bytes*cn:Nat)≤281474976710656:=hg.2
    rw[← Int.natCast_mul]; omega
   have hcells:madeOf zv'.cells (cn*i.size)=madeOf zv'.cells (cn*z.length):=by rw[hlen]
   refine⟨ρ',w',.slice (some ⟨w.heap.size,0,none⟩) ln cn,q1,?_,q3,?_⟩
   ·have hsz:∀W,(sizeOf elem).run P W=.ok i.size W:=fun W=>by simp[sizeOf,run_typeInfo W hi]
    have e1:¬((cn:Int)<0):=om
    have e2:¬((ln:Int)<0):=om
    have e3:¬((cn:Int)<(ln:Int)):=om
    by_cases hn:cn*i.size=0
    ·have hm:madeOf zv'.cells (cn*z.length)=#[]:=by rw[← hcells,hn]; simp[madeOf]
     rw[hm]at q2
     simp only[Instr.makeSlice,Sem.run_bind,run_underlying hu,Result.andThen_ok,asInt,asIntOf,Sem.run_pure,run_typeInfo _ hi,wrap_nat b1,wrap_nat b2]
     simp[e1,e2,e3,hnb,hsz,hn,show Array.range 0=#[] by simp,q2]
    ·simp only[Instr.makeSlice,Sem.run_bind,run_underlying hu,Result.andThen_ok,asInt,asIntOf,Sem.run_pure,run_typeInfo _ hi,wrap_nat b1,wrap_nat b2]
     rw[← hcells]at q2
     unfold madeOf at q2
     simp[e1,e2,e3,hnb,hsz,hn,hzr,q2]
   ·simp only[VRel]
    exact⟨_,q4,Nat.zero_le _,hg.1,rfl⟩
 ·simp at h
def aBuildSl(len:Nat)(z:List AVal)(H:AHeap)(parts:List (Nat×Nat×AVal)):Option (AVal×AHeap):=
 match aFill (rep z len) parts with
 | some xs=>some (.slice (some ⟨H.next,xs.length,0⟩) len (.known len),H.push (.cells xs 0 false))
 | none=>none
theorem buildSl_ok(R:Rel Prot w0 ρ H w){sT elem:TypeId}{size:Nat}{agg:Bool}{z:List AVal}(hu:P.underlying sT=some (.slice elem))(T:Ty P elem agg size)(hz:zeroOf P elem=some z)
  (hzl:z.length=size) {len:Nat} (hsm:len*size≤16777216) {ps:List (Nat×Nat×AVal)} {qs:Array (Nat×Value)} (hp:PartsRel ρ (fun i=>some (i*size,size)) ps qs.toList) {y:AVal}
  (h:aBuildSl len z H ps=some (y,H')):GoodV P Prot w0 ρ w (Instr.buildSlice sT len qs) y H':=by
 unfold aBuildSl at h
 split at h
 ·rename_i xs hxs
  simp only[sJ,pJ]at h
  obtain⟨rfl,rfl⟩:=h
  obtain⟨zv,hzr,hzl'⟩:=zero_of hz
  have hlen:=VRels.len (hzl' ρ)
  simp only[Array.length_toList]at hlen
  obtain⟨C,f1,f2⟩:=fill_ok hp (made_rel (hzl' ρ) len) hxs
  rw[hzl]at f1
  obtain⟨ρ',w',q1,q2,q3,q4⟩:=newRow_ok (P:=P) R elem f2
  have hsm':¬16777216<len*size:=om
  refine⟨ρ',w',.slice (some ⟨w.heap.size,0,none⟩) len len,q1,?_,q3,?_⟩
  ·by_cases hn:len*size=0
   ·have hm:madeOf zv.cells (len*size)=#[]:=by rw[hn]; simp[madeOf]
    rw[hm]at f1
    simp only[Instr.buildSlice,Sem.run_bind,run_underlying hu,Result.andThen_ok,T.size]
    simp[hn,show Array.range 0=#[] by simp,f1,q2]
   ·unfold madeOf at f1
    simp only[Instr.buildSlice,Sem.run_bind,run_underlying hu,Result.andThen_ok,T.size]
    simp[hsm',hn,hzr,f1,q2]
  ·simp only[VRel]
   exact⟨_,q4,Nat.zero_le _,Nat.le_refl _,rfl⟩
 ·simp at h
def aBuild(z:List AVal)(parts:List (Nat×Nat×AVal)):Option AVal:=
 match aFill z parts with
 | some xs=>some (.agg xs)
 | none=>none
theorem buildArr_ok{t elem:TypeId}{n size:Nat}{agg:Bool}{z:List AVal}(hu:P.underlying t=some (.array n elem))(T:Ty P elem agg size)(hz:zeroOf P t=some z)
  {ps:List (Nat×Nat×AVal)} {qs:Array (Nat×Value)} (hp:PartsRel ρ (fun i=>some (i*size,size)) ps qs.toList) {y:AVal}
  (h:aBuild z ps=some y):∃u,(Instr.build t qs).run P w=.ok u w∧VRel ρ y u:=by
 unfold aBuild at h
 split at h
 ·rename_i xs hxs
  simp only[sJ]at h
  subst h
  obtain⟨zv,hzr,hzl'⟩:=zero_of hz
  obtain⟨C,f1,f2⟩:=fill_ok hp (hzl' ρ) hxs
  refine⟨.agg C,?_,by simp only[VRel]; exact⟨C,rfl,f2⟩⟩
  simp only[Instr.build,Sem.run_bind,hzr,Result.andThen_ok,run_underlying hu,T.size]
  simp[f1]
 ·simp at h
def placesOf(P:Program):List Field→Option (List (Nat×Nat))
 | []=>some []
 | f::r=>match tyOf P f.type,placesOf P r with
  | some (_,n),some l=>some ((f.offset,n)::l)
  | _,_=>none
theorem places_run:∀{fs:List Field} {l:List (Nat×Nat)},placesOf P fs=some l→∀W,(fs.mapM (fun f=>do pure (f.offset,← sizeOf f.type)):Sem (List (Nat×Nat))).run P W=.ok l W:=by
 intro fs
 induction fs with
 | nil=>intro l h W; simp only[placesOf,sJ]at h; subst h; rfl
 | cons f r ih=>
  intro l h W
  simp only[placesOf]at h
  split at h
  ·rename_i a n l' h1 h2
   simp only[sJ]at h
   subst h
   simp only[List.mapM_cons,Sem.run_bind,(ty_of h1).size,Result.andThen_ok,Sem.run_pure,ih h2]
  ·simp at h
theorem buildStr_ok{t:TypeId}{fields:Array Field}{pl:List (Nat×Nat)}{z:List AVal}(hu:P.underlying t=some (.struct fields))(hpl:placesOf P fields.toList=some pl)(hz:zeroOf P t=some z)
  {ps:List (Nat×Nat×AVal)} {qs:Array (Nat×Value)} (hp:PartsRel ρ (fun i=>pl[i]?) ps qs.toList) {y:AVal}
  (h:aBuild z ps=some y):∃u,(Instr.build t qs).run P w=.ok u w∧VRel ρ y u:=by
 unfold aBuild at h
 split at h
 ·rename_i xs hxs
  simp only[sJ]at h
  subst h
  obtain⟨zv,hzr,hzl'⟩:=zero_of hz
  obtain⟨C,f1,f2⟩:=fill_ok hp (hzl' ρ) hxs
  refine⟨.agg C,?_,by simp only[VRel]; exact⟨C,rfl,f2⟩⟩
  have hm:(fields.mapM (fun f=>do pure (f.offset,← sizeOf f.type)):Sem (Array (Nat×Nat))).run P w=.ok pl.toArray w:=by
   rw[Array.mapM_eq_mapM_toList]
   simp only[Sem.run_map,places_run hpl,Result.andThen_ok]
  simp only[Instr.build,Sem.run_bind,hzr,Result.andThen_ok,run_underlying hu,hm]
  simp only[List.getElem?_toArray]
  simp[f1]
 ·simp at h
def aLen:AVal→Option AVal
 | .str s=>some (.int .i64 s.length)
 | .slice _ n _=>some (.int .i64 n)
 | .val (.slice _ n _)=>some (.int .i64 n)
 | _=>none
theorem len_ok{T:TypeId}{t:TypeId}(_:Tail P T){x y:AVal}{v:Value}(hx:VRel ρ x v)(h:aLen x=some y)(hk:(∃s,x=.str s∧P.underlying T=some .string)∨(∃a n r e,x=.slice a n r∧P.underlying T=some (.slice e))∨(∃a n c e,x=.val (.slice a n c)∧P.underlying T=some (.slice e))) :
  ∃u,(Builtin.len_ #[T] t #[v]).run P w=.ok u w∧VRel ρ y u:=by
 rcases hk with⟨s,rfl,hu⟩ | ⟨a,n,r,e,rfl,hu⟩ | ⟨a,n,c,e,rfl,hu⟩
 ·simp only[aLen,sJ]at h
  subst h
  simp only[VRel]at hx
  subst hx
  have e2:(strOf s).size=s.length:=by simp[strOf,ByteArray.size]
  exact⟨.int .i64 s.length,by simp[Builtin.len_,run_underlying hu,goInt,e2],rfl⟩
 ·simp only[aLen,sJ]at h
  subst h
  have key:∃base c,v=.slice base n c:=by
   cases a with
   | none=>simp only[VRel]at hx; obtain⟨rfl,_,rfl⟩:=hx; exact⟨none,0,rfl⟩
   | some a=>obtain⟨L,off,c,_,_,rfl,h3,_⟩:=slice_off hx; exact⟨_,c,rfl⟩
  obtain⟨base,c,rfl⟩:=key
  exact⟨.int .i64 n,by simp[Builtin.len_,run_underlying hu,goInt],rfl⟩
 ·simp only[aLen,sJ]at h
  subst h
  simp only[VRel]at hx
  obtain⟨rfl,_⟩:=hx
  exact⟨.int .i64 n,by simp[Builtin.len_,run_underlying hu,goInt],rfl⟩
end
end Go.Abs
namespace Go.Abs
section
variable {P:Program} {Prot:Gh} {w0:World} {ρ:Pl} {H H':AHeap} {w:World}
def aConv(k:IntKind):AVal→Option AVal
 | .int _ n=>some (.int k (wrF k n))
 | _=>none
theorem conv_ok{src dst:TypeId}{k:IntKind}{d:TypeDesc}(hs:P.underlying src=some d)(hu:P.underlying dst=some (.int k)){x y:AVal}{v:Value}(hx:VRel ρ x v)(h:aConv k x=some y)(w:World) :
  ∃u,(convert src dst v).run P w=.ok u w∧VRel ρ y u:=by
 unfold aConv at h
 simp only[wrF_eq]at h
 split at h
 ·rename_i k' n
  simp only[sJ]at h
  subst h
  simp only[VRel]at hx
  subst hx
  exact⟨.int k (k.wrap n),by cases d <;> simp[convert,run_underlying hs,run_underlying hu,Conv.intToInt],rfl⟩
 ·simp at h
def aSB(H:AHeap):AVal→Option (AVal×AHeap)
 | .str s=>some (.slice (some ⟨H.next,s.length,0⟩) s.length (.open_ 1),H.push (.cells (s.map fun b=>.int .u8 b.toNat) 0 false true))
 | _=>none
theorem sb_ok(R:Rel Prot w0 ρ H w){src dst e:TypeId}{d:TypeDesc}(hs:P.underlying src=some d)(hd:P.underlying dst=some (.slice e))(he:P.underlying e=some (.int .u8))
  {x y:AVal} {v:Value} (hx:VRel ρ x v) (h:aSB H x=some (y,H')):GoodV P Prot w0 ρ w (convert src dst v) y H':=by
 unfold aSB at h
 split at h
 ·rename_i s
  simp only[sJ,pJ]at h
  obtain⟨rfl,rfl⟩:=h
  simp only[VRel]at hx
  subst hx
  have hrun:=Lib.run_convert_string_bytes (P:=P) w src dst e (strOf s) hs hd he
  have e2:(strOf s).size=s.length:=by simp[strOf,ByteArray.size]
  rw[e2]at hrun
  have hcap:s.length≤grownCap w s.length 0 e:=by simp only[grownCap,Question.cut]; omega
  have hsz:(Lib.bytesCells w e (strOf s)).size=grownCap w s.length 0 e:=by
   have:(strOf s).data.size=s.length:=e2
   simp only[Lib.bytesCells,Array.size_append,Array.size_map,this,e2,Array.size_replicate]
   omega
  have hlen:(s.map fun b=>(AVal.int .u8 b.toNat)).length=s.length:=by simp
  obtain⟨h1,h2⟩:=R.push' (w':=Lib.bytesWorld w e (strOf s)) rfl rfl rfl (Lib.bytesWorld_size _ _ _) (fun i hi=>Lib.bytesWorld_at_old _ _ _ _ hi)
   (x:=.cells (s.map fun b=>.int .u8 b.toNat) 0 false true) (o:=.cells (Lib.bytesCells w e (strOf s)) e ((Lib.bytesCells w e (strOf s)).size,(Lib.bytesCells w e (strOf s)).size+1))
   (lim:=s.length) (n:=grownCap w s.length 0 e) (cl:=false) (Lib.bytesWorld_at_new _ _ _) (by
    simp only[ORel]
    refine⟨_,_,_,_,rfl,hsz,fun _=>⟨fun i hi=>om,by simp,by simp⟩,by simp,fun _ i i1 i2=>?_⟩
    simp only at i1
    have hb:s[i]?=some s[i]:=List.getElem?_eq_getElem i2
    refine⟨.int .u8 (s[i]).toNat,.int .u8 (s[i]).toNat,by simp[hb],?_,rfl⟩
    simp only[Lib.bytesCells]
    rw[Array.getElem?_append_left (by simp[strOf]; omega)]
    simp[strOf,hb]) rfl
  refine⟨_,_,_,h1,hrun,h2,?_⟩
  simp only[VRel]
  refine⟨_,upd_same _ _ _ _,Nat.zero_le _,?_⟩
  exact⟨grownCap w s.length 0 e,0,rfl,hcap,om,.inl ⟨by simp,by simp only; omega,by simp only; omega⟩⟩
 ·simp at h
def bytesOf:List AVal→Option (List UInt8)
 | []=>some []
 | .int .u8 n::r=>match bytesOf r with
  | some l=>some (UInt8.ofNat n.toNat::l)
  | none=>none
 | _::_=>none
theorem bytesOf_ok:∀{xs:List AVal} {vs:List Value} {l:List UInt8},VRels ρ xs vs→bytesOf xs=some l→∃ns:List Int,vs=ns.map (Value.int .u8)∧l=ns.map fun n=>UInt8.ofNat n.toNat:=by
 intro xs
 induction xs with
 | nil=>intro vs l h1 h2; simp only[VRels]at h1; subst h1; simp only[bytesOf,sJ]at h2; subst h2; exact⟨[],rfl,rfl⟩
 | cons x xs ih=>
  intro vs l h1 h2
  simp only[VRels]at h1
  obtain⟨v,r,rfl,hv,hr⟩:=h1
  unfold bytesOf at h2
  split at h2
  ·rename_i heq; simp at heq
  ·rename_i n r' heq
   simp only[List.cons.injEq]at heq
   obtain⟨rfl,rfl⟩:=heq
   split at h2
   ·rename_i l' hl'
    simp only[sJ]at h2
    subst h2
    obtain⟨ns,rfl,rfl⟩:=ih hr hl'
    simp only[VRel]at hv
    subst hv
    exact⟨n::ns,rfl,rfl⟩
   ·simp at h2
  ·simp at h2
theorem foldl_push(ns:List Int):∀s:ByteArray,(ns.foldl (fun r n=>r.push (UInt8.ofNat n.toNat)) s).data.toList=s.data.toList++ns.map fun n=>UInt8.ofNat n.toNat:=by
 induction ns with
 | nil=>intro s; simp
 | cons n ns ih=>intro s; simp only[List.foldl_cons,ih,List.map_cons]; simp[ByteArray.push]
def aBS(H:AHeap):AVal→Option AVal
 | .slice none _ _=>some (.str [])
 | .val (.slice (some _) 0 0)=>some (.str [])
 | .slice (some a) n _=>match rdCells H a n with
  | some xs=>match bytesOf xs with
   | some l=>some (.str l)
   | none=>none
  | none=>none
 | _=>none
theorem bs_ok(R:Rel Prot w0 ρ H w){src dst e:TypeId}(hs:P.underlying src=some (.slice e))(he:P.underlying e=some (.int .u8))(hd:P.underlying dst=some .string)
  {x y:AVal} {v:Value} (hx:VRel ρ x v) (h:aBS H x=some y):∃u,(convert src dst v).run P w=.ok u w∧VRel ρ y u:=by
 unfold aBS at h
 split at h
 ·simp only[sJ]at h
  subst h
  simp only[VRel]at hx
  obtain⟨_,_,rfl⟩:=hx
  refine⟨.string ByteArray.empty,?_,by simp only[VRel]; rfl⟩
  rw[run_convert_bytes_string w src dst e none 0 0 hs he hd]
  rfl
 ·simp only[sJ]at h
  subst h
  simp only[VRel]at hx
  obtain⟨rfl,_⟩:=hx
  refine⟨.string ByteArray.empty,?_,by simp only[VRel]; rfl⟩
  rw[run_convert_bytes_string w src dst e _ 0 0 hs he hd]
  exact run_bytesToString w _ 0 0 [] rfl
 ·rename_i a n r
  split at h
  ·rename_i xs hxs
   split at h
   ·rename_i l hl
    simp only[sJ]at h
    subst h
    obtain⟨L,off,c,h1,h2,rfl,h3,h4⟩:=slice_off hx
    obtain⟨vs,q1,q2,q3⟩:=rd_run (P:=P) R hxs h1 h2
    obtain⟨ns,e1,rfl⟩:=bytesOf_ok q2 hl
    have hvs:vs=(ns.map (Value.int .u8)).toArray:=by rw[← e1]
    refine⟨.string (ns.foldl (fun r n=>r.push (UInt8.ofNat n.toNat)) ByteArray.empty),?_,?_⟩
    ·rw[run_convert_bytes_string w src dst e _ _ _ hs he hd]
     refine run_bytesToString w _ n c ns ?_
     by_cases hn:n=0
     ·subst hn
      have:vs=#[]:=by simpa using q3
      rw[← hvs,this]
      rfl
     ·have:=h4 om
      subst this
      rw[← hvs]
      exact q1
    ·simp only[VRel]
     congr 1
     have:=foldl_push ns ByteArray.empty
     unfold strOf
     cases hx:ns.foldl (fun r n=>r.push (UInt8.ofNat n.toNat)) ByteArray.empty with | mk d=>
     rw[hx]at this
     congr 1
     exact Array.toList_inj.1 (by simpa using this)
   ·simp at h
  ·simp at h
 ·simp at h
def aUn(op:UnOp):AVal→Option AVal
 | .int k n=>match op with
  | .neg=>some (.int k (wrF k (0-n)))
  | .xor=>some (.int k (k.wrap (BitVec.ofInt k.bits (if k.signed then -1 else k.max) ^^^ BitVec.ofInt k.bits n).toNat))
  | _=>none
 | .bool b=>match op with
  | .not=>some (.bool (!b))
  | _=>none
 | _=>none
theorem un_ok{op:UnOp}{x y:AVal}{v:Value}(hx:VRel ρ x v)(h:aUn op x=some y)(w:World):∃u,(Op.unary op v).run P w=.ok u w∧VRel ρ y u:=by
 unfold aUn at h
 simp only[wrF_eq]at h
 split at h
 ·simp only[VRel]at hx
  subst hx
  split at h <;> simp only[sJ,reduceCtorEq]at h
  all_goals
   subst h
   exact⟨_,by simp[Op.unary,Op.intArith,Op.intBits],rfl⟩
 ·simp only[VRel]at hx
  subst hx
  split at h <;> simp only[sJ,reduceCtorEq]at h
  subst h
  exact⟨_,rfl,rfl⟩
 ·simp at h
end
end Go.Abs
namespace Go.Abs
section
variable {P:Program} {ρ:Pl} {w:World}
inductive EqK where
 | bool | ptr | slice | map | func | iface (const:Bool)
def aEqvB:EqK→AVal→AVal→Option Bool
 | .bool,.bool a,.bool b=>some (a==b)
 | .ptr,.ptr none,.ptr none=>some true
 | .ptr,.ptr none,.ptr (some _)=>some false
 | .ptr,.ptr (some _),.ptr none=>some false
 | .ptr,.ptr (some a),.ptr (some b)=>bif Nat.beq a.b b.b&&Nat.beq a.lim b.lim then some (Nat.beq a.o b.o) else none
 | .slice,.slice none _ _,.slice none _ _=>some true
 | .slice,.slice none _ _,.slice (some _) _ _=>some false
 | .slice,.slice (some _) _ _,.slice none _ _=>some false
 | .map,.map none,.map none=>some true
 | .map,.map none,.map (some _)=>some false
 | .map,.map (some _),.map none=>some false
 | .func,.nilFunc,.nilFunc=>some true
 | .func,.nilFunc,.func _ _ _=>some false
 | .func,.func _ _ _,.nilFunc=>some false
 | .iface _,.nilIface,.iface _ _=>some false
 | .iface _,.iface _ _,.nilIface=>some false
 | .iface c,.nilIface,.nilIface=>bif c then some true else none
 | _,_,_=>none
def isC:Operand→Bool
 | .const _=>true
 | _=>false
def eqKOf(P:Program)(t:TypeId)(x y:Operand):Option EqK:=
 match P.underlying t with
 | some .bool=>some .bool
 | some (.pointer e)=>match tyOf P e with
  | some (_,n)=>bif Nat.beq n 0 then none else some .ptr
  | none=>none
 | some (.slice _)=>some .slice
 | some (.map _ _)=>some .map
 | some (.func _ _ _)=>some .func
 | some (.interface _)=>some (.iface (isC x||isC y))
 | _=>none
theorem slice_shape{a:Option Ad}{n:Nat}{r:Room}{v:Value}(h:VRel ρ (.slice a n r) v):∃b m c,v=.slice b m c∧b.isNone=a.isNone:=by
 cases a with
 | none=>simp only[VRel]at h; exact⟨none,0,0,h.2.2,rfl⟩
 | some a=>obtain⟨_,_,_,_,_,h3,_⟩:=slice_off h; exact⟨_,_,_,h3,rfl⟩
theorem equalIn_ok{t:TypeId}{x y:Operand}{k:EqK}(hk:eqKOf P t x y=some k){p q:AVal}{u v:Value}(hp:VRel ρ p u)(hq:VRel ρ q v){b:Bool}(h:aEqvB k p q=some b)(d:Nat):(Op.equalIn (d+1) t u v).run P w=.ok b w:=by
 unfold eqKOf at hk
 split at hk
 ·rename_i hu
  simp only[sJ]at hk; subst hk
  cases p <;> cases q <;> simp only[aEqvB,sJ,reduceCtorEq]at h
  simp only[VRel]at hp hq
  subst hp hq h
  simp[Op.equalIn,run_underlying hu]
 ·rename_i e hu
  split at hk
  ·rename_i g n hn
   cases hb:Nat.beq n 0 with
   | true=>rw[hb]at hk; simp at hk
   | false=>
    rw[hb]at hk
    simp only[cond_false,sJ]at hk; subst hk
    have hn0:n≠0:=fun e=>by rw[e]at hb; simp at hb
    have hs:=(ty_of hn).size
    cases p <;> cases q <;> simp only[aEqvB,sJ,reduceCtorEq]at h
    rename_i a c
    cases a with
    | none=>
     simp only[VRel]at hp
     subst hp
     cases c with
     | none=>simp only[VRel]at hq; subst hq; simp only[aEqvB,sJ]at h; subst h; simp[Op.equalIn,run_underlying hu]
     | some c=>simp only[VRel]at hq; obtain⟨L,_,_,rfl⟩:=hq; simp only[aEqvB,sJ]at h; subst h; simp[Op.equalIn,run_underlying hu]
    | some a=>
     simp only[VRel]at hp
     obtain⟨L,l1,l2,rfl⟩:=hp
     cases c with
     | none=>simp only[VRel]at hq; subst hq; simp only[aEqvB,sJ]at h; subst h; simp[Op.equalIn,run_underlying hu]
     | some c=>
      simp only[VRel]at hq
      obtain⟨M,m1,m2,rfl⟩:=hq
      simp only[aEqvB]at h
      cases hg:(Nat.beq a.b c.b&&Nat.beq a.lim c.lim) with
      | false=>rw[hg]at h; simp at h
      | true=>
       rw[hg]at h
       simp only[Bool.and_eq_true]at hg
       simp only[cond_true,sJ]at h
       subst h
       rw[Nat.eq_of_beq_eq_true hg.1,Nat.eq_of_beq_eq_true hg.2,m1]at l1
       obtain rfl:=(sJ _ _).mp l1
       have e:((⟨M.c,a.o-M.sh,none⟩:Addr)==⟨M.c,c.o-M.sh,none⟩)=Nat.beq a.o c.o:=by
        rw[beq_dec]
        have:((⟨M.c,a.o-M.sh,none⟩:Addr)==⟨M.c,c.o-M.sh,none⟩)=decide ((⟨M.c,a.o-M.sh,none⟩:Addr)=⟨M.c,c.o-M.sh,none⟩):=by
         by_cases h:(⟨M.c,a.o-M.sh,none⟩:Addr)=⟨M.c,c.o-M.sh,none⟩ <;> simp[h]
        rw[this]
        congr 1
        simp only[Addr.mk.injEq,true_and,and_true,eq_iff_iff]
        omega
       simp[Op.equalIn,run_underlying hu,hs,hn0,sameAddr,e]
  ·simp at hk
 ·rename_i e hu
  simp only[sJ]at hk; subst hk
  cases p <;> cases q <;> simp only[aEqvB,sJ,reduceCtorEq]at h
  rename_i a n r c m s
  obtain⟨b1,m1,c1,rfl,e1⟩:=slice_shape hp
  obtain⟨b2,m2,c2,rfl,e2⟩:=slice_shape hq
  cases a <;> cases c <;> cases b1 <;> cases b2 <;> simp only[Option.isNone_none,Option.isNone_some,reduceCtorEq,Bool.false_eq_true,Bool.true_eq_false]at e1 e2 <;>
   simp only[aEqvB,sJ,reduceCtorEq]at h <;> subst h <;> simp[Op.equalIn,run_underlying hu]
 ·rename_i e1 e2 hu
  simp only[sJ]at hk; subst hk
  cases p <;> cases q <;> simp only[aEqvB,sJ,reduceCtorEq]at h
  rename_i a c
  cases a <;> cases c <;> simp only[VRel]at hp hq <;> simp only[aEqvB,sJ,reduceCtorEq]at h
  ·subst hp hq h; simp[Op.equalIn,run_underlying hu]
  ·obtain⟨_,_,rfl⟩:=hq; subst hp h; simp[Op.equalIn,run_underlying hu]
  ·obtain⟨_,_,rfl⟩:=hp; subst hq h; simp[Op.equalIn,run_underlying hu]
 ·rename_i e1 e2 e3 hu
  simp only[sJ]at hk; subst hk
  cases p <;> cases q <;> simp only[aEqvB,sJ,reduceCtorEq]at h <;> simp only[VRel]at hp hq
  ·obtain⟨_,_,rfl,_⟩:=hp; subst hq h; simp[Op.equalIn,run_underlying hu]
  ·obtain⟨_,_,rfl,_⟩:=hq; subst hp h; simp[Op.equalIn,run_underlying hu]
  ·subst hp hq h; simp[Op.equalIn,run_underlying hu]
 ·rename_i e hu
  simp only[sJ]at hk; subst hk
  cases p <;> cases q <;> simp only[aEqvB,sJ,reduceCtorEq]at h <;> simp only[VRel]at hp hq
  ·obtain⟨_,rfl,_⟩:=hp; subst hq h; simp[Op.equalIn,run_underlying hu]
  ·obtain⟨_,rfl,_⟩:=hq; subst hp h; simp[Op.equalIn,run_underlying hu]
  ·subst hp hq
   cases hc:(isC x||isC y) with
   | false=>rw[hc]at h; simp[aEqvB]at h
   | true=>
    rw[hc]at h
    simp only[aEqvB,cond_true,sJ]at h
    subst h
    simp[Op.equalIn,run_underlying hu]
 ·simp at hk
theorem equal_ok{t:TypeId}{x y:Operand}{k:EqK}(hk:eqKOf P t x y=some k){p q:AVal}{u v:Value}(hp:VRel ρ p u)(hq:VRel ρ q v){b:Bool}(h:aEqvB k p q=some b):(Op.equal t u v).run P w=.ok b w:=
 equalIn_ok hk hp hq h 9999
theorem eqv_bin{k:EqK}{p q:AVal}{u v:Value}(hp:VRel ρ p u)(hq:VRel ρ q v){b:Bool}(h:aEqvB k p q=some b)(t:TypeId) :
  binOp .eql t u v=(do pure (.bool (← Op.equal t u v)))∧binOp .neq t u v=(do pure (.bool (!(← Op.equal t u v)))):=by
 cases p with
 | bool a=>simp only[VRel]at hp; subst hp; cases v <;> exact⟨rfl,rfl⟩
 | int=>cases k <;> simp[aEqvB]at h
 | str=>cases k <;> simp[aEqvB]at h
 | agg=>cases k <;> simp[aEqvB]at h
 | tuple=>cases k <;> simp[aEqvB]at h
 | val=>cases k <;> simp[aEqvB]at h
 | ptr a=>cases a <;> simp only[VRel]at hp <;> first | (subst hp; cases v <;> exact⟨rfl,rfl⟩) | (obtain⟨_,_,_,rfl⟩:=hp; cases v <;> exact⟨rfl,rfl⟩)
 | slice a n r=>obtain⟨_,_,_,rfl,_⟩:=slice_shape hp; cases v <;> exact⟨rfl,rfl⟩
 | map a=>cases a <;> simp only[VRel]at hp <;> first | (subst hp; cases v <;> exact⟨rfl,rfl⟩) | (obtain⟨_,_,rfl⟩:=hp; cases v <;> exact⟨rfl,rfl⟩)
 | func=>simp only[VRel]at hp; obtain⟨_,_,rfl,_⟩:=hp; cases v <;> exact⟨rfl,rfl⟩
 | nilFunc=>simp only[VRel]at hp; subst hp; cases v <;> exact⟨rfl,rfl⟩
 | iface=>simp only[VRel]at hp; obtain⟨_,rfl,_⟩:=hp; cases v <;> exact⟨rfl,rfl⟩
 | nilIface=>simp only[VRel]at hp; subst hp; cases v <;> exact⟨rfl,rfl⟩
theorem eqv_guard{k:EqK}{p q:AVal}{u v:Value}{x y:Operand}{t:TypeId}(hk:eqKOf P t x y=some k)(hp:VRel ρ p u)(hq:VRel ρ q v){b:Bool}(h:aEqvB k p q=some b)(op:BinOp) :
  (eqGuard op t x y u v).run P w=.ok () w:=by
 cases p with
 | bool a=>simp only[VRel]at hp; subst hp; cases op <;> rfl
 | int=>cases k <;> simp[aEqvB]at h
 | str=>cases k <;> simp[aEqvB]at h
 | agg=>cases k <;> simp[aEqvB]at h
 | tuple=>cases k <;> simp[aEqvB]at h
 | val=>cases k <;> simp[aEqvB]at h
 | ptr a=>cases a <;> simp only[VRel]at hp <;> first | (subst hp; cases op <;> rfl) | (obtain⟨_,_,_,rfl⟩:=hp; cases op <;> rfl)
 | slice a n r=>obtain⟨_,_,_,rfl,_⟩:=slice_shape hp; cases op <;> rfl
 | map a=>cases a <;> simp only[VRel]at hp <;> first | (subst hp; cases op <;> rfl) | (obtain⟨_,_,rfl⟩:=hp; cases op <;> rfl)
 | func=>simp only[VRel]at hp; obtain⟨_,_,rfl,_⟩:=hp; cases op <;> rfl
 | nilFunc=>simp only[VRel]at hp; subst hp; cases op <;> rfl
 | iface=>simp only[VRel]at hp; obtain⟨_,rfl,_⟩:=hp; cases op <;> rfl
 | nilIface=>
  simp only[VRel]at hp
  subst hp
  cases q with
  | nilIface=>
   simp only[VRel]at hq
   subst hq
   cases k with
   | iface c=>
    cases c with
    | false=>simp[aEqvB]at h
    | true=>
     have hc:(isC x||isC y)=true:=by
      unfold eqKOf at hk
      split at hk <;> first | (simp at hk; done) | skip
      ·split at hk <;> first | (simp at hk; done) | skip
       rename_i n _
       cases hb:Nat.beq n 0 <;> rw[hb]at hk <;> simp at hk
      ·simpa using hk
     clear hk
     cases op <;> first | rfl | (cases x <;> cases y <;> first | rfl | (simp[isC]at hc))
   | _=>simp[aEqvB]at h
  | iface=>simp only[VRel]at hq; obtain⟨_,rfl,_⟩:=hq; cases op <;> rfl
  | _=>cases k <;> simp[aEqvB]at h
theorem eqv_okB{op:BinOp}(ho:op=.eql∨op=.neq){t:TypeId}{x y:Operand}{k:EqK}(hk:eqKOf P t x y=some k){p q:AVal}{u v:Value}(hp:VRel ρ p u)(hq:VRel ρ q v){b:Bool}(h:aEqvB k p q=some b) :
  (do eqGuard op t x y u v; binOp op t u v:Sem Value).run P w=.ok (.bool (match op with | .eql=>b | _=>!b)) w:=by
 have he:=equal_ok (w:=w) hk hp hq h
 obtain⟨e1,e2⟩:=eqv_bin hp hq h t
 rcases ho with rfl | rfl
 ·simp only[Sem.run_bind,eqv_guard hk hp hq h,Result.andThen_ok,e1,he]; rfl
 ·simp only[Sem.run_bind,eqv_guard hk hp hq h,Result.andThen_ok,e2,he]; rfl
def emptySl:Value→Bool
 | .slice (some _) l c=>Nat.beq l 0&&Nat.beq c 0
 | _=>false
def nilSl:AVal→Bool
 | .slice none _ _=>true
 | _=>false
def aEqv(k:EqK)(p q:AVal):Option Bool:=match k,p with
 | .slice,.val v=>bif emptySl v&&nilSl q then some false else none
 | k,p=>aEqvB k p q
theorem aEqv_cases{k:EqK}{p q:AVal}{b:Bool}(h:aEqv k p q=some b):aEqvB k p q=some b∨(k=.slice∧b=false∧(∃a l c,p=.val (.slice (some a) l c))∧∃n r,q=.slice none n r):=by
 unfold aEqv at h
 split at h
 ·rename_i v
  cases he:(emptySl v&&nilSl q) with
  | false=>rw[he]at h; cases h
  | true=>
   rw[he]at h
   simp only[Bool.and_eq_true]at he
   obtain⟨h1,h2⟩:=he
   refine .inr ⟨rfl,(Option.some.inj h).symm,?_,?_⟩
   ·unfold emptySl at h1
    split at h1
    ·exact⟨_,_,_,rfl⟩
    ·cases h1
   ·unfold nilSl at h2
    split at h2
    ·exact⟨_,_,rfl⟩
    ·cases h2
 ·exact .inl h
theorem eqv_ok{op:BinOp}(ho:op=.eql∨op=.neq){t:TypeId}{x y:Operand}{k:EqK}(hk:eqKOf P t x y=some k){p q:AVal}{u v:Value}(hp:VRel ρ p u)(hq:VRel ρ q v){b:Bool}(h:aEqv k p q=some b) :
  (do eqGuard op t x y u v; binOp op t u v:Sem Value).run P w=.ok (.bool (match op with | .eql=>b | _=>!b)) w:=by
 rcases aEqv_cases h with h | ⟨rfl,rfl,⟨a,l,c,rfl⟩,n,r,rfl⟩
 ·exact eqv_okB ho hk hp hq h
 ·simp only[VRel]at hp
  obtain⟨rfl,_⟩:=hp
  obtain⟨b2,m2,c2,rfl,e2⟩:=slice_shape hq
  cases b2 with
  | some _=>simp at e2
  | none=>
   have hu:∃e,P.underlying t=some (.slice e):=by
    unfold eqKOf at hk
    split at hk <;> first | (simp at hk; done) | skip
    ·split at hk <;> first | (simp at hk; done) | skip
     rename_i n _
     cases hb:Nat.beq n 0 <;> rw[hb]at hk <;> simp at hk
    ·rename_i e he; exact⟨e,he⟩
   obtain⟨e,hu⟩:=hu
   have he:(Op.equal t (.slice (some a) l c) (.slice none m2 c2)).run P w=.ok false w:=by
    have hd:∀d,(Op.equalIn (d+1) t (.slice (some a) l c) (.slice none m2 c2)).run P w=.ok false w:=fun d=>by simp[Op.equalIn,run_underlying hu]
    exact hd 9999
   have e1:binOp .eql t (.slice (some a) l c) (.slice none m2 c2)=(do pure (.bool (← Op.equal t (.slice (some a) l c) (.slice none m2 c2)))):=rfl
   have e2:binOp .neq t (.slice (some a) l c) (.slice none m2 c2)=(do pure (.bool (!(← Op.equal t (.slice (some a) l c) (.slice none m2 c2))))):=rfl
   rcases ho with rfl | rfl
   ·have g:(eqGuard .eql t x y (.slice (some a) l c) (.slice none m2 c2)).run P w=.ok () w:=rfl
    simp only[Sem.run_bind,g,Result.andThen_ok,e1,he]; rfl
   ·have g:(eqGuard .neq t x y (.slice (some a) l c) (.slice none m2 c2)).run P w=.ok () w:=rfl
    simp only[Sem.run_bind,g,Result.andThen_ok,e2,he]; rfl
end
end Go.Abs
namespace Go.Abs
section
variable {P:Program} {ρ:Pl} {w:World}
inductive FK where
 | int | str | bool
def fEqI:AVal→AVal→Option Bool
 | .int k a,.int k' b=>if k=k' then some (eqF a b) else none
 | _,_=>none
def fEqS:AVal→AVal→Option Bool
 | .str a,.str b=>some (a==b)
 | _,_=>none
def fEqB:AVal→AVal→Option Bool
 | .bool a,.bool b=>some (a==b)
 | _,_=>none
def fEq:FK→AVal→AVal→Option Bool
 | .int,x,y=>fEqI x y
 | .str,x,y=>fEqS x y
 | .bool,x,y=>fEqB x y
def aEqFs:List (Nat×FK)→List AVal→List AVal→Option Bool
 | [],_,_=>some true
 | (o,k)::r,l,m=>match l[o]?,m[o]? with
  | some x,some y=>match fEq k x y with
   | some true=>aEqFs r l m
   | some false=>some false
   | none=>none
  | _,_=>none
def fkOf(P:Program)(t:TypeId):Option FK:=
 match P.underlying t with
 | some (.int _)=>some .int
 | some .string=>some .str
 | some .bool=>some .bool
 | _=>none
def eqFsOf(P:Program):List Field→Option (List (Nat×FK))
 | []=>some []
 | f::r => bif f.name == "_" then none else match fkOf P f.type, tyOf P f.type, eqFsOf P r with
  | some k,some (false,_),some l=>some ((f.offset,k)::l)
  | _,_,_=>none
def eqSOf(P:Program)(t:TypeId):Option (List (Nat×FK)):=
 match P.underlying t with
 | some (.struct fs)=>bif P.stoodInHeld t||P.eqGuardType P.depth t then none else eqFsOf P fs.toList
 | _=>none
theorem strOf_beq(a b:List UInt8):(strOf a==strOf b)=(a==b):=by
 have:(strOf a==strOf b)=(a.toArray==b.toArray):=rfl
 rw[this]
 by_cases h:a=b
 ·subst h; simp
 ·have:a.toArray≠b.toArray:=fun e=>h (by simpa using congrArg Array.toList e)
  simp[h]
theorem fEq_ok{t:TypeId}{k:FK}(hk:fkOf P t=some k){x y:AVal}{u v:Value}(hx:VRel ρ x u)(hy:VRel ρ y v){b:Bool}(h:fEq k x y=some b)(d:Nat):(Op.equalIn (d+1) t u v).run P w=.ok b w:=by
 unfold fkOf at hk
 split at hk <;> simp only[sJ,reduceCtorEq]at hk <;> subst hk <;> rename_i hu <;> simp only[fEq]at h
 ·unfold fEqI at h
  split at h
  ·rename_i k' a k'' b'
   split at h
   ·rename_i hkk
    simp only[sJ]at h
    simp only[VRel]at hx hy
    subst hx hy h hkk
    simp[Op.equalIn,run_underlying hu,eqF_eq]
   ·simp at h
  ·simp at h
 ·unfold fEqS at h
  split at h
  ·simp only[sJ]at h
   simp only[VRel]at hx hy
   subst hx hy h
   simp[Op.equalIn,run_underlying hu,strOf_beq]
  ·simp at h
 ·unfold fEqB at h
  split at h
  ·simp only[sJ]at h
   simp only[VRel]at hx hy
   subst hx hy h
   simp[Op.equalIn,run_underlying hu]
  ·simp at h
theorem eqFs_ok:∀{fs:List Field} {ks:List (Nat×FK)},eqFsOf P fs=some ks→∀{l m:List AVal} {xs ys:Array Value},VRels ρ l xs.toList→VRels ρ m ys.toList→∀{b:Bool},aEqFs ks l m=some b→∀d,(Op.eqFields (d+1) xs ys fs).run P w=.ok b w
 | [],ks,hk,l,m,xs,ys,hx,hy,b,h,d=>by
  simp only[eqFsOf,sJ]at hk
  subst hk
  simp only[aEqFs,sJ]at h
  subst h
  rfl
 | f::fs,ks,hk,l,m,xs,ys,hx,hy,b,h,d=>by
  simp only[eqFsOf]at hk
  cases hn : (f.name == "_") with
  | true=>rw[hn]at hk; simp at hk
  | false=>
   rw[hn]at hk
   simp only[cond_false]at hk
   split at hk
   ·rename_i k n ks' h1 h2 h3
    simp only[sJ]at hk
    subst hk
    simp only[aEqFs]at h
    have hne : f.name ≠ "_" := by simpa using hn
    split at h
    ·rename_i x y gx gy
     have p1:aPart false n f.offset l=some x:=by simpa[aPart] using gx
     have p2:aPart false n f.offset m=some y:=by simpa[aPart] using gy
     obtain⟨u,u1,u2⟩:=part_ok (P:=P) (w:=w) (ty_of h2) hx p1
     obtain⟨v,v1,v2⟩:=part_ok (P:=P) (w:=w) (ty_of h2) hy p2
     simp only[Op.eqFields,hne,ne_eq,not_false_eq_true,if_true,Sem.run_bind,u1,v1,Result.andThen_ok]
     split at h
     ·rename_i hb
      rw[fEq_ok h1 u2 v2 hb d]
      simp only[Result.andThen_ok,Bool.not_true,Bool.false_eq_true,if_false]
      exact eqFs_ok h3 hx hy h d
     ·rename_i hb
      simp only[sJ]at h
      subst h
      rw[fEq_ok h1 u2 v2 hb d]
      simp
     ·simp at h
    ·simp at h
   ·simp at hk
theorem eqS_ok{op:BinOp}(ho:op=.eql∨op=.neq){t:TypeId}{x y:Operand}{ks:List (Nat×FK)}(hk:eqSOf P t=some ks){l m:List AVal}{u v:Value}(hp:VRel ρ (.agg l) u)(hq:VRel ρ (.agg m) v){b:Bool}(h:aEqFs ks l m=some b) :
  (do eqGuard op t x y u v; binOp op t u v:Sem Value).run P w=.ok (.bool (match op with | .eql=>b | _=>!b)) w:=by
 unfold eqSOf at hk
 split at hk
 ·rename_i fs hu
  cases hg:(P.stoodInHeld t||P.eqGuardType P.depth t) with
  | true=>rw[hg]at hk; simp at hk
  | false=>
   rw[hg]at hk
   simp only[cond_false]at hk
   rw[Bool.or_eq_false_iff]at hg
   simp only[VRel]at hp hq
   obtain⟨xs,rfl,hx⟩:=hp
   obtain⟨ys,rfl,hy⟩:=hq
   have hfo:P.fieldsOf t=fs:=by simp[Program.fieldsOf,hu]
   have he:(Op.equalIn 10000 t (.agg xs) (.agg ys)).run P w=.ok b w:=by
    have:=run_equalIn_struct (P:=P) w 9999 t xs ys (by rw[hfo]; exact hu) hg.1
    rw[this,hfo]
    exact eqFs_ok hk hx hy h 9998
   rcases ho with rfl | rfl
   ·simp only[Sem.run_bind,run_eqGuard_agg w _ t x y xs ys hg.2,Result.andThen_ok,run_eql_struct,he]
   ·simp only[Sem.run_bind,run_eqGuard_agg w _ t x y xs ys hg.2,Result.andThen_ok,run_neq_struct,he]
 ·simp at hk
inductive PF where
 | eqv (neg:Bool) (k:EqK)
 | eqS (neg:Bool) (fs:List (Nat×FK))
 | mm (great:Bool)
 | ibs
 | cbs
 | s2a (n:Nat)
 | apart
def aMM1(great:Bool):AVal→AVal→Option AVal
 | .int k x,.int _ y=>some (.int k (bif (bif great then ltF x y else ltF y x) then y else x))
 | _,_=>none
def aMM(great:Bool):AVal→List AVal→Option AVal
 | x,[]=>some x
 | x,y::r=>match aMM1 great x y with
  | some z=>aMM great z r
  | none=>none
def ibF(c:UInt8):List UInt8→Nat→Int
 | [],_=>.negSucc 0
 | b::r,n=>bif Nat.beq b.toNat c.toNat then .ofNat n else ibF c r (n+1)
def aIbs:List AVal→Option AVal
 | [.str s,.int .u8 (.ofNat c)]=>some (.int .i64 (ibF c.toUInt8 s 0))
 | _=>none
def cbF(c:Nat):List UInt8→Nat→Nat
 | [],n=>n
 | b::r,n=>bif Nat.beq b.toNat c then cbF c r (n+1) else cbF c r n
def aCbs:List AVal→Option AVal
 | [.str s,.int .u8 (.ofNat c)]=>bif Nat.ble c 255 then some (.int .i64 (.ofNat (cbF c s 0))) else none
 | _=>none
def aEqs(neg:Bool)(k:EqK):List AVal→Option AVal
 | [x,y]=>match aEqv k x y with
  | some b=>some (.bool (bif neg then !b else b))
  | none=>none
 | _=>none
def aMMs(g:Bool):List AVal→Option AVal
 | x::r=>aMM g x r
 | []=>none
def aEqSs(neg:Bool)(fs:List (Nat×FK)):List AVal→Option AVal
 | [.agg l,.agg m]=>match aEqFs fs l m with
  | some b=>some (.bool (bif neg then !b else b))
  | none=>none
 | _=>none
def aS2A(n:Nat):List AVal→Option AVal
 | [.slice (some a) len _]=>bif Nat.ble n len&&Nat.blt 0 n then some (.ptr (some a)) else none
 | _=>none
def blkOf:AVal→Option Nat
 | .ptr (some a)=>some a.b
 | .slice (some a) _ _=>some a.b
 | .map (some r)=>some r
 | _=>none
def apB(x y:AVal):Bool:=match blkOf x,blkOf y with
 | some b,some c=>!Nat.beq b c
 | _,_=>true
def aApart:List AVal→Option AVal
 | [x,y]=>bif apB x y then some (.bool true) else none
 | _=>none
def aPf:PF→List AVal→Option AVal
 | .apart,l=>aApart l
 | .s2a n,l=>aS2A n l
 | .eqv neg k,l=>aEqs neg k l
 | .eqS neg fs,l=>aEqSs neg fs l
 | .mm g,l=>aMMs g l
 | .ibs,l=>aIbs l
 | .cbs,l=>aCbs l
theorem mm1_ok{g:Bool}{x y z:AVal}{u v:Value}(hx:VRel ρ x u)(hy:VRel ρ y v)(h:aMM1 g x y=some z) :
  ∃q,VRel ρ z q∧(if g then Builtin.max2 u v else Builtin.min2 u v)=pure q:=by
 unfold aMM1 at h
 split at h
 ·rename_i k a k' b
  simp only[sJ]at h
  subst h
  simp only[VRel]at hx hy
  subst hx hy
  cases g
  ·refine⟨.int k (if b<a then b else a),?_,rfl⟩
   simp only[cond_false,ltF_eq,VRel]
   by_cases hh:b<a <;> simp[hh]
  ·refine⟨.int k (if b > a then b else a),?_,rfl⟩
   simp only[cond_true,ltF_eq,VRel]
   by_cases hh:a<b <;> simp[hh]
 ·simp at h
theorem mm_ok{g:Bool}:∀{l:List AVal} {x z:AVal} {u:Value} {vs:List Value},VRel ρ x u→VRels ρ l vs→aMM g x l=some z →
  ∃q,VRel ρ z q∧(vs.foldlM (if g then Builtin.max2 else Builtin.min2) u).run P w=.ok q w
 | [],x,z,u,vs,hx,hl,h=>by
  simp only[VRels]at hl; subst hl
  simp only[aMM,sJ]at h; subst h
  exact⟨u,hx,rfl⟩
 | y::l,x,z,u,vs,hx,hl,h=>by
  simp only[VRels]at hl
  obtain⟨v,r,rfl,hy,hr⟩:=hl
  simp only[aMM]at h
  split at h
  ·rename_i m hm
   obtain⟨q,hq,e⟩:=mm1_ok hx hy hm
   obtain⟨q',hq',e'⟩:=mm_ok hq hr h
   refine⟨q',hq',?_⟩
   rw[List.foldlM_cons]
   have:(if g then Builtin.max2 else Builtin.min2) u v=pure q:=by rw[← e]; cases g <;> rfl
   rw[this]
   simpa using e'
  ·simp at h
def aSlArr(n size:Nat)(x:AVal)(lo hi mx:Option AVal):Option AVal:=
 match x with
 | .ptr (some a)=>
  match aBnd n n lo hi mx with
  | some (l,h,m)=>bif Nat.beq (m.getD n) l then some (.slice (some a) (h-l) (.known (m.getD n-l))) else some (.slice (some ⟨a.b,a.lim,a.o+l*size⟩) (h-l) (.known (m.getD n-l)))
  | none=>none
 | _=>none
theorem slArr_ok{t elem:TypeId}{agg:Bool}{n size:Nat}(hu:P.underlying t=some (.array n elem))(T:Ty P elem agg size){x y:AVal}{v:Value}{lo hi mx:Option AVal}{lv hv mv:Option Value}
  (hx:VRel ρ x v) (hl:ORelV ρ lo lv) (hh:ORelV ρ hi hv) (hm:ORelV ρ mx mv) (h:aSlArr n size x lo hi mx=some y):∃u,(Instr.sliceAt t v lv hv mv).run P w=.ok u w∧VRel ρ y u:=by
 unfold aSlArr at h
 split at h
 ·rename_i a
  split at h
  ·rename_i l hn m hb
   simp only[VRel]at hx
   obtain⟨L,h1,h2,rfl⟩:=hx
   obtain⟨q1,q2,q3,q4⟩:=bnd_ok (P:=P) (w:=w) (isSlice:=false) (Nat.le_refl n) hl hh hm hb
   have q5:hn≤m.getD n:=by
    cases m with
    | none=>simp; omega
    | some q=>simpa using (q4 q rfl).1
   cases hb:Nat.beq (m.getD n) l with
   | true=>
    rw[hb]at h
    simp only[cond_true,sJ]at h
    subst h
    have:=Nat.eq_of_beq_eq_true hb
    refine⟨.slice (some ⟨L.c,a.o-L.sh,none⟩) (hn-l) (m.getD n-l),?_,?_⟩
    ·simp only[Instr.sliceAt,Sem.run_bind,run_underlying hu,Result.andThen_ok,q1,T.size,this,if_true,Sem.run_pure,asAddr,Instr.sureAddr]
    ·simp only[VRel]
     exact⟨L,h1,h2,om,rfl⟩
   | false=>
    rw[hb]at h
    simp only[cond_false,sJ]at h
    subst h
    have hne:¬m.getD n=l:=fun e=>by rw[e,Nat.beq_refl]at hb; simp at hb
    refine⟨.slice (some ⟨L.c,a.o-L.sh+l*size,none⟩) (hn-l) (m.getD n-l),?_,?_⟩
    ·simp only[Instr.sliceAt,Sem.run_bind,run_underlying hu,Result.andThen_ok,q1,T.size,if_neg hne,Sem.run_pure,Option.map_some,add_none,asAddr,Instr.sureAddr]
    ·simp only[VRel]
     refine⟨L,h1,by first | omega | (simp only; omega),?_⟩
     simp only[SliceRel]
     refine⟨om,?_⟩
     congr 3
     omega
  ·simp at h
 ·simp at h
theorem s2a_ok{t e:TypeId}{n:Nat}(hu:P.underlying t=some (.array n e)){x y:AVal}{v:Value}(hx:VRel ρ x v)(h:aS2A n [x]=some y):∃u,(Instr.arrayAt t v).run P w=.ok u w∧VRel ρ y u:=by
 unfold aS2A at h
 split at h <;> first | (simp at h; done) | skip
 rename_i a len r heq
 simp only[List.cons.injEq,and_true]at heq
 subst heq
 cases hb:(Nat.ble n len&&Nat.blt 0 n) with
 | false=>rw[hb]at h; simp at h
 | true=>
  rw[hb]at h
  simp only[cond_true,sJ]at h
  subst h
  simp only[Bool.and_eq_true]at hb
  have h1:=Nat.le_of_ble_eq_true hb.1
  have h2:0<n:=Nat.le_of_ble_eq_true hb.2
  obtain⟨L,off,c,hL,hsh,rfl,h3,h4⟩:=slice_off hx
  have h4:=h4 om
  subst h4
  refine⟨.pointer (some ⟨L.c,a.o-L.sh,none⟩),?_,?_⟩
  ·have:¬len<n:=om
   simp[Instr.arrayAt,run_underlying hu,this]
  ·simp only[VRel]
   exact⟨L,hL,hsh,rfl⟩
end
end Go.Abs
namespace Go.Abs
section
variable {P:Program} {Prot:Gh} {w0:World} {ρ:Pl} {H H':AHeap} {w:World}
def nthB:List UInt8→Nat→Option UInt8
 | [],_=>none
 | b::_,0=>some b
 | _::r,n+1=>nthB r n
inductive KC where
 | int
 | str
 | arr (n:Nat)
inductive MF where
 | entry (kc:KC) (z:AVal)
 | store
 | upd (kc:KC)
abbrev Ent:=AVal×AVal×Nat
def kEqs:List AVal→List AVal→Option Bool
 | [],[]=>some true
 | .int k a::l,.int k' b::m=>if k=k' then (bif eqF a b then kEqs l m else some false) else none
 | _,_=>none
def kEq:KC→AVal→AVal→Option Bool
 | .int,.int k a,.int k' b=>if k=k' then some (eqF a b) else none
 | .str,.str a,.str b=>some (a==b)
 | .arr n,.agg l,.agg m=>bif Nat.beq l.length n&&Nat.beq m.length n then kEqs l m else none
 | _,_,_=>none
def isKs:List AVal→Bool
 | []=>true
 | .int _ _::l=>isKs l
 | _::_=>false
def isK:KC→AVal→Bool
 | .int,.int _ _=>true
 | .str,.str _=>true
 | .arr n,.agg l=>Nat.beq l.length n&&isKs l
 | _,_=>false
def mFind(kc:KC)(k:AVal):List Ent→Nat→Option (Option (Nat×Ent))
 | [],_=>some none
 | e::r,i=>match kEq kc k e.1 with
  | some true=>some (some (i,e))
  | some false=>mFind kc k r (i+1)
  | none=>none
def mSet:List Ent→Nat→Ent→List Ent
 | [],_,_=>[]
 | _::r,0,e=>e::r
 | x::r,i+1,e=>x::mSet r i e
def mRet(ok:Bool)(v:AVal)(b:Bool):AVal:=bif ok then .tuple [v,.bool b] else v
def aLookE(kc:KC)(ok:Bool)(z:AVal)(es:List Ent)(k:AVal):Option AVal:=bif isK kc k then
  match mFind kc k es 0 with
  | some (some (_,e))=>some (mRet ok e.2.1 true)
  | some none=>some (mRet ok z false)
  | none=>none
 else none
def mBorn(n:Nat):List Ent→Nat→Option (Nat×Ent)
 | [],_=>none
 | e::r,i=>bif Nat.beq e.2.2 n then some (i,e) else mBorn n r (i+1)
def aMf:MF→List Ent→Nat→List AVal→Option (AVal×List Ent×Nat)
 | .entry kc z,es,c,[k]=>bif isK kc k then
   match mFind kc k es 0 with
   | some (some (i,e))=>some (.tuple [e.2.1,.int .i64 (.ofNat e.2.2)],mSet es i (k,e.2),c)
   | some none=>some (.tuple [z,.int .i64 (.ofNat c)],es++[(k,z,c)],c+1)
   | none=>none
  else none
 | .store,es,c,[.int .i64 (.ofNat n),x]=>match mBorn n es 0 with
   | some (i,e)=>some (.tuple [],mSet es i (e.1,x,e.2.2),c)
   | none=>none
 | .upd kc,es,c,[k,x]=>bif isK kc k then
   match mFind kc k es 0 with
   | some (some (i,e))=>some (.tuple [],mSet es i (k,x,e.2.2),c)
   | some none=>some (.tuple [],es++[(k,x,c)],c+1)
   | none=>none
  else none
 | _,_,_,_=>none
def pEqP(g:Nat→Option AObj)(a c:Ad):Option Bool:=
 bif Nat.beq a.b c.b then (bif Nat.beq a.lim c.lim then some (Nat.beq a.o c.o) else none)
 else match g a.b,g c.b with
  | some (.cells _ _ false false),some (.cells _ _ false false)=>some false
  | _,_=>none
inductive FKd where
 | p
 | i
 | s
def pEqV(g:Nat→Option AObj):FKd→AVal→AVal→Option Bool
 | .p,.ptr (some a),.ptr (some c)=>pEqP g a c
 | .i,.int k n,.int k' m=>if k=k' then some (eqF n m) else none
 | .s,.str x,.str y=>some (x==y)
 | _,_,_=>none
def isV:FKd→AVal→Bool
 | .p,.ptr (some _)=>true
 | .i,.int _ _=>true
 | .s,.str _=>true
 | _,_=>false
def pEqK(g:Nat→Option AObj)(ks:FKd×FKd):AVal→AVal→Option Bool
 | .agg [x,y],.agg [x',y']=>match pEqV g ks.1 x x' with
  | some true=>pEqV g ks.2 y y'
  | some false=>some false
  | none=>none
 | _,_=>none
def isPK(ks:FKd×FKd):AVal→Bool
 | .agg [x,y]=>isV ks.1 x&&isV ks.2 y
 | _=>false
def pFind(g:Nat→Option AObj)(ks:FKd×FKd)(k:AVal):List Ent→Nat→Option (Option (Nat×Ent))
 | [],_=>some none
 | e::r,i=>match pEqK g ks k e.1 with
  | some true=>some (some (i,e))
  | some false=>pFind g ks k r (i+1)
  | none=>none
inductive LaidK where
 | lit (len:Nat) (z:List AVal) (ofs:List (Nat×Nat))
 | map
 | mk (by_:Nat) (z:List AVal)
 | new (z:List AVal)
inductive HF where
 | mkMap
 | pLook (ks:FKd×FKd) (ok:Bool) (z:AVal)
 | pUpd (ks:FKd×FKd)
 | pDel (ks:FKd×FKd)
 | mLook (kc:KC) (ok:Bool) (z:AVal)
 | mf (f:MF)
 | clr (z:List AVal)
 | cpy (size:Nat)
 | strRange
 | strNext
 | mark
 | gIdx (g m n:Nat)
 | gLd (g:Nat) (agg:Bool) (n:Nat)
 | gFld (g off:Nat)
 | fill (b:Nat) (k:LaidK)
def aRange(H:AHeap):List AVal→Option (AVal×AHeap)
 | [.str s]=>some (.ptr (some ⟨H.next,0,0⟩),H.push (.iter s 0))
 | _=>none
def aNext(H:AHeap):List AVal→Option (AVal×AHeap)
 | [.ptr (some ⟨b,0,0⟩)]=>match H.get b with
  | some (.iter s pos)=>match nthB s pos with
   | none=>some (.tuple [.bool false],H)
   | some c=>bif Nat.ble 128 c.toNat then
     match Utf8.decode (strOf s) pos with
     | (r,n)=>some (.tuple [.bool true,.int .i64 (.ofNat pos),.int .i32 (.ofNat r)],H.set b (.iter s (pos+n)))
    else some (.tuple [.bool true,.int .i64 (.ofNat pos),.int .i32 (.ofNat c.toNat)],H.set b (.iter s (pos+1)))
  | _=>none
 | _=>none
def aMark(H:AHeap):List AVal→Option (AVal×AHeap)
 | [.slice (some a) n r]=>match H.get a.b with
  | some (.cells l low false _)=>some (.slice (some a) n r,H.set a.b (.cells l low false true))
  | _=>none
 | _=>none
def gPtr(H:AHeap)(g:Nat):Option AVal:=match H.get g with
 | some (.cells l _ true)=>some (.ptr (some ⟨g,l.length,0⟩))
 | _=>none
def aGIdx(g m n:Nat)(H:AHeap):List AVal→Option (AVal×AHeap)
 | [i]=>match gPtr H g with
  | some p=>match aIdxArr m n p i with
   | some v=>some (v,H)
   | none=>none
  | none=>none
 | _=>none
def aGLd(g:Nat)(agg:Bool)(n:Nat)(H:AHeap):List AVal→Option (AVal×AHeap)
 | []=>match gPtr H g with
  | some p=>match oLoad agg n H p with
   | some v=>some (v,H)
   | none=>none
  | none=>none
 | _=>none
def aGFld(g off:Nat)(H:AHeap):List AVal→Option (AVal×AHeap)
 | []=>match gPtr H g with
  | some p=>match aField off p with
   | some v=>some (v,H)
   | none=>none
  | none=>none
 | _=>none
def aMkMap(H:AHeap):List AVal→Option (AVal×AHeap)
 | []=>some (.map (some H.next),H.push (.map [] 0))
 | _=>none
def aMLook(kc:KC)(ok:Bool)(z:AVal)(H:AHeap):List AVal→Option (AVal×AHeap)
 | [.map none,k]=>bif isK kc k then some (mRet ok z false,H) else none
 | [.map (some r),k]=>match H.get r with
  | some (.map es _)=>match aLookE kc ok z es k with
   | some v=>some (v,H)
   | none=>none
  | _=>none
 | _=>none
def aPLookE(g:Nat→Option AObj)(ks:FKd×FKd)(ok:Bool)(z:AVal)(es:List Ent)(k:AVal):Option AVal:=bif isPK ks k then
  match pFind g ks k es 0 with
  | some (some (_,e))=>some (mRet ok e.2.1 true)
  | some none=>some (mRet ok z false)
  | none=>none
 else none
def aPLook(ks:FKd×FKd)(ok:Bool)(z:AVal)(H:AHeap):List AVal→Option (AVal×AHeap)
 | [.map (some r),k]=>match H.get r with
  | some (.map es _)=>match aPLookE H.get ks ok z es k with
   | some v=>some (v,H)
   | none=>none
  | _=>none
 | _=>none
def aPUpdE(g:Nat→Option AObj)(ks:FKd×FKd)(es:List Ent)(c:Nat)(k x:AVal):Option (List Ent×Nat):=bif isPK ks k then
  match pFind g ks k es 0 with
  | some (some (i,e))=>some (mSet es i (k,x,e.2.2),c)
  | some none=>some (es++[(k,x,c)],c+1)
  | none=>none
 else none
def aPUpd(ks:FKd×FKd)(H:AHeap):List AVal→Option (AVal×AHeap)
 | [.map (some r),k,x]=>match H.get r with
  | some (.map es c)=>match aPUpdE H.get ks es c k x with
   | some (es',c')=>some (.tuple [],H.set r (.map es' c'))
   | none=>none
  | _=>none
 | _=>none
def aPDelE(g:Nat→Option AObj)(ks:FKd×FKd)(es:List Ent)(c:Nat)(k:AVal):Option (List Ent×Nat):=bif isPK ks k then
  match pFind g ks k es 0 with
  | some (some (i,_))=>some (es.eraseIdx i,c)
  | some none=>some (es,c)
  | none=>none
 else none
def aPDel(ks:FKd×FKd)(H:AHeap):List AVal→Option (AVal×AHeap)
 | [.map (some r),k]=>match H.get r with
  | some (.map es c)=>match aPDelE H.get ks es c k with
   | some (es',c')=>some (.tuple [],H.set r (.map es' c'))
   | none=>none
  | _=>none
 | _=>none
def aMF(f:MF)(H:AHeap):List AVal→Option (AVal×AHeap)
 | .map (some r)::l=>match H.get r with
  | some (.map es c)=>match aMf f es c l with
   | some (v,es',c')=>some (v,H.set r (.map es' c'))
   | none=>none
  | _=>none
 | _=>none
def aClr(z:List AVal)(H:AHeap):List AVal→Option (AVal×AHeap)
 | [.slice none _ _]=>some (.tuple [],H)
 | [.slice (some a) n _]=>bif Nat.beq n 0 then some (.tuple [],H) else match wrCells H a (rep z n) with
  | some H'=>some (.tuple [],H')
  | none=>none
 | _=>none
def aCpy(size:Nat)(H:AHeap):List AVal→Option (AVal×AHeap)
 | [.slice so sl _,.slice xo xl _]=>
  bif Nat.beq (Nat.min xl sl) 0 then some (.int .i64 (.ofNat 0),H) else match so,xo with
  | some a,some b=>match rdCells H b (Nat.min xl sl*size) with
   | some l=>match wrCells H a l with
    | some H'=>some (.int .i64 (.ofNat (Nat.min xl sl)),H')
    | none=>none
   | none=>none
  | _,_=>none
 | _=>none
def zipP:List (Nat×Nat)→List AVal→List (Nat×Nat×AVal)
 | (o,n)::r,x::l=>(o,n,x)::zipP r l
 | _,_=>[]
def fillO(k:LaidK)(b:Nat)(l:List AVal):Option (AVal×AObj):=match k with
 | .lit len z ofs=>match aFill (rep z len) (zipP ofs l) with
  | some xs=>some (.slice (some ⟨b,xs.length,0⟩) len (.known len),.cells xs 0 false)
  | none=>none
 | .map=>match l with
  | []=>some (.map (some b),.map [] 0)
  | _=>none
 | .mk by_ z=>match l with
  | [x,y]=>match natOf x,natOf y with
   | some l,some c=>bif Nat.ble l c&&Nat.ble (by_*c) 281474976710656 then some (.slice (some ⟨b,(rep z c).length,0⟩) l (.known c),.cells (rep z c) 0 false) else none
   | _,_=>none
  | _=>none
 | .new z=>match l with
  | []=>some (.ptr (some ⟨b,z.length,0⟩),.cells z 0 false)
  | _=>none
def aFillB(k:LaidK)(b:Nat)(H:AHeap)(l:List AVal):Option (AVal×AHeap):=
 match H.get b with
 | some (.cells _ 0 false)=>match fillO k b l with
  | some p=>some (p.1,H.set b p.2)
  | none=>none
 | _=>none
def aHf:HF→AHeap→List AVal→Option (AVal×AHeap)
 | .fill b k,H,l=>aFillB k b H l
 | .mkMap,H,l=>aMkMap H l
 | .pLook ks ok z,H,l=>aPLook ks ok z H l
 | .pUpd ks,H,l=>aPUpd ks H l
 | .pDel ks,H,l=>aPDel ks H l
 | .mLook kc ok z,H,l=>aMLook kc ok z H l
 | .mf f,H,l=>aMF f H l
 | .clr z,H,l=>aClr z H l
 | .cpy n,H,l=>aCpy n H l
 | .strRange,H,l=>aRange H l
 | .strNext,H,l=>aNext H l
 | .mark,H,l=>aMark H l
 | .gIdx g m n,H,l=>aGIdx g m n H l
 | .gLd g a n,H,l=>aGLd g a n H l
 | .gFld g o,H,l=>aGFld g o H l
theorem freeze_heap(w:World){c n lo hi:Nat}{C:Array Value}{e:TypeId}(h:w.heap[c]?=some (.cells C e (lo,hi))) :
  (w.freeze ⟨c,n,none⟩ 1).heap[c]?=some (.cells C e (if lo==hi then (n,n+1) else (min lo n,max hi (n+1))))∧But w (w.freeze ⟨c,n,none⟩ 1) c:=by
 constructor
 ·simp[World.freeze,Array.getElem?_modify,h]
 ·refine⟨rfl,rfl,rfl,by simp[World.freeze],fun i hi=>?_⟩
  simp only[World.freeze,Nat.one_ne_zero,if_false,Array.getElem?_modify]
  rw[if_neg (by simpa using fun e=>hi e.symm)]
theorem mark_ok(R:Rel Prot w0 ρ H w){t e:TypeId}(hu:P.underlying t=some (.slice e))(he:P.underlying e=some (.int .u8)){x y:AVal}{v:Value}(hx:VRel ρ x v)(h:aMark H [x]=some (y,H')):GoodV P Prot w0 ρ w (convert t t v) y H':=by
 unfold aMark at h
 split at h <;> first | (simp at h; done) | skip
 rename_i a n r heq
 simp only[List.cons.injEq,and_true]at heq
 subst heq
 split at h <;> first | (simp at h; done) | skip
 rename_i l low mk hH
 simp only[sJ,pJ]at h
 obtain⟨rfl,rfl⟩:=h
 obtain⟨L,off,c,hL,hsh,rfl,hlen,_⟩:=slice_off hx
 obtain⟨x,o,g1,g2,g3⟩:=R.obj _ _ _ hL
 rw[hH]at g1
 simp only[sJ]at g1
 subst g1
 simp only[ORel]at g3
 obtain⟨C,el,lo,hi,rfl,_,hfz,_,_⟩:=g3
 obtain⟨hf1,hf2,_⟩:=hfz trivial
 obtain⟨q1,q2⟩:=freeze_heap w (n:=C.size) g2
 have hrun:(convert t t (.slice (some ⟨L.c,off,none⟩) n c)).run P w=.ok (.slice (some ⟨L.c,off,none⟩) n c) (w.freeze ⟨L.c,C.size,none⟩ 1):=by
  simp[convert,run_underlying hu,run_underlying he,markStringish,World.shape?,g2,Result.andThen]
 refine⟨ρ,_,_,Pl.le_refl _,hrun,?_,hx⟩
 refine R.turn hL hH rfl q2 rfl fun l' L' h'=>?_
 obtain⟨x,o,k1,k2,k3⟩:=R.obj _ _ _ h'
 rw[hH]at k1
 simp only[sJ]at k1
 subst k1
 simp only[ORel]at k3 ⊢
 obtain⟨C',e',lo',hi',rfl,k4,k5,k6,k7⟩:=k3
 by_cases hcc:L'.c=L.c
 ·rw[hcc]at k2 ⊢
  rw[g2]at k2
  simp only[sJ,Obj.cells.injEq,pJ]at k2
  obtain⟨rfl,rfl,rfl,rfl⟩:=k2
  obtain⟨p,hp⟩:∃p:Nat×Nat,(if lo==hi then (C.size,C.size+1) else (min lo C.size,max hi (C.size+1)))=p:=⟨_,rfl⟩
  rw[hp]at q1
  obtain⟨p1,p2⟩:=p
  refine⟨_,q1,C,el,p1,p2,rfl,k4,?_,k6,k7⟩
  have hl:lo=hi∨C.size≤lo:=by
   rcases Nat.lt_or_ge lo C.size with h | h
   ·refine .inl ?_
    have:=hf1 lo h
    omega
   ·exact .inr h
  have hpp:C.size≤p1∧p1≤p2:=by
   split at hp
   ·simp only[pJ]at hp; omega
   ·rename_i hne
    simp only[beq_iff_eq]at hne
    simp only[pJ]at hp
    omega
  exact fun _=>⟨fun i hi=>om,hpp.2,fun e=>by simp at e⟩
 ·exact⟨_,(q2.rest _ hcc).trans k2,C',e',lo',hi',rfl,k4,fun h=>(k5 h).up,k6,k7⟩
end
end Go.Abs
namespace Go.Abs
mutual
def aeq:AVal→AVal→Bool
 | .bool a,.bool b=>a==b
 | .int k a,.int k' b=>decide (k=k')&&eqF a b
 | .str a,.str b=>a==b
 | .ptr none,.ptr none=>true
 | .ptr (some a),.ptr (some b)=>Nat.beq a.b b.b&&(Nat.beq a.lim b.lim&&Nat.beq a.o b.o)
 | .slice none n (.known c),.slice none m (.known d)=>Nat.beq n m&&Nat.beq c d
 | .slice (some a) n (.known c),.slice (some b) m (.known d)=>Nat.beq a.b b.b&&(Nat.beq a.lim b.lim&&(Nat.beq a.o b.o&&(Nat.beq n m&&Nat.beq c d)))
 | .slice (some a) n (.open_ c),.slice (some b) m (.open_ d)=>Nat.beq a.b b.b&&(Nat.beq a.lim b.lim&&(Nat.beq a.o b.o&&(Nat.beq n m&&Nat.beq c d)))
 | .map none,.map none=>true
 | .map (some a),.map (some b)=>Nat.beq a b
 | .nilFunc,.nilFunc=>true
 | .func (.func f) a b,.func (.func g) c d=>Nat.beq f g&&(aeqs a c&&aeqs b d)
 | .nilIface,.nilIface=>true
 | .iface t v,.iface u x=>Nat.beq t u&&aeq v x
 | .agg l,.agg m=>aeqs l m
 | .tuple l,.tuple m=>aeqs l m
 | .val (.slice (some a) n c),.val (.slice (some b) m d)=>decide (a=b)&&(Nat.beq n m&&Nat.beq c d)
 | _,_=>false
def aeqs:List AVal→List AVal→Bool
 | [],[]=>true
 | x::l,y::m=>aeq x y&&aeqs l m
 | _,_=>false
end
theorem nb{a b:Nat}(h:Nat.beq a b=true):a=b:=Nat.eq_of_beq_eq_true h
mutual
theorem aeq_ok:∀(x y:AVal),aeq x y=true→x=y:=by
 intro x y h
 unfold aeq at h
 split at h
 all_goals (try (simp only[Bool.false_eq_true]at h; done))
 ·simp at h; rw[h]
 ·simp only[Bool.and_eq_true,decide_eq_true_eq,eqF_eq,beq_iff_eq]at h; rw[h.1,h.2]
 ·simp at h; rw[h]
 ·rfl
 ·rename_i a b; obtain⟨a1,a2,a3⟩:=a; obtain⟨b1,b2,b3⟩:=b; simp only[Bool.and_eq_true]at h; obtain⟨h1,h2,h3⟩:=h; have:=nb h1; have:=nb h2; have:=nb h3; simp_all
 ·simp only[Bool.and_eq_true]at h; rw[nb h.1,nb h.2]
 ·rename_i a n c b m d; obtain⟨a1,a2,a3⟩:=a; obtain⟨b1,b2,b3⟩:=b; simp only[Bool.and_eq_true]at h; obtain⟨h1,h2,h3,h4,h5⟩:=h; have:=nb h1; have:=nb h2; have:=nb h3; have:=nb h4; have:=nb h5; simp_all
 ·rename_i a n c b m d; obtain⟨a1,a2,a3⟩:=a; obtain⟨b1,b2,b3⟩:=b; simp only[Bool.and_eq_true]at h; obtain⟨h1,h2,h3,h4,h5⟩:=h; have:=nb h1; have:=nb h2; have:=nb h3; have:=nb h4; have:=nb h5; simp_all
 ·rfl
 ·rw[nb h]
 ·rfl
 ·simp only[Bool.and_eq_true]at h; rw[nb h.1,aeqs_ok _ _ h.2.1,aeqs_ok _ _ h.2.2]
 ·rfl
 ·simp only[Bool.and_eq_true]at h; rw[nb h.1,aeq_ok _ _ h.2]
 ·rw[aeqs_ok _ _ h]
 ·rw[aeqs_ok _ _ h]
 ·simp only[Bool.and_eq_true,decide_eq_true_eq]at h; rw[h.1,nb h.2.1,nb h.2.2]
theorem aeqs_ok:∀(l m:List AVal),aeqs l m=true→l=m:=by
 intro l m h
 unfold aeqs at h
 split at h
 ·rfl
 ·simp only[Bool.and_eq_true]at h; rw[aeq_ok _ _ h.1,aeqs_ok _ _ h.2]
 ·simp at h
end
def isMp:Option (Nat×Nat)→Bool
 | some (1,0)=>true
 | _=>false
def clV(b:Nat)(z:List AVal):Option (Nat×Nat)→AVal
 | none=>.ptr (some ⟨b,z.length,0⟩)
 | some (l,c)=>bif isMp (some (l,c)) then .map (some b) else .slice (some ⟨b,z.length,0⟩) l (.known c)
def resO(z:List AVal)(s:Option (Nat×Nat)):AObj:=bif isMp s then .map [] 0 else .cells z 0 false
theorem mp_no{l c:Nat}(h:l≤c):isMp (some (l,c))=false:=by
 unfold isMp
 split
 ·rename_i e
  simp only[sJ,pJ]at e
  omega
 ·rfl
def aClaim(H:AHeap)(b:Nat)(z:List AVal)(s:Option (Nat×Nat)):Option AVal:=
 match H.get b with
 | some (.cells l 0 false)=>bif aeqs l z&&!isMp s then some (clV b z s) else none
 | some (.map [] 0)=>bif isMp s then some (clV b z s) else none
 | _=>none
theorem claim_spec{H:AHeap}{b:Nat}{z:List AVal}{s:Option (Nat×Nat)}{v:AVal}(h:aClaim H b z s=some v):H.get b=some (resO z s)∧v=clV b z s:=by
 unfold aClaim at h
 split at h
 ·rename_i l hl
  cases he:aeqs l z with
  | false=>rw[he]at h; simp at h
  | true=>
   cases hm:isMp s with
   | true=>rw[he,hm]at h; simp at h
   | false=>
    rw[he,hm]at h
    simp only[Bool.not_false,Bool.and_self,cond_true,sJ]at h
    exact⟨by rw[hl,aeqs_ok _ _ he,resO,hm]; rfl,h.symm⟩
 ·rename_i hl
  cases hm:isMp s with
  | false=>rw[hm]at h; simp at h
  | true=>
   rw[hm]at h
   simp only[cond_true,sJ]at h
   exact⟨by rw[hl,resO,hm]; rfl,h.symm⟩
 ·simp at h
end Go.Abs
namespace Go.Abs
section
variable {P:Program} {Prot:Gh} {w0:World} {ρ:Pl} {H H':AHeap} {w:World}
def kcOf(P:Program)(t:TypeId):Option KC:=match P.underlying t with
 | some (.int _)=>some .int
 | some .string=>some .str
 | some (.array n e)=>match P.underlying e,tyOf P e with
  | some (.int _),some (false,1)=>some (.arr n)
  | _,_=>none
 | _=>none
def zeroA(P:Program)(t:TypeId):Option AVal:=match P.info? t with
 | some i=>match i.zero with
  | some z=>absC z
  | none=>none
 | none=>none
theorem zeroA_ok{t:TypeId}{x:AVal}(h:zeroA P t=some x):∃z,(∀W,(zeroValue t).run P W=.ok z W)∧∀ρ,VRel ρ x z:=by
 unfold zeroA at h
 split at h
 ·rename_i i hi
  split at h
  ·rename_i z hz
   exact⟨z,fun W=>by simp[zeroValue,run_typeInfo W hi,hz],fun ρ=>absC_ok h⟩
  ·simp at h
 ·simp at h
theorem kEqs_ok:∀{l m:List AVal},kEqs l m=some true→∀{vs us:List Value},VRels ρ l vs→VRels ρ m us→vs=us
 | [],[],_,vs,us,hv,hu=>by
  simp only[VRels]at hv hu
  subst hv hu; rfl
 | .int k a::l,.int k' c::m,h,vs,us,hv,hu=>by
  simp only[VRels,VRel]at hv hu
  obtain⟨v,r,rfl,rfl,hv⟩:=hv
  obtain⟨u,s,rfl,rfl,hu⟩:=hu
  simp only[kEqs]at h
  split at h
  ·rename_i hk
   subst hk
   rw[eqF_eq]at h
   by_cases e:a=c
   ·subst e
    simp only[beq_self_eq_true,cond_true]at h
    rw[kEqs_ok h hv hu]
   ·have:(a==c)=false:=by simpa using e
    rw[this]at h
    simp at h
  ·simp at h
theorem kEq_int{x y:AVal}{b:Bool}(h:kEq .int x y=some b):∃k a c,x=.int k a∧y=.int k c∧b=(a==c):=by
 cases x <;> simp only[kEq,reduceCtorEq]at h
 rename_i k a
 cases y <;> simp only[kEq,reduceCtorEq]at h
 rename_i k' c
 split at h
 ·rename_i hk
  subst hk
  simp only[sJ]at h
  exact⟨k,a,c,rfl,rfl,by rw[← h,eqF_eq]⟩
 ·simp at h
theorem kEq_str{x y:AVal}{b:Bool}(h:kEq .str x y=some b):∃a c,x=.str a∧y=.str c∧b=(a==c):=by
 cases x <;> simp only[kEq,reduceCtorEq]at h
 rename_i a
 cases y <;> simp only[kEq,reduceCtorEq]at h
 rename_i c
 simp only[sJ]at h
 exact⟨a,c,rfl,rfl,h.symm⟩
theorem kEq_arr{n:Nat}{x y:AVal}{b:Bool}(h:kEq (.arr n) x y=some b):∃l m,x=.agg l∧y=.agg m∧l.length=n∧m.length=n∧kEqs l m=some b:=by
 cases x <;> simp only[kEq,reduceCtorEq]at h
 rename_i l
 cases y <;> simp only[kEq,reduceCtorEq]at h
 rename_i m
 cases hg:(Nat.beq l.length n&&Nat.beq m.length n) with
 | false=>rw[hg]at h; simp at h
 | true=>
  rw[hg]at h
  simp only[cond_true]at h
  simp only[Bool.and_eq_true]at hg
  exact⟨l,m,rfl,rfl,Nat.eq_of_beq_eq_true hg.1,Nat.eq_of_beq_eq_true hg.2,h⟩
theorem cells_of{t:TypeId}{a:Bool}{n:Nat}(h:tyOf P t=some (a,n)):P.cellsOf t=n∧∃i,P.info? t=some i:=by
 unfold tyOf at h
 split at h <;> simp only[sJ,pJ,reduceCtorEq]at h
 all_goals
  rename_i hi
  exact⟨by simp[Program.cellsOf,hi,h.2],_,hi⟩
theorem eqItems_ok{e:TypeId}{kk:IntKind}(he:P.underlying e=some (.int kk))(T:Ty P e false 1){L M:List AVal}{xs ys:Array Value}(hL:VRels ρ L xs.toList)(hM:VRels ρ M ys.toList)(d:Nat) :
  ∀(k o:Nat) (b:Bool),L.length=o+k→M.length=o+k→kEqs (L.drop o) (M.drop o)=some b→(Op.eqItems (d+1) e 1 xs ys (List.range' o k)).run P w=.ok b w:=by
 intro k
 induction k with
 | zero=>
  intro o b h1 h2 h
  rw[List.drop_eq_nil_of_le om,List.drop_eq_nil_of_le om]at h
  simp only[kEqs,sJ]at h
  subst h
  simp[Op.eqItems]
 | succ k ih=>
  intro o b h1 h2 h
  have hl:o<L.length:=om
  have hm:o<M.length:=om
  rw[List.drop_eq_getElem_cons hl,List.drop_eq_getElem_cons hm]at h
  have gl:L[o]?=some L[o]:=List.getElem?_eq_getElem hl
  have gm:M[o]?=some M[o]:=List.getElem?_eq_getElem hm
  generalize L[o]=x at *
  generalize M[o]=y at *
  obtain⟨u,u1,u2⟩:=part_ok (P:=P) (w:=w) T hL (off:=o) (y:=x) (by simpa[aPart] using gl)
  obtain⟨v,v1,v2⟩:=part_ok (P:=P) (w:=w) T hM (off:=o) (y:=y) (by simpa[aPart] using gm)
  unfold kEqs at h
  split at h
  ·rename_i heq _; simp at heq
  ·rename_i k1 a l k2 c m e1 e2
   simp only[List.cons.injEq]at e1 e2
   obtain⟨rfl,rfl⟩:=e1
   obtain⟨rfl,rfl⟩:=e2
   simp only[VRel]at u2 v2
   subst u2 v2
   split at h
   ·rename_i hk
    subst hk
    rw[eqF_eq]at h
    rw[List.range'_succ]
    simp only[Op.eqItems,Nat.mul_one,Sem.run_bind,u1,v1,Result.andThen_ok]
    have hq:(Op.equalIn (d+1) e (.int k1 a) (.int k1 c)).run P w=.ok (a==c) w:=by
     simp[Op.equalIn,run_underlying he]
    rw[hq]
    cases hac:(a==c) with
    | true=>
     rw[hac]at h
     simp only[Result.andThen_ok,Bool.not_true,Bool.false_eq_true,if_false]
     exact ih (o+1) b om om h
    | false=>
     rw[hac]at h
     simp only[cond_false,sJ]at h
     subst h
     simp
   ·simp at h
  ·simp at h
def Found(ρ:Pl)(v:Value)(es:List Ent)(ES:List MapEntry)(i:Nat):Option (Nat×Ent)→Option (Nat×Value)→Prop
 | none,r=>r=none
 | some (j,e),r=>i≤j∧∃E,r=some (j,E.val)∧es[j-i]?=some e∧ES[j-i]?=some E∧EntryRel ρ e E∧E.key=v
theorem Found.step{v:Value}{e:Ent}{es:List Ent}{E:MapEntry}{ES:List MapEntry}{i:Nat}{r:Option (Nat×Ent)}{r':Option (Nat×Value)}(h:Found ρ v es ES (i+1) r r'):Found ρ v (e::es) (E::ES) i r r':=by
 cases r with
 | none=>exact h
 | some p=>
  obtain⟨j,x⟩:=p
  obtain⟨h1,E',h2,h3,h4,h5⟩:=h
  refine⟨om,E',h2,?_,?_,h5⟩
  ·rw[show j-i=(j-(i+1))+1 by omega]; simpa using h3
  ·rw[show j-i=(j-(i+1))+1 by omega]; simpa using h4
theorem now_ok{kc:KC}{d:TypeDesc}(hd:(kc=.int∧∃k,d=.int k)∨(kc=.str∧d=.string)){x:AVal}{v:Value}(hx:VRel ρ x v):∀(es:List Ent) (ES:List MapEntry) (i:Nat) (r:Option (Nat×Ent)),EntriesRel ρ es ES→mFind kc x es i=some r →
  ∃r',Instr.findNow d v ES i=some r'∧Found ρ v es ES i r r':=by
 intro es
 induction es with
 | nil=>
  intro ES i r hE h
  simp only[mFind,sJ]at h
  simp only[EntriesRel]at hE
  subst h hE
  exact⟨none,rfl,rfl⟩
 | cons e es ih=>
  intro ES i r hE h
  simp only[EntriesRel]at hE
  obtain⟨E,ES',rfl,hEE,hE⟩:=hE
  obtain⟨he1,he2,he3⟩:=hEE
  have key:∀b,kEq kc x e.1=some b→Instr.sameNow d v E.key=some b∧(b=true→E.key=v):=by
   intro b hb
   rcases hd with⟨rfl,k,rfl⟩ | ⟨rfl,rfl⟩
   ·obtain⟨k1,a,c,hx1,hx2,rfl⟩:=kEq_int hb
    rw[hx1]at hx
    rw[hx2]at he1
    simp only[VRel]at hx he1
    rw[hx,he1]
    refine⟨by simp[Instr.sameNow],fun ht=>?_⟩
    have:a=c:=by simpa using ht
    rw[this]
   ·obtain⟨a,c,hx1,hx2,rfl⟩:=kEq_str hb
    rw[hx1]at hx
    rw[hx2]at he1
    simp only[VRel]at hx he1
    rw[hx,he1]
    have hs:(strOf a==strOf c)=(a==c):=by
     rw[Bool.eq_iff_iff,MapKept.bytes_beq]
     simp only[beq_iff_eq]
     exact⟨fun q=>by simpa[strOf] using congrArg (fun s:ByteArray=>s.data.toList) q,fun q=>by rw[q]⟩
    refine⟨by simp only[Instr.sameNow,hs],fun ht=>?_⟩
    have:a=c:=by simpa using ht
    rw[this]
  simp only[mFind]at h
  split at h
  ·rename_i hb
   simp only[sJ]at h
   subst h
   obtain⟨k1,k2⟩:=key _ hb
   exact⟨some (i,E.val),by simp[Instr.findNow,k1],Nat.le_refl _,E,rfl,by simp,by simp,⟨he1,he2,he3⟩,k2 rfl⟩
  ·rename_i hb
   obtain⟨k1,k2⟩:=key _ hb
   obtain⟨r',q1,q2⟩:=ih ES' (i+1) r hE h
   exact⟨r',by simp[Instr.findNow,k1,q1],q2.step⟩
  ·simp at h
theorem asking_ok{kt e:TypeId}{n:Nat}{kk:IntKind}(hu:P.underlying kt=some (.array n e))(he:P.underlying e=some (.int kk))(hT:tyOf P e=some (false,1)){x:AVal}{v:Value}(hx:VRel ρ x v):∀(es:List Ent) (ES:List MapEntry) (i:Nat) (r:Option (Nat×Ent)),EntriesRel ρ es ES→mFind (.arr n) x es i=some r →
  ∃r',(Instr.findAsking kt v ES i).run P w=.ok r' w∧Found ρ v es ES i r r':=by
 intro es
 induction es with
 | nil=>
  intro ES i r hE h
  simp only[mFind,sJ]at h
  simp only[EntriesRel]at hE
  subst h hE
  exact⟨none,rfl,rfl⟩
 | cons e0 es ih=>
  intro ES i r hE h
  simp only[EntriesRel]at hE
  obtain⟨E,ES',rfl,hEE,hE⟩:=hE
  obtain⟨he1,he2,he3⟩:=hEE
  have key:∀b,kEq (.arr n) x e0.1=some b→(Op.equal kt v E.key).run P w=.ok b w∧(b=true→E.key=v):=by
   intro b hb
   obtain⟨l,m,hx1,hx2,h1,h2,hb⟩:=kEq_arr hb
   rw[hx1]at hx
   rw[hx2]at he1
   simp only[VRel]at hx he1
   obtain⟨xs,rfl,hxs⟩:=hx
   obtain⟨ys,hy,hys⟩:=he1
   obtain⟨hc1,i0,hi0⟩:=cells_of hT
   rw[hy]
   constructor
   ·show (Op.equalIn (9998+1+1) kt (.agg xs) (.agg ys)).run P w=_
    rw[run_equalIn_array w (9998+1) xs ys hu hi0,hc1,List.range_eq_range']
    exact eqItems_ok he (ty_of hT) hxs hys 9998 n 0 b om om (by simpa using hb)
   ·intro ht
    subst ht
    rw[Array.toList_inj.1 (kEqs_ok hb hxs hys)]
  simp only[mFind]at h
  split at h
  ·rename_i hb
   simp only[sJ]at h
   subst h
   obtain⟨k1,k2⟩:=key _ hb
   exact⟨some (i,E.val),by simp[Instr.findAsking,k1],Nat.le_refl _,E,rfl,by simp,by simp,⟨he1,he2,he3⟩,k2 rfl⟩
  ·rename_i hb
   obtain⟨k1,k2⟩:=key _ hb
   obtain⟨r',q1,q2⟩:=ih ES' (i+1) r hE h
   exact⟨r',by simp[Instr.findAsking,k1,q1],q2.step⟩
  ·simp at h
theorem kcOf_cases{kt:TypeId}{kc:KC}(h:kcOf P kt=some kc):(∃k,kc=.int∧P.underlying kt=some (.int k))∨(kc=.str∧P.underlying kt=some .string)∨∃n e kk,kc=.arr n∧P.underlying kt=some (.array n e)∧P.underlying e=some (.int kk)∧tyOf P e=some (false,1):=by
 unfold kcOf at h
 split at h
 ·rename_i k hu
  simp only[sJ]at h
  exact .inl ⟨k,h.symm,hu⟩
 ·rename_i hu
  simp only[sJ]at h
  exact .inr (.inl ⟨h.symm,hu⟩)
 ·rename_i n e hu
  split at h
  ·rename_i kk he hT
   simp only[sJ]at h
   exact .inr (.inr ⟨n,e,kk,h.symm,hu,he,hT⟩)
  ·simp at h
 ·simp at h
theorem findKey_ok{kt:TypeId}{kc:KC}(hk:kcOf P kt=some kc){x:AVal}{v:Value}(hx:VRel ρ x v){es:List Ent}{ES:List MapEntry}{r:Option (Nat×Ent)}(hE:EntriesRel ρ es ES)(h:mFind kc x es 0=some r) :
  ∃r',(Instr.findKey kt v ES).run P w=.ok r' w∧Found ρ v es ES 0 r r':=by
 rcases kcOf_cases hk with⟨k,rfl,hu⟩ | ⟨rfl,hu⟩ | ⟨n,e,kk,rfl,hu,he,hT⟩
 ·obtain⟨r',q1,q2⟩:=now_ok (d:=.int k) (.inl ⟨rfl,k,rfl⟩) hx es ES 0 r hE h
  exact⟨r',by simp[Instr.findKey,run_underlying hu,q1],q2⟩
 ·obtain⟨r',q1,q2⟩:=now_ok (d:=.string) (.inr ⟨rfl,rfl⟩) hx es ES 0 r hE h
  exact⟨r',by simp[Instr.findKey,run_underlying hu,q1],q2⟩
 ·cases es with
  | nil=>
   simp only[mFind,sJ]at h
   simp only[EntriesRel]at hE
   subst h hE
   exact⟨none,by simp[Instr.findKey,run_underlying hu,Instr.findNow],rfl⟩
  | cons e0 es=>
   obtain⟨r',q1,q2⟩:=asking_ok (w:=w) hu he hT hx (e0::es) ES 0 r hE h
   refine⟨r',?_,q2⟩
   simp only[EntriesRel]at hE
   obtain⟨E,ES',rfl,_,_⟩:=hE
   have hn:Instr.findNow (.array n e) v (E::ES') 0=none:=by
    unfold Instr.findNow
    have:Instr.sameNow (.array n e) v E.key=none:=by
     cases v <;> cases E.key <;> rfl
    rw[this]
   simp[Instr.findKey,run_underlying hu,hn,q1]
theorem isKs_int:∀{l:List AVal},isKs l=true→∀x∈l,∃k n,x=.int k n
 | [],_,x,hx=>by simp at hx
 | .int k n::l,h,x,hx=>by
  rcases List.mem_cons.1 hx with rfl | hx
  ·exact⟨_,_,rfl⟩
  ·exact isKs_int (l:=l) h x hx
theorem check1{t:TypeId}{k:IntKind}(hu:P.underlying t=some (.int k))(em:Bool)(d:Nat)(x:Value):(Instr.checkKey em (d+1) t x).run P w=.ok () w:=by
 simp[Instr.checkKey,run_underlying hu]
theorem check2{t:TypeId}(hu:P.underlying t=some .string)(em:Bool)(d:Nat)(x:Value):(Instr.checkKey em (d+1) t x).run P w=.ok () w:=by
 simp[Instr.checkKey,run_underlying hu]
theorem checkKey_ok{kt:TypeId}{kc:KC}(hk:kcOf P kt=some kc){x:AVal}{v:Value}(hx:VRel ρ x v)(hi:isK kc x=true)(em:Bool):(Instr.checkKey em 10000 kt v).run P w=.ok () w:=by
 rcases kcOf_cases hk with⟨k,rfl,hu⟩ | ⟨rfl,hu⟩ | ⟨n,e,kk,rfl,hu,he,hT⟩
 ·cases x <;> simp only[isK,Bool.false_eq_true]at hi
  simp only[VRel]at hx; subst hx
  exact check1 hu em 9999 _
 ·cases x <;> simp only[isK,Bool.false_eq_true]at hi
  simp only[VRel]at hx; subst hx
  exact check2 hu em 9999 _
 ·cases x <;> simp only[isK,Bool.false_eq_true]at hi
  rename_i l
  simp only[Bool.and_eq_true]at hi
  have hl:=Nat.eq_of_beq_eq_true hi.1
  have hint:=isKs_int hi.2
  simp only[VRel]at hx
  obtain⟨xs,rfl,hxs⟩:=hx
  show (Instr.checkKey em (9998+1+1) kt _).run P w=_
  rw[Instr.checkKey]
  simp only[Sem.run_bind,run_underlying hu,Result.andThen_ok]
  simp only[Std.Legacy.Range.forIn_eq_forIn_range',Std.Legacy.Range.size,Nat.sub_zero,Nat.add_one_sub_one,Nat.div_one]
  have hT':=ty_of hT
  have key:∀(k o:Nat),o+k=n→((forIn (List.range' o k) PUnit.unit fun i _=>do
    let a ← sizeOf e
    let b ← part e xs (i*a)
    Instr.checkKey em (9998+1) e b
    pure (ForInStep.yield PUnit.unit)):Sem PUnit).run P w=.ok PUnit.unit w:=by
   intro k
   induction k with
   | zero=>intro o _; simp
   | succ k ih=>
    intro o ho
    have hlt:o<l.length:=om
    have gl:l[o]?=some l[o]:=List.getElem?_eq_getElem hlt
    obtain⟨k1,a,hxa⟩:=hint l[o] (List.getElem_mem hlt)
    obtain⟨u,u1,u2⟩:=part_ok (P:=P) (w:=w) hT' hxs (off:=o) (y:=l[o]) (by simpa[aPart] using gl)
    rw[hxa]at u2
    simp only[VRel]at u2
    subst u2
    have hc:(Instr.checkKey em (9998+1) e (.int k1 a)).run P w=.ok () w:=check1 he em 9998 _
    rw[List.range'_succ]
    simp only[List.forIn_cons,Sem.run_bind,hT'.size,Nat.mul_one,Result.andThen_ok,u1,hc,Sem.run_pure]
    exact ih (o+1) om
  rw[key n 0 om]
  rfl
theorem EntriesRel.append:∀{es fs:List Ent} {ES FS:List MapEntry},EntriesRel ρ es ES→EntriesRel ρ fs FS→EntriesRel ρ (es++fs) (ES++FS)
 | [],_,_,_,h,h'=>by simp only[EntriesRel]at h; subst h; simpa using h'
 | x::l,fs,ES,FS,h,h'=>by
  simp only[EntriesRel]at h
  obtain⟨e,r,rfl,h1,h2⟩:=h
  simp only[List.cons_append,EntriesRel]
  exact⟨e,r++FS,rfl,h1,EntriesRel.append h2 h'⟩
theorem EntriesRel.set:∀{es:List Ent} {ES:List MapEntry} (i:Nat) {e':Ent} {E':MapEntry},EntriesRel ρ es ES→EntryRel ρ e' E'→EntriesRel ρ (mSet es i e') (ES.set i E')
 | [],_,_,_,_,h,_=>by simp only[EntriesRel]at h; subst h; simp[mSet,EntriesRel]
 | x::l,ES,i,e',E',h,h'=>by
  simp only[EntriesRel]at h
  obtain⟨e,r,rfl,h1,h2⟩:=h
  cases i with
  | zero=>simp only[mSet,List.set_cons_zero,EntriesRel]; exact⟨E',r,rfl,h',h2⟩
  | succ i=>simp only[mSet,List.set_cons_succ,EntriesRel]; exact⟨e,_,rfl,h1,EntriesRel.set i h2 h'⟩
theorem modify_set{ES:Array MapEntry}{i:Nat}{E:MapEntry}(h:ES[i]?=some E)(f:MapEntry→MapEntry):(ES.modify i f).toList=ES.toList.set i (f E):=by
 apply List.ext_getElem?
 intro j
 rw[Array.getElem?_toList,Array.getElem?_modify,List.getElem?_set]
 by_cases e:i=j
 ·subst e
  obtain⟨hlt,hE⟩:=Array.getElem?_eq_some_iff.1 h
  simp[h,hlt,hE]
 ·simp[e]
theorem map_at(R:Rel Prot w0 ρ H w){r:Nat}{mv:Value}(hx:VRel ρ (.map (some r)) mv){es:List Ent}{c:Nat}(hH:H.get r=some (.map es c)):∃L ES,ρ r 0=some L∧mv=.map (some L.c)∧w.heap[L.c]?=some (.map ES c)∧EntriesRel ρ es ES.toList:=by
 simp only[VRel]at hx
 obtain⟨L,hL,rfl⟩:=hx
 obtain⟨x,o,g1,g2,g3⟩:=R.obj _ _ _ hL
 rw[hH]at g1
 simp only[sJ]at g1
 subst g1
 simp only[ORel]at g3
 obtain⟨_,ES,rfl,hE⟩:=g3
 exact⟨L,ES,hL,rfl,g2,hE⟩
theorem map_turn(R:Rel Prot w0 ρ H w){r:Nat}{L:Loc}(hL:ρ r 0=some L){es:List Ent}{c:Nat}(hH:H.get r=some (.map es c)){es':List Ent}{c':Nat}{ES':Array MapEntry}(hE:EntriesRel ρ es' ES'.toList) :
  Rel Prot w0 ρ (H.set r (.map es' c')) { w with heap:=w.heap.setIfInBounds L.c (.map ES' c') }:=by
 have hlt:L.c<w.heap.size:=(R.dom _ _ _ hL).2
 refine R.turn (w':={ w with heap:=w.heap.setIfInBounds L.c (.map ES' c') }) (y:=.map es' c') hL hH rfl ⟨rfl,rfl,rfl,by simp,fun i hi=>by simp[Array.getElem?_setIfInBounds,Ne.symm hi]⟩ rfl fun l' L' h'=>?_
 obtain⟨x,o,k1,k2,k3⟩:=R.obj _ _ _ h'
 rw[hH]at k1
 simp only[sJ]at k1
 subst k1
 simp only[ORel]at k3
 obtain⟨rfl,_⟩:=k3
 rw[hL]at h'
 simp only[sJ]at h'
 subst h'
 exact⟨.map ES' c',by simp[hlt],by simp only[ORel]; exact⟨trivial,ES',rfl,hE⟩⟩
theorem mkMap_ok(R:Rel Prot w0 ρ H w)(t:TypeId){y:AVal}(h:aMkMap H []=some (y,H')):GoodV P Prot w0 ρ w (Instr.makeMap t none) y H':=by
 simp only[aMkMap,sJ,pJ]at h
 obtain⟨rfl,rfl⟩:=h
 obtain⟨h1,h2⟩:=R.push' (w':=w.alloc (.map #[] 0)) rfl rfl rfl (Array.size_push _) (fun i hi=>by rw[World.alloc,Array.getElem?_push,if_neg (Nat.ne_of_lt hi)])
  (x:=.map [] 0) (o:=.map #[] 0) (lim:=0) (n:=0) (cl:=false) (by rw[World.alloc,Array.getElem?_push,if_pos rfl]) (by simp only[ORel]; exact⟨trivial,#[],rfl,by simp[EntriesRel]⟩) rfl
 refine⟨_,_,_,h1,RowKit.run_makeMap t w,h2,?_⟩
 simp only[VRel]
 exact⟨_,upd_same _ _ _ _,rfl⟩
theorem ret_ok(ok:Bool){x:AVal}{v:Value}(h:VRel ρ x v)(b:Bool):VRel ρ (mRet ok x b) (if ok=true then .tuple #[v,.bool b] else v):=by
 cases ok with
 | false=>simpa[mRet] using h
 | true=>simp[mRet,VRel,VRels,h]
theorem mLook_ok(R:Rel Prot w0 ρ H w){t kt el:TypeId}{kc:KC}(hm:P.underlying t=some (.map kt el))(hk:kcOf P kt=some kc){z:AVal}(hz:zeroA P el=some z){ok:Bool}{m k y:AVal}{mv kv:Value}(hx:VRel ρ m mv)(hy:VRel ρ k kv)
  (h:aMLook kc ok z H [m,k]=some (y,H')):GoodV P Prot w0 ρ w (Instr.lookup t mv kv ok) y H':=by
 obtain⟨zv,hz1,hz2⟩:=zeroA_ok hz
 unfold aMLook at h
 split at h <;> first | (simp at h; done) | skip
 ·rename_i k' heq
  simp only[List.cons.injEq,and_true]at heq
  obtain⟨rfl,rfl⟩:=heq
  cases hi:isK kc k with
  | false=>rw[hi]at h; simp at h
  | true=>
   rw[hi]at h
   simp only[cond_true,sJ,pJ]at h
   obtain⟨rfl,rfl⟩:=h
   simp only[VRel]at hx
   subst hx
   obtain⟨r',q1,q2⟩:=findKey_ok (w:=w) hk hy (es:=[]) (ES:=[]) (r:=none) (by simp[EntriesRel]) rfl
   simp only[Found]at q2
   subst q2
   refine GoodV.pure R (v:=if ok=true then .tuple #[zv,.bool false] else zv) ?_ (ret_ok ok (hz2 ρ) false)
   simp[Instr.lookup,run_underlying hm,checkKey_ok (w:=w) hk hy hi,q1,hz1,Result.andThen]
 ·rename_i r k' heq
  simp only[List.cons.injEq,and_true]at heq
  obtain⟨rfl,rfl⟩:=heq
  split at h <;> first | (simp at h; done) | skip
  rename_i es c hH
  obtain⟨L,ES,hL,rfl,hb,hE⟩:=map_at R hx hH
  split at h <;> first | (simp at h; done) | skip
  rename_i v hv
  simp only[sJ,pJ]at h
  obtain⟨rfl,rfl⟩:=h
  unfold aLookE at hv
  cases hi:isK kc k with
  | false=>rw[hi]at hv; simp at hv
  | true=>
   rw[hi]at hv
   simp only[cond_true]at hv
   split at hv <;> first | (simp at hv; done) | skip
   ·rename_i j e hf
    simp only[sJ]at hv
    subst hv
    obtain⟨r',q1,q2⟩:=findKey_ok (w:=w) hk hy hE hf
    obtain⟨_,E,rfl,_,_,⟨_,he2,_⟩,_⟩:=q2
    refine GoodV.pure R (v:=if ok=true then .tuple #[E.val,.bool true] else E.val) ?_ (ret_ok ok he2 true)
    simp[Instr.lookup,run_underlying hm,MapKept.run_getObj_map hb,checkKey_ok (w:=w) hk hy hi,q1,Result.andThen]
   ·rename_i hf
    simp only[sJ]at hv
    subst hv
    obtain⟨r',q1,q2⟩:=findKey_ok (w:=w) hk hy hE hf
    simp only[Found]at q2
    subst q2
    refine GoodV.pure R (v:=if ok=true then .tuple #[zv,.bool false] else zv) ?_ (ret_ok ok (hz2 ρ) false)
    simp[Instr.lookup,run_underlying hm,MapKept.run_getObj_map hb,checkKey_ok (w:=w) hk hy hi,q1,hz1,Result.andThen]
theorem bits_list:∀{l:List AVal},isKs l=true→∀{vs:List Value},VRels ρ l vs→∀n,((vs.zip vs).all fun (x,y)=>Instr.sameBits n x y)=true
 | [],_,vs,h,n=>by simp only[VRels]at h; subst h; rfl
 | .int k a::l,hi,vs,h,n=>by
  simp only[VRels,VRel]at h
  obtain⟨v,r,rfl,rfl,h⟩:=h
  have:=bits_list (l:=l) hi h n
  simp only[List.zip_cons_cons,List.all_cons,this,Bool.and_true]
  cases n <;> simp[Instr.sameBits]
theorem stays_ok{kc:KC}{x:AVal}{v:Value}(hx:VRel ρ x v)(hi:isK kc x=true):(Instr.keyThatStays v v).run P w=.ok v w:=by
 have:Instr.sameBits 10000 v v=true:=by
  cases kc with
  | int=>cases x <;> simp only[isK,Bool.false_eq_true]at hi; simp only[VRel]at hx; subst hx; show Instr.sameBits (9999+1) _ _=true; simp[Instr.sameBits]
  | str=>cases x <;> simp only[isK,Bool.false_eq_true]at hi; simp only[VRel]at hx; subst hx; show Instr.sameBits (9999+1) _ _=true; rw[Instr.sameBits]; exact (MapKept.bytes_beq _ _).2 rfl
  | arr n=>
   cases x <;> simp only[isK,Bool.false_eq_true]at hi
   simp only[Bool.and_eq_true]at hi
   simp only[VRel]at hx
   obtain⟨xs,rfl,hxs⟩:=hx
   show Instr.sameBits (9999+1) _ _=true
   have:=bits_list hi.2 hxs 9999
   simp only[Instr.sameBits,beq_self_eq_true,Bool.true_and]
   exact this
 simp[Instr.keyThatStays,this]
theorem born_ok(n:Nat):∀(es:List Ent) (ES:List MapEntry) (i j:Nat) (e:Ent),EntriesRel ρ es ES→mBorn n es i=some (j,e)→i≤j∧es[j-i]?=some e∧∃E,ES[j-i]?=some E∧EntryRel ρ e E∧ES.findIdx? (fun e=>(e.born:Int)==(n:Int))=some (j-i)
 | [],ES,i,j,e,_,h=>by simp[mBorn]at h
 | x::es,ES,i,j,e,hE,h=>by
  simp only[EntriesRel]at hE
  obtain⟨E,ES',rfl,hEE,hE⟩:=hE
  simp only[mBorn]at h
  have hb:((E.born:Int)==(n:Int))=Nat.beq x.2.2 n:=by
   rw[hEE.2.2,beq_dec]
   by_cases e:x.2.2=n
   ·simp[e]
   ·have:¬((x.2.2:Int)=(n:Int)):=om
    simp[e,this]
  cases hc:Nat.beq x.2.2 n with
  | true=>
   rw[hc]at h hb
   simp only[cond_true,sJ,pJ]at h
   obtain⟨rfl,rfl⟩:=h
   refine⟨Nat.le_refl _,by simp,E,by simp,hEE,?_⟩
   simp[List.findIdx?_cons,hb]
  | false=>
   rw[hc]at h hb
   simp only[cond_false]at h
   obtain⟨h1,h2,E',h3,h4,h5⟩:=born_ok n es ES' (i+1) j e hE h
   have e1:j-i=(j-(i+1))+1:=om
   refine⟨om,by rw[e1]; simpa using h2,E',by rw[e1]; simpa using h3,h4,?_⟩
   rw[List.findIdx?_cons,hb]
   simp only[Bool.false_eq_true,if_false,h5,Option.map_some]
   congr 1; omega
theorem mEntry_ok(R:Rel Prot w0 ρ H w){t kt el:TypeId}{kc:KC}(hm:P.underlying t=some (.map kt el))(hk:kcOf P kt=some kc){z:AVal}(hz:zeroA P el=some z){m k y:AVal}{mv kv:Value}(hx:VRel ρ m mv)(hy:VRel ρ k kv)
  (h:aMF (.entry kc z) H [m,k]=some (y,H')):GoodV P Prot w0 ρ w (Instr.mapEntry t mv kv) y H':=by
 obtain⟨zv,hz1,hz2⟩:=zeroA_ok hz
 unfold aMF at h
 split at h <;> first | (simp at h; done) | skip
 rename_i r l heq
 simp only[List.cons.injEq]at heq
 obtain⟨rfl,rfl⟩:=heq
 split at h <;> first | (simp at h; done) | skip
 rename_i es c hH
 obtain⟨L,ES,hL,rfl,hb,hE⟩:=map_at R hx hH
 split at h <;> first | (simp at h; done) | skip
 rename_i v es' c' hv
 simp only[sJ,pJ]at h
 obtain⟨rfl,rfl⟩:=h
 simp only[aMf]at hv
 cases hi:isK kc k with
 | false=>rw[hi]at hv; simp at hv
 | true=>
  rw[hi]at hv
  simp only[cond_true]at hv
  split at hv <;> first | (simp at hv; done) | skip
  ·rename_i j e hf
   simp only[sJ,pJ]at hv
   obtain⟨rfl,rfl,rfl⟩:=hv
   obtain⟨r',q1,q2⟩:=findKey_ok (w:=w) hk hy hE hf
   obtain⟨_,E,rfl,q3,q4,⟨he1,he2,he3⟩,q5⟩:=q2
   rw[Nat.sub_zero,Array.getElem?_toList]at q4
   refine⟨ρ,_,.tuple #[E.val,.int .i64 E.born],Pl.le_refl _,?_,map_turn R hL hH (ES':=ES.modify j fun e=>{ e with key:=kv }) (by
    rw[modify_set q4]
    exact hE.set j ⟨hy,he2,he3⟩),by simp[VRel,VRels,he2,he3]⟩
   simp[Instr.mapEntry,run_underlying hm,MapKept.run_getObj_map hb,checkKey_ok (w:=w) hk hy hi,q1,q4,q5,stays_ok (w:=w) hy hi,MapKept.run_setObj_map _ hb,Result.andThen,goInt]
  ·rename_i hf
   simp only[sJ,pJ]at hv
   obtain⟨rfl,rfl,rfl⟩:=hv
   obtain⟨r',q1,q2⟩:=findKey_ok (w:=w) hk hy hE hf
   simp only[Found]at q2
   subst q2
   refine⟨ρ,_,.tuple #[zv,.int .i64 c],Pl.le_refl _,?_,map_turn R hL hH (ES':=ES.push { key:=kv,val:=zv,born:=c }) (by
    rw[Array.toList_push]
    refine hE.append ?_
    simp only[EntriesRel]
    exact⟨_,_,rfl,⟨hy,hz2 ρ,rfl⟩,rfl⟩),by simp[VRel,VRels,hz2 ρ]⟩
   simp[Instr.mapEntry,run_underlying hm,MapKept.run_getObj_map hb,checkKey_ok (w:=w) hk hy hi,q1,hz1,MapKept.run_setObj_map _ hb,Result.andThen,goInt]
theorem aMf_store(es:List Ent)(c:Nat)(n x:AVal):aMf .store es c [n,x]=match n with
  | .int .i64 (.ofNat b)=>match mBorn b es 0 with
   | some (i,e)=>some (.tuple [],mSet es i (e.1,x,e.2.2),c)
   | none=>none
  | _=>none:=by
 cases n with
 | int k z=>cases k <;> cases z <;> rfl
 | _=>rfl
theorem mStore_ok(R:Rel Prot w0 ρ H w)(t:TypeId){m n x y:AVal}{mv nv xv:Value}(hx:VRel ρ m mv)(hn:VRel ρ n nv)(hy:VRel ρ x xv)
  (h:aMF .store H [m,n,x]=some (y,H')):y=.tuple []∧∃w',(Instr.entryStore t mv nv xv).run P w=.ok () w'∧Rel Prot w0 ρ H' w':=by
 unfold aMF at h
 split at h <;> first | (simp at h; done) | skip
 rename_i r l heq
 simp only[List.cons.injEq]at heq
 obtain⟨rfl,rfl⟩:=heq
 split at h <;> first | (simp at h; done) | skip
 rename_i es c hH
 obtain⟨L,ES,hL,rfl,hb,hE⟩:=map_at R hx hH
 split at h <;> first | (simp at h; done) | skip
 rename_i v es' c' hv
 simp only[sJ,pJ]at h
 obtain⟨rfl,rfl⟩:=h
 rw[aMf_store]at hv
 split at hv <;> first | (simp at hv; done) | skip
 ·rename_i b
  split at hv <;> first | (simp at hv; done) | skip
  rename_i j e hf
  simp only[sJ,pJ]at hv
  obtain⟨rfl,rfl,rfl⟩:=hv
  obtain⟨_,q3,E,q4,⟨he1,he2,he3⟩,q5⟩:=born_ok b es ES.toList 0 j e hE hf
  rw[Nat.sub_zero]at q3 q4 q5
  rw[Array.getElem?_toList]at q4
  simp only[VRel]at hn
  subst hn
  have hidx:ES.findIdx? (fun e=>(e.born:Int)==(b:Int))=some j:=by
   rw[← q5]; exact (List.findIdx?_toArray _ ES.toList)
  refine⟨rfl,_,?_,map_turn R hL hH (ES':=ES.modify j fun e=>{ e with val:=xv }) (by
   rw[modify_set q4]
   exact hE.set j ⟨he1,hy,he3⟩)⟩
  simp[Instr.entryStore,MapKept.run_getObj_map hb,asInt,asIntOf,hidx,MapKept.run_setObj_map _ hb,Result.andThen]
theorem mUpd_ok(R:Rel Prot w0 ρ H w){t kt el:TypeId}{kc:KC}(hm:P.underlying t=some (.map kt el))(hk:kcOf P kt=some kc){m k x y:AVal}{mv kv xv:Value}(hx:VRel ρ m mv)(hy:VRel ρ k kv)(hv0:VRel ρ x xv)
  (h:aMF (.upd kc) H [m,k,x]=some (y,H')):y=.tuple []∧∃w',(Instr.mapUpdate t mv kv xv).run P w=.ok () w'∧Rel Prot w0 ρ H' w':=by
 unfold aMF at h
 split at h <;> first | (simp at h; done) | skip
 rename_i r l heq
 simp only[List.cons.injEq]at heq
 obtain⟨rfl,rfl⟩:=heq
 split at h <;> first | (simp at h; done) | skip
 rename_i es c hH
 obtain⟨L,ES,hL,rfl,hb,hE⟩:=map_at R hx hH
 split at h <;> first | (simp at h; done) | skip
 rename_i v es' c' hv
 simp only[sJ,pJ]at h
 obtain⟨rfl,rfl⟩:=h
 simp only[aMf]at hv
 cases hi:isK kc k with
 | false=>rw[hi]at hv; simp at hv
 | true=>
  rw[hi]at hv
  simp only[cond_true]at hv
  split at hv <;> first | (simp at hv; done) | skip
  ·rename_i j e hf
   simp only[sJ,pJ]at hv
   obtain⟨rfl,rfl,rfl⟩:=hv
   obtain⟨r',q1,q2⟩:=findKey_ok (w:=w) hk hy hE hf
   obtain⟨_,E,rfl,q3,q4,⟨he1,he2,he3⟩,q5⟩:=q2
   rw[Nat.sub_zero,Array.getElem?_toList]at q4
   refine⟨rfl,_,?_,map_turn R hL hH (ES':=ES.modify j fun e=>{ e with key:=kv,val:=xv }) (by
    rw[modify_set q4]
    exact hE.set j ⟨hy,hv0,he3⟩)⟩
   simp[Instr.mapUpdate,run_underlying hm,MapKept.run_getObj_map hb,checkKey_ok (w:=w) hk hy hi,q1,q4,q5,stays_ok (w:=w) hy hi,MapKept.run_setObj_map _ hb,Result.andThen]
  ·rename_i hf
   simp only[sJ,pJ]at hv
   obtain⟨rfl,rfl,rfl⟩:=hv
   obtain⟨r',q1,q2⟩:=findKey_ok (w:=w) hk hy hE hf
   simp only[Found]at q2
   subst q2
   refine⟨rfl,_,?_,map_turn R hL hH (ES':=ES.push { key:=kv,val:=xv,born:=c }) (by
    rw[Array.toList_push]
    refine hE.append ?_
    simp only[EntriesRel]
    exact⟨_,_,rfl,⟨hy,hv0,rfl⟩,rfl⟩)⟩
   simp[Instr.mapUpdate,run_underlying hm,MapKept.run_getObj_map hb,checkKey_ok (w:=w) hk hy hi,q1,MapKept.run_setObj_map _ hb,Result.andThen]
def eqAOf(P:Program)(t:TypeId):Option (List (Nat×FK)):=match P.underlying t with
 | some (.array n e)=>match P.underlying e,tyOf P e with
  | some (.int _),some (false,1)=>bif P.eqGuardType P.depth t then none else some ((List.range' 0 n).map fun i=>(i,FK.int))
  | _,_=>none
 | _=>none
def shF(o:Nat)(ks:List (Nat×FK)):List (Nat×FK):=ks.map fun p=>(o+p.1,p.2)
def eqDF(P:Program)(rec:TypeId→Option (List (Nat×FK))):List Field→Option (List (Nat×FK))
 | []=>some []
 | f::r => bif f.name == "_" then none else match eqDF P rec r with
  | none=>none
  | some l=>match fkOf P f.type with
   | some k=>match tyOf P f.type with
    | some (false,_)=>some ((f.offset,k)::l)
    | _=>none
   | none=>match rec f.type,tyOf P f.type with
    | some ks,some (true,n)=>bif ks.all (fun p=>Nat.blt p.1 n) then some (shF f.offset ks++l) else none
    | _,_=>none
def eqDT(P:Program):Nat→TypeId→Option (List (Nat×FK))
 | 0,_=>none
 | d+1,t=>match P.underlying t with
  | some (.struct fs)=>bif P.stoodInHeld t then none else eqDF P (eqDT P d) fs.toList
  | _=>none
def eqNOf(P:Program)(t:TypeId):Option (List (Nat×FK)):=bif P.eqGuardType P.depth t then none else eqDT P 8 t
theorem aEqFs_app(l m:List AVal):∀(a b:List (Nat×FK)),aEqFs (a++b) l m=match aEqFs a l m with
  | some true=>aEqFs b l m
  | some false=>some false
  | none=>none
 | [],b=>rfl
 | (o,k)::a,b=>by
  simp only[List.cons_append,aEqFs]
  cases l[o]? with
  | none=>rfl
  | some x=>
   cases m[o]? with
   | none=>rfl
   | some y=>
    simp only
    cases fEq k x y with
    | none=>rfl
    | some q=>cases q with
     | true=>exact aEqFs_app l m a b
     | false=>rfl
theorem aEqFs_sh{n o:Nat}(l m:List AVal):∀(ks:List (Nat×FK)),ks.all (fun p=>Nat.blt p.1 n)=true→aEqFs (shF o ks) l m=aEqFs ks ((l.drop o).take n) ((m.drop o).take n)
 | [],_=>rfl
 | (i,k)::r,h=>by
  rw[List.all_cons,Bool.and_eq_true]at h
  have hi:i<n:=by have:=h.1; simpa[Nat.blt_eq] using this
  have ih:=aEqFs_sh (n:=n) (o:=o) l m r h.2
  show aEqFs ((o+i,k)::shF o r) l m=_
  simp only[aEqFs,List.getElem?_take_of_lt hi,List.getElem?_drop,ih]
theorem eqDF_ok{rec:TypeId→Option (List (Nat×FK))}{d:Nat}
  (hr:∀{t:TypeId} {ks:List (Nat×FK)},rec t=some ks→∀{l m:List AVal} {xs ys:Array Value},VRels ρ l xs.toList→VRels ρ m ys.toList→∀{b:Bool},aEqFs ks l m=some b→(Op.equalIn (d+1) t (.agg xs) (.agg ys)).run P w=.ok b w) :
  ∀{fs:List Field} {ks:List (Nat×FK)},eqDF P rec fs=some ks→∀{l m:List AVal} {xs ys:Array Value},VRels ρ l xs.toList→VRels ρ m ys.toList→∀{b:Bool},aEqFs ks l m=some b→(Op.eqFields (d+1) xs ys fs).run P w=.ok b w
 | [],ks,hk,l,m,xs,ys,hx,hy,b,h=>by
  simp only[eqDF,sJ]at hk
  subst hk
  simp only[aEqFs,sJ]at h
  subst h
  rfl
 | f::fs,ks,hk,l,m,xs,ys,hx,hy,b,h=>by
  simp only[eqDF]at hk
  cases hn : (f.name == "_") with
  | true=>rw[hn]at hk; simp at hk
  | false=>
   rw[hn]at hk
   simp only[cond_false]at hk
   have hne : f.name ≠ "_" := by simpa using hn
   split at hk <;> first | (simp at hk; done) | skip
   rename_i ks' h3
   split at hk
   ·rename_i k h1
    split at hk <;> first | (simp at hk; done) | skip
    rename_i n h2
    simp only[sJ]at hk
    subst hk
    simp only[aEqFs]at h
    split at h
    ·rename_i x y gx gy
     have p1:aPart false n f.offset l=some x:=by simpa[aPart] using gx
     have p2:aPart false n f.offset m=some y:=by simpa[aPart] using gy
     obtain⟨u,u1,u2⟩:=part_ok (P:=P) (w:=w) (ty_of h2) hx p1
     obtain⟨v,v1,v2⟩:=part_ok (P:=P) (w:=w) (ty_of h2) hy p2
     simp only[Op.eqFields,hne,ne_eq,not_false_eq_true,if_true,Sem.run_bind,u1,v1,Result.andThen_ok]
     split at h
     ·rename_i hb
      rw[fEq_ok h1 u2 v2 hb d]
      simp only[Result.andThen_ok,Bool.not_true,Bool.false_eq_true,if_false]
      exact eqDF_ok hr h3 hx hy h
     ·rename_i hb
      simp only[sJ]at h
      subst h
      rw[fEq_ok h1 u2 v2 hb d]
      simp
     ·simp at h
    ·simp at h
   ·split at hk <;> first | (simp at hk; done) | skip
    rename_i kk n h1 h2
    cases ha:kk.all (fun p=>Nat.blt p.1 n) with
    | false=>rw[ha]at hk; simp at hk
    | true=>
     rw[ha]at hk
     simp only[cond_true,sJ]at hk
     subst hk
     rw[aEqFs_app,aEqFs_sh l m kk ha]at h
     obtain⟨u,u1,u2⟩:=part_ok (P:=P) (w:=w) (ty_of h2) hx (off:=f.offset) (y:=.agg ((l.drop f.offset).take n)) rfl
     obtain⟨v,v1,v2⟩:=part_ok (P:=P) (w:=w) (ty_of h2) hy (off:=f.offset) (y:=.agg ((m.drop f.offset).take n)) rfl
     simp only[VRel]at u2 v2
     obtain⟨us,rfl,u2⟩:=u2
     obtain⟨vs,rfl,v2⟩:=v2
     simp only[Op.eqFields,hne,ne_eq,not_false_eq_true,if_true,Sem.run_bind,u1,v1,Result.andThen_ok]
     split at h
     ·rename_i hb
      rw[hr h1 u2 v2 hb]
      simp only[Result.andThen_ok,Bool.not_true,Bool.false_eq_true,if_false]
      exact eqDF_ok hr h3 hx hy h
     ·rename_i hb
      simp only[sJ]at h
      subst h
      rw[hr h1 u2 v2 hb]
      simp
     ·simp at h
theorem eqDT_ok:∀(e d:Nat) {t:TypeId} {ks:List (Nat×FK)},eqDT P e t=some ks→∀{l m:List AVal} {xs ys:Array Value},VRels ρ l xs.toList→VRels ρ m ys.toList→∀{b:Bool},aEqFs ks l m=some b→(Op.equalIn (d+e+1) t (.agg xs) (.agg ys)).run P w=.ok b w
 | 0,d,t,ks,hk,l,m,xs,ys,hx,hy,b,h=>by simp[eqDT]at hk
 | e+1,d,t,ks,hk,l,m,xs,ys,hx,hy,b,h=>by
  simp only[eqDT]at hk
  split at hk <;> first | (simp at hk; done) | skip
  rename_i fs hu
  cases hs:P.stoodInHeld t with
  | true=>rw[hs]at hk; simp at hk
  | false=>
   rw[hs]at hk
   simp only[cond_false]at hk
   have hfo:P.fieldsOf t=fs:=by simp[Program.fieldsOf,hu]
   have:=run_equalIn_struct (P:=P) w (d+e+1) t xs ys (by rw[hfo]; exact hu) hs
   rw[hfo]at this
   rw[show d+(e+1)+1=d+e+1+1 by omega,this]
   exact eqDF_ok (rec:=eqDT P e) (d:=d+e) (fun h1 _ _ _ _ hx hy _ h=>eqDT_ok e d h1 hx hy h) hk hx hy h
def eqSXOf(P:Program)(t:TypeId):Option (List (Nat×FK)):=match eqSOf P t with
 | some x=>some x
 | none=>match eqAOf P t with
  | some x=>some x
  | none=>eqNOf P t
theorem eqItems2{e:TypeId}{kk:IntKind}(he:P.underlying e=some (.int kk))(T:Ty P e false 1){L M:List AVal}{xs ys:Array Value}(hL:VRels ρ L xs.toList)(hM:VRels ρ M ys.toList)(d:Nat) :
  ∀(k o:Nat) (b:Bool),aEqFs ((List.range' o k).map fun i=>(i,FK.int)) L M=some b→(Op.eqItems (d+1) e 1 xs ys (List.range' o k)).run P w=.ok b w:=by
 intro k
 induction k with
 | zero=>
  intro o b h
  simp only[List.range'_zero,List.map_nil,aEqFs,sJ]at h
  subst h
  simp[Op.eqItems]
 | succ k ih=>
  intro o b h
  rw[List.range'_succ,List.map_cons]at h
  simp only[aEqFs]at h
  split at h
  ·rename_i x y gx gy
   obtain⟨u,u1,u2⟩:=part_ok (P:=P) (w:=w) T hL (off:=o) (y:=x) (by simpa[aPart] using gx)
   obtain⟨v,v1,v2⟩:=part_ok (P:=P) (w:=w) T hM (off:=o) (y:=y) (by simpa[aPart] using gy)
   have hk:fkOf P e=some .int:=by simp[fkOf,he]
   rw[List.range'_succ]
   simp only[Op.eqItems,Nat.mul_one,Sem.run_bind,u1,v1,Result.andThen_ok]
   split at h
   ·rename_i hb
    rw[fEq_ok hk u2 v2 hb d]
    simp only[Result.andThen_ok,Bool.not_true,Bool.false_eq_true,if_false]
    exact ih (o+1) b h
   ·rename_i hb
    simp only[sJ]at h
    subst h
    rw[fEq_ok hk u2 v2 hb d]
    simp
   ·simp at h
  ·simp at h
theorem eqSX_ok{op:BinOp}(ho:op=.eql∨op=.neq){t:TypeId}{x y:Operand}{ks:List (Nat×FK)}(hk:eqSXOf P t=some ks){l m:List AVal}{u v:Value}(hp:VRel ρ (.agg l) u)(hq:VRel ρ (.agg m) v){b:Bool}(h:aEqFs ks l m=some b) :
  (do eqGuard op t x y u v; binOp op t u v:Sem Value).run P w=.ok (.bool (match op with | .eql=>b | _=>!b)) w:=by
 unfold eqSXOf at hk
 split at hk
 ·rename_i z hz
  simp only[sJ]at hk
  subst hk
  exact eqS_ok ho hz hp hq h
 split at hk
 ·rename_i hA
  simp only[sJ]at hk
  subst hk
  have hk:=hA
  unfold eqAOf at hk
  split at hk
  ·rename_i n e hu
   split at hk
   ·rename_i kk he hT
    cases hg:P.eqGuardType P.depth t with
    | true=>rw[hg]at hk; simp at hk
    | false=>
     rw[hg]at hk
     simp only[cond_false,sJ]at hk
     subst hk
     simp only[VRel]at hp hq
     obtain⟨xs,rfl,hx⟩:=hp
     obtain⟨ys,rfl,hy⟩:=hq
     obtain⟨hc1,i0,hi0⟩:=cells_of hT
     have heq:(Op.equalIn 10000 t (.agg xs) (.agg ys)).run P w=.ok b w:=by
      show (Op.equalIn (9998+1+1) t (.agg xs) (.agg ys)).run P w=_
      rw[run_equalIn_array w (9998+1) xs ys hu hi0,hc1,List.range_eq_range']
      exact eqItems2 he (ty_of hT) hx hy 9998 n 0 b h
     rcases ho with rfl | rfl
     ·simp only[Sem.run_bind,run_eqGuard_agg w _ t x y xs ys hg,Result.andThen_ok,run_eql_struct,heq]
     ·simp only[Sem.run_bind,run_eqGuard_agg w _ t x y xs ys hg,Result.andThen_ok,run_neq_struct,heq]
   ·simp at hk
  ·simp at hk
 ·unfold eqNOf at hk
  cases hg:P.eqGuardType P.depth t with
  | true=>rw[hg]at hk; simp at hk
  | false=>
   rw[hg]at hk
   simp only[cond_false]at hk
   simp only[VRel]at hp hq
   obtain⟨xs,rfl,hx⟩:=hp
   obtain⟨ys,rfl,hy⟩:=hq
   have heq:(Op.equalIn 10000 t (.agg xs) (.agg ys)).run P w=.ok b w:=eqDT_ok 8 9991 hk hx hy h
   rcases ho with rfl | rfl
   ·simp only[Sem.run_bind,run_eqGuard_agg w _ t x y xs ys hg,Result.andThen_ok,run_eql_struct,heq]
   ·simp only[Sem.run_bind,run_eqGuard_agg w _ t x y xs ys hg,Result.andThen_ok,run_neq_struct,heq]
theorem clr_ok(R:Rel Prot w0 ρ H w){t e:TypeId}(hu:P.underlying t=some (.slice e)){z:List AVal}(hz:zeroOf P e=some z){ty:TypeId}{x y:AVal}{v:Value}(hx:VRel ρ x v)(h:aClr z H [x]=some (y,H')) :
  GoodV P Prot w0 ρ w (Builtin.clear_ #[t] ty #[v]) y H':=by
 unfold aClr at h
 split at h <;> first | (simp at h; done) | skip
 ·rename_i n r heq
  simp only[List.cons.injEq,and_true]at heq
  subst heq
  simp only[sJ,pJ]at h
  obtain⟨rfl,rfl⟩:=h
  simp only[VRel]at hx
  obtain⟨_,_,rfl⟩:=hx
  refine GoodV.pure R (v:=.tuple #[]) ?_ (by simp[VRel,VRels])
  simp[Builtin.clear_,run_underlying hu]
 ·rename_i a n r heq
  simp only[List.cons.injEq,and_true]at heq
  subst heq
  obtain⟨L,off,c,hL,hsh,rfl,hlen,hoff⟩:=slice_off hx
  cases hn:Nat.beq n 0 with
  | true=>
   rw[hn]at h
   simp only[cond_true,sJ,pJ]at h
   obtain⟨rfl,rfl⟩:=h
   have:=Nat.eq_of_beq_eq_true hn
   subst this
   refine GoodV.pure R (v:=.tuple #[]) ?_ (by simp[VRel,VRels])
   simp[Builtin.clear_,run_underlying hu]
  | false=>
   rw[hn]at h
   simp only[cond_false]at h
   split at h
   ·rename_i H2 hw
    simp only[sJ,pJ]at h
    obtain⟨rfl,rfl⟩:=h
    have hn0:n≠0:=fun e=>by rw[e]at hn; simp at hn
    rw[hoff om]
    obtain⟨zv,hzr,hzl⟩:=zero_of hz
    have hl:=VRels.len (hzl ρ)
    simp only[Array.length_toList]at hl
    have hm:=made_rel (hzl ρ) n
    obtain⟨w',h1,h2⟩:=wr_run (P:=P) R hw hL hsh hm
    refine⟨ρ,w',.tuple #[],Pl.le_refl _,?_,h2,by simp[VRel,VRels]⟩
    have hzc:Builtin.zeroCells zv.cells n=madeOf zv.cells (n*z.length):=by
     rw[hl]; rfl
    simp only[Builtin.clear_,List.getElem?_toArray,List.getElem?_cons_zero,Sem.run_bind,run_underlying hu,Result.andThen_ok,hzr,hzc]
    rw[h1]
    rfl
   ·simp at h
end
end Go.Abs
namespace Go.Abs
section
variable {P:Program} {Prot:Gh} {w0:World} {ρ:Pl} {H H':AHeap} {w:World}
end
end Go.Abs
