/- Part of a proof (A7 A8 A8b A8c A8d A8e); no condition. -/
import Derived.Laws.BytesString
import Derived.Lib.ConvBytes
import Derived.Lib.Bytealg
import Derived.Laws.Externs
import Derived.Laws.Small
import Derived.Laws.StructEq
import Derived.Lib.OthersKept
import Derived.Test.YteabnpheoiakdaaGreatDoorP1
set_option linter.unusedSimpArgs false
set_option linter.unusedVariables false
set_option linter.unnecessarySimpa false
namespace Go.Abs
section
variable {P:Program} {Prot:Gh} {w0:World} {ρ:Pl} {H H':AHeap} {w:World}
def splice(l:List AVal)(off:Nat)(xs:List AVal):List AVal:=l.take off++(xs++l.drop (off+xs.length))
def aFill:List AVal→List (Nat×Nat×AVal)→Option (List AVal)
 | cells,[]=>some cells
 | cells,(off,size,v)::r=>bif Nat.beq v.cells.length size&&Nat.ble (off+size) cells.length then aFill (splice cells off v.cells) r else none
theorem foldl_set(off:Nat):∀(l:List Value) (k:Nat) (C:Array Value),off+k+l.length≤C.size →
  ((l.zipIdx k).foldl (fun (cs:Array Value) (p:Value×Nat)=>cs.setIfInBounds (off+p.2) p.1) C).size=C.size ∧
  ∀j,((l.zipIdx k).foldl (fun (cs:Array Value) (p:Value×Nat)=>cs.setIfInBounds (off+p.2) p.1) C)[j]?=if off+k≤j∧j<off+k+l.length then l[j-(off+k)]? else C[j]?:=by
 intro l
 induction l with
 | nil=>intro k C _; refine⟨rfl,fun j=>?_⟩; rw[if_neg (by simp only[List.length_nil]; omega)]; rfl
 | cons v l ih=>
  intro k C hb
  simp only[List.length_cons]at hb
  simp only[List.zipIdx_cons,List.foldl_cons]
  obtain⟨h1,h2⟩:=ih (k+1) (C.setIfInBounds (off+k) v) (by rw[Array.size_setIfInBounds]; omega)
  refine⟨by rw[h1,Array.size_setIfInBounds],fun j=>?_⟩
  rw[h2 j]
  simp only[List.length_cons]
  by_cases c1:off+(k+1)≤j∧j<off+(k+1)+l.length
  ·rw[if_pos c1,if_pos om,show j-(off+k)=(j-(off+(k+1)))+1 by omega]
   simp
  ·rw[if_neg c1]
   by_cases c2:j=off+k
   ·subst c2
    rw[if_pos om]
    have:off+k<C.size:=om
    simp[this]
   ·rw[if_neg om,Array.getElem?_setIfInBounds_ne om]
theorem splice_rel{l xs:List AVal}{C:Array Value}{vs:Array Value}{off:Nat}(hl:VRels ρ l C.toList)(hv:VRels ρ xs vs.toList)(hb:off+xs.length≤l.length) :
  VRels ρ (splice l off xs) (vs.zipIdx.foldl (fun (cs:Array Value) (p:Value×Nat)=>cs.setIfInBounds (off+p.2) p.1) C).toList:=by
 have e1:=VRels.len hl
 have e2:=VRels.len hv
 simp only[Array.length_toList]at e1 e2
 have hf:vs.zipIdx.foldl (fun (cs:Array Value) (p:Value×Nat)=>cs.setIfInBounds (off+p.2) p.1) C=(vs.toList.zipIdx 0).foldl (fun (cs:Array Value) (p:Value×Nat)=>cs.setIfInBounds (off+p.2) p.1) C:=by
  rw[← Array.foldl_toList,Array.toList_zipIdx]
 rw[hf]
 obtain⟨h1,h2⟩:=foldl_set off vs.toList 0 C (by simp; omega)
 refine VRels.of_nth _ _ (by simp only[Array.length_toList,h1,splice,lA,List.length_take,List.length_drop]; omega) fun i x hx=>?_
 rw[Array.getElem?_toList,h2 i]
 simp only[Array.length_toList]
 unfold splice at hx
 by_cases c1:off+0≤i∧i<off+0+vs.size
 ·rw[if_pos c1]
  rw[List.getElem?_append_right (by simp; omega),List.getElem?_append_left (by simp; omega)]at hx
  have:i-(l.take off).length=i-(off+0):=by simp; omega
  rw[this]at hx
  exact hv.nth _ _ hx
 ·rw[if_neg c1,← Array.getElem?_toList]
  refine hl.nth _ _ ?_
  rw[← hx]
  by_cases c2:i<off
  ·rw[List.getElem?_append_left (by simp; omega),List.getElem?_take,if_pos c2]
  ·rw[List.getElem?_append_right (by simp; omega),List.getElem?_append_right (by simp; omega),List.getElem?_drop]
   congr 1
   simp
   omega
def PartsRel(ρ:Pl)(place:Nat→Option (Nat×Nat)):List (Nat×Nat×AVal)→List (Nat×Value)→Prop
 | [],ps=>ps=[]
 | (off,size,x)::l,ps=>∃i v r,ps=(i,v)::r∧place i=some (off,size)∧VRel ρ x v∧PartsRel ρ place l r
theorem fill_ok{place:Nat→Option (Nat×Nat)}:∀{ps:List (Nat×Nat×AVal)} {qs:List (Nat×Value)} {cells out:List AVal} {C:Array Value},PartsRel ρ place ps qs→VRels ρ cells C.toList →
  aFill cells ps=some out→∃C',Instr.fill place C qs=some C'∧VRels ρ out C'.toList:=by
 intro ps
 induction ps with
 | nil=>
  intro qs cells out C hp hc h
  simp only[PartsRel]at hp
  subst hp
  simp only[aFill,sJ]at h
  subst h
  exact⟨C,rfl,hc⟩
 | cons p ps ih=>
  intro qs cells out C hp hc h
  obtain⟨off,size,x⟩:=p
  simp only[PartsRel]at hp
  obtain⟨i,v,r,rfl,hpl,hx,hr⟩:=hp
  simp only[aFill]at h
  cases hg:(Nat.beq x.cells.length size&&Nat.ble (off+size) cells.length) with
  | false=>rw[hg]at h; simp at h
  | true=>
   rw[hg]at h
   simp only[Bool.and_eq_true,Nat.ble_eq]at hg
   obtain⟨g1,g2⟩:=hg
   have g1:=Nat.eq_of_beq_eq_true g1
   simp only[cond_true]at h
   have hxc:=hx.cells
   have e1:=VRels.len hxc
   have e2:=VRels.len hc
   simp only[Array.length_toList]at e1 e2
   obtain⟨C',q1,q2⟩:=ih hr (splice_rel hc hxc om) h
   refine⟨C',?_,q2⟩
   simp only[Instr.fill,hpl]
   rw[if_neg (by simp; omega)]
   exact q1
def absV:Value→Option AVal
 | .bool b=>some (.bool b)
 | .int k n=>some (.int k n)
 | .string s=>some (.str s.data.toList)
 | .pointer none=>some (.ptr none)
 | .slice none 0 0=>some (.slice none 0 (.known 0))
 | .map none=>some (.map none)
 | .nilFunc=>some .nilFunc
 | .nilIface=>some .nilIface
 | _=>none
def absVs:List Value→Option (List AVal)
 | []=>some []
 | v::r=>match absV v,absVs r with
  | some x,some l=>some (x::l)
  | _,_=>none
def absC:Value→Option AVal
 | .agg cs=>match absVs cs.toList with
  | some l=>some (.agg l)
  | none=>none
 | .tuple cs=>match absVs cs.toList with
  | some l=>some (.tuple l)
  | none=>none
 | v=>absV v
theorem absV_ok{v:Value}{x:AVal}(h:absV v=some x):VRel ρ x v:=by
 unfold absV at h
 split at h <;> simp only[sJ,reduceCtorEq]at h <;> subst h <;> first
  | rfl
  | (simp[VRel]; done)
theorem absVs_ok:∀{vs:List Value} {l:List AVal},absVs vs=some l→VRels ρ l vs:=by
 intro vs
 induction vs with
 | nil=>intro l h; simp only[absVs,sJ]at h; subst h; simp[VRels]
 | cons v r ih=>
  intro l h
  simp only[absVs]at h
  split at h
  ·rename_i x l' h1 h2
   simp only[sJ]at h
   subst h
   simp only[VRels]
   exact⟨v,r,rfl,absV_ok h1,ih h2⟩
  ·simp at h
theorem absC_ok{v:Value}{x:AVal}(h:absC v=some x):VRel ρ x v:=by
 unfold absC at h
 split at h
 ·split at h
  ·rename_i l hl
   simp only[sJ]at h
   subst h
   simp only[VRel]
   exact⟨_,rfl,absVs_ok hl⟩
  ·simp at h
 ·split at h
  ·rename_i l hl
   simp only[sJ]at h
   subst h
   simp only[VRel]
   exact⟨_,rfl,absVs_ok hl⟩
  ·simp at h
 ·exact absV_ok h
def zeroOf(P:Program)(t:TypeId):Option (List AVal):=
 match P.info? t with
 | some i=>match i.zero with
  | some z=>absVs z.cells.toList
  | none=>none
 | none=>none
theorem zero_of{t:TypeId}{l:List AVal}(h:zeroOf P t=some l):∃z,(∀W,(zeroValue t).run P W=.ok z W)∧∀ρ,VRels ρ l z.cells.toList:=by
 unfold zeroOf at h
 split at h
 ·rename_i i hi
  split at h
  ·rename_i z hz
   exact⟨z,fun W=>by simp[zeroValue,run_typeInfo W hi,hz],fun ρ=>absVs_ok h⟩
  ·simp at h
 ·simp at h
theorem alloc_ok(R:Rel Prot w0 ρ H w){t:TypeId}{l:List AVal}(h:zeroOf P t=some l):GoodV P Prot w0 ρ w (Instr.alloc t true (.tuple #[])) (oNew H l).1 (oNew H l).2:=by
 obtain⟨z,h1,h2⟩:=zero_of h
 obtain⟨ρ',w',q1,q2,q3,q4⟩:=newRow_ok (P:=P) R t (h2 ρ)
 refine⟨ρ',w',.pointer (some ⟨w.heap.size,0,none⟩),q1,?_,q3,?_⟩
 ·simp only[Instr.alloc,Sem.run_bind,h1,Result.andThen_ok,newVar,q2]; rfl
 ·simp only[oNew,VRel]; exact⟨_,q4,Nat.zero_le _,rfl⟩
def rep(z:List AVal):Nat→List AVal
 | 0=>[]
 | n+1=>z++rep z n
theorem rep_len(z:List AVal):∀n,(rep z n).length=n*z.length
 | 0=>by simp[rep]
 | n+1=>by simp only[rep,lA,rep_len z n,Nat.add_mul]; omega
theorem rep_get(z:List AVal):∀(n i:Nat),i<n*z.length→(rep z n)[i]?=z[i % z.length]?
 | 0,i,h=>om
 | n+1,i,h=>by
  simp only[rep]
  by_cases hi:i<z.length
  ·rw[List.getElem?_append_left hi,Nat.mod_eq_of_lt hi]
  ·have hle:z.length≤i:=om
   rw[List.getElem?_append_right hle,rep_get z n _ (by rw[Nat.add_mul]at h; omega),Nat.mod_eq_sub_mod hle]
def madeOf(z:Array Value)(n:Nat):Array Value:=(Array.range n).map (z[· % z.size]!)
theorem made_rel{z:List AVal}{Z:Array Value}(h:VRels ρ z Z.toList)(c:Nat):VRels ρ (rep z c) (madeOf Z (c*z.length)).toList:=by
 have hl:=VRels.len h
 simp only[Array.length_toList]at hl
 refine VRels.of_nth _ _ (by simp[rep_len,madeOf]) fun i x hx=>?_
 have hi:i<c*z.length:=by
  have:=(List.getElem?_eq_some_iff.1 hx).1
  rwa [rep_len]at this
 rw[rep_get _ _ _ hi]at hx
 obtain⟨v,h1,h2⟩:=h.nth _ _ hx
 refine⟨v,?_,h2⟩
 rw[Array.getElem?_toList]at h1
 have hz:0<Z.size:=by
  rcases Nat.eq_zero_or_pos z.length with e | e
  ·rw[e]at hi; omega
  ·omega
 have hm:i % Z.size<Z.size:=Nat.mod_lt _ hz
 rw[hl,Array.getElem?_eq_getElem hm]at h1
 simp only[sJ]at h1
 simp only[madeOf,Array.getElem?_toList,Array.getElem?_map]
 rw[Array.getElem?_range,if_pos hi]
 simp only[Option.map_some,sJ]
 rw[getElem!_pos Z _ hm]
 exact h1
def natOf:AVal→Option Nat
 | .int .i64 (Int.ofNat n)=>bif Nat.ble n 9223372036854775807 then some n else none
 | _=>none
theorem natOf_ok{x:AVal}{n:Nat}(h:natOf x=some n):x=.int .i64 (n:Int)∧n≤9223372036854775807:=by
 unfold natOf at h
 split at h
 ·rename_i m
  cases hb:Nat.ble m 9223372036854775807 with
  | false=>rw[hb]at h; simp at h
  | true=>
   rw[hb]at h
   simp only[cond_true,sJ]at h
   subst h
   exact⟨rfl,Nat.le_of_ble_eq_true hb⟩
 ·simp at h
theorem wrap_nat{n:Nat}(h:n≤9223372036854775807):IntKind.i64.wrap (n:Int)=n:=by
 simp[IntKind.wrap,IntKind.signed,IntKind.bits]; omega
def aMake(bytes:Nat)(z:List AVal)(H:AHeap)(l c:AVal):Option (AVal×AHeap):=
 match natOf l,natOf c with
 | some l,some c=>
  bif Nat.ble l c&&Nat.ble (bytes*c) 281474976710656 then some (.slice (some ⟨H.next,(rep z c).length,0⟩) l (.known c),H.push (.cells (rep z c) 0 false)) else none
 | _,_=>none
theorem make_ok(R:Rel Prot w0 ρ H w){sT elem:TypeId}{size bytes:Nat}{z:List AVal}(hu:P.underlying sT=some (.slice elem))(E:Elem P elem size bytes)(hz:zeroOf P elem=some z)
  {l c y:AVal} {lv cv:Value} (hl:VRel ρ l lv) (hc:VRel ρ c cv) (h:aMake bytes z H l c=some (y,H')):GoodV P Prot w0 ρ w (Instr.makeSlice sT lv cv) y H':=by
 unfold aMake at h
 split at h
 ·rename_i ln cn hln hcn
  obtain⟨rfl,b1⟩:=natOf_ok hln
  obtain⟨rfl,b2⟩:=natOf_ok hcn
  cases hg:(Nat.ble ln cn&&Nat.ble (bytes*cn) 281474976710656) with
  | false=>rw[hg]at h; simp at h
  | true=>
   rw[hg]at h
   simp only[Bool.and_eq_true,Nat.ble_eq]at hg
   simp only[cond_true,sJ,pJ]at h
   obtain⟨rfl,rfl⟩:=h
   simp only[VRel]at hl hc
   subst hl hc
   obtain⟨i,zv,hi,rfl,rfl,hzero,hzs⟩:=E.ex
   obtain⟨zv',hzr,hzl⟩:=zero_of hz
   have hzv:zv'=zv:=by
    have:=hzr w
    simp[zeroValue,run_typeInfo w hi,hzero]at this
    exact this.symm
   subst hzv
   have hlen:=VRels.len (hzl ρ)
   simp only[Array.length_toList,hzs]at hlen
   obtain⟨ρ',w',q1,q2,q3,q4⟩:=newRow_ok (P:=P) R elem (made_rel (hzl ρ) cn)
   have hnb:¬((281474976710656:Int)<(i.bytes:Int)*(cn:Int)):=by
    have:(i.bytes*cn:Nat)≤281474976710656:=hg.2
    rw[← Int.natCast_mul]; omega
   have hcells:madeOf zv'.cells (cn*i.size)=madeOf zv'.cells (cn*z.length):=by rw[hlen]
   refine⟨ρ',w',.slice (some ⟨w.heap.size,0,none⟩) ln cn,q1,?_,q3,?_⟩
   ·have hsz:∀W,(sizeOf elem).run P W=.ok i.size W:=fun W=>by simp[sizeOf,run_typeInfo W hi]
    have e1:¬((cn:Int)<0):=om
    have e2:¬((ln:Int)<0):=om
    have e3:¬((cn:Int)<(ln:Int)):=om
    by_cases hn:cn*i.size=0
    ·have hm:madeOf zv'.cells (cn*z.length)=#[]:=by rw[← hcells,hn]; simp[madeOf]
     rw[hm]at q2
     simp only[Instr.makeSlice,Sem.run_bind,run_underlying hu,Result.andThen_ok,asInt,asIntOf,Sem.run_pure,run_typeInfo _ hi,wrap_nat b1,wrap_nat b2]
     simp[e1,e2,e3,hnb,hsz,hn,show Array.range 0=#[] by simp,q2]
    ·simp only[Instr.makeSlice,Sem.run_bind,run_underlying hu,Result.andThen_ok,asInt,asIntOf,Sem.run_pure,run_typeInfo _ hi,wrap_nat b1,wrap_nat b2]
     rw[← hcells]at q2
     unfold madeOf at q2
     simp[e1,e2,e3,hnb,hsz,hn,hzr,q2]
   ·simp only[VRel]
    exact⟨_,q4,Nat.zero_le _,hg.1,rfl⟩
 ·simp at h
def aBuildSl(len:Nat)(z:List AVal)(H:AHeap)(parts:List (Nat×Nat×AVal)):Option (AVal×AHeap):=
 match aFill (rep z len) parts with
 | some xs=>some (.slice (some ⟨H.next,xs.length,0⟩) len (.known len),H.push (.cells xs 0 false))
 | none=>none
theorem buildSl_ok(R:Rel Prot w0 ρ H w){sT elem:TypeId}{size:Nat}{agg:Bool}{z:List AVal}(hu:P.underlying sT=some (.slice elem))(T:Ty P elem agg size)(hz:zeroOf P elem=some z)
  (hzl:z.length=size) {len:Nat} (hsm:len*size≤16777216) {ps:List (Nat×Nat×AVal)} {qs:Array (Nat×Value)} (hp:PartsRel ρ (fun i=>some (i*size,size)) ps qs.toList) {y:AVal}
  (h:aBuildSl len z H ps=some (y,H')):GoodV P Prot w0 ρ w (Instr.buildSlice sT len qs) y H':=by
 unfold aBuildSl at h
 split at h
 ·rename_i xs hxs
  simp only[sJ,pJ]at h
  obtain⟨rfl,rfl⟩:=h
  obtain⟨zv,hzr,hzl'⟩:=zero_of hz
  have hlen:=VRels.len (hzl' ρ)
  simp only[Array.length_toList]at hlen
  obtain⟨C,f1,f2⟩:=fill_ok hp (made_rel (hzl' ρ) len) hxs
  rw[hzl]at f1
  obtain⟨ρ',w',q1,q2,q3,q4⟩:=newRow_ok (P:=P) R elem f2
  have hsm':¬16777216<len*size:=om
  refine⟨ρ',w',.slice (some ⟨w.heap.size,0,none⟩) len len,q1,?_,q3,?_⟩
  ·by_cases hn:len*size=0
   ·have hm:madeOf zv.cells (len*size)=#[]:=by rw[hn]; simp[madeOf]
    rw[hm]at f1
    simp only[Instr.buildSlice,Sem.run_bind,run_underlying hu,Result.andThen_ok,T.size]
    simp[hn,show Array.range 0=#[] by simp,f1,q2]
   ·unfold madeOf at f1
    simp only[Instr.buildSlice,Sem.run_bind,run_underlying hu,Result.andThen_ok,T.size]
    simp[hsm',hn,hzr,f1,q2]
  ·simp only[VRel]
   exact⟨_,q4,Nat.zero_le _,Nat.le_refl _,rfl⟩
 ·simp at h
def aBuild(z:List AVal)(parts:List (Nat×Nat×AVal)):Option AVal:=
 match aFill z parts with
 | some xs=>some (.agg xs)
 | none=>none
theorem buildArr_ok{t elem:TypeId}{n size:Nat}{agg:Bool}{z:List AVal}(hu:P.underlying t=some (.array n elem))(T:Ty P elem agg size)(hz:zeroOf P t=some z)
  {ps:List (Nat×Nat×AVal)} {qs:Array (Nat×Value)} (hp:PartsRel ρ (fun i=>some (i*size,size)) ps qs.toList) {y:AVal}
  (h:aBuild z ps=some y):∃u,(Instr.build t qs).run P w=.ok u w∧VRel ρ y u:=by
 unfold aBuild at h
 split at h
 ·rename_i xs hxs
  simp only[sJ]at h
  subst h
  obtain⟨zv,hzr,hzl'⟩:=zero_of hz
  obtain⟨C,f1,f2⟩:=fill_ok hp (hzl' ρ) hxs
  refine⟨.agg C,?_,by simp only[VRel]; exact⟨C,rfl,f2⟩⟩
  simp only[Instr.build,Sem.run_bind,hzr,Result.andThen_ok,run_underlying hu,T.size]
  simp[f1]
 ·simp at h
def placesOf(P:Program):List Field→Option (List (Nat×Nat))
 | []=>some []
 | f::r=>match tyOf P f.type,placesOf P r with
  | some (_,n),some l=>some ((f.offset,n)::l)
  | _,_=>none
theorem places_run:∀{fs:List Field} {l:List (Nat×Nat)},placesOf P fs=some l→∀W,(fs.mapM (fun f=>do pure (f.offset,← sizeOf f.type)):Sem (List (Nat×Nat))).run P W=.ok l W:=by
 intro fs
 induction fs with
 | nil=>intro l h W; simp only[placesOf,sJ]at h; subst h; rfl
 | cons f r ih=>
  intro l h W
  simp only[placesOf]at h
  split at h
  ·rename_i a n l' h1 h2
   simp only[sJ]at h
   subst h
   simp only[List.mapM_cons,Sem.run_bind,(ty_of h1).size,Result.andThen_ok,Sem.run_pure,ih h2]
  ·simp at h
theorem buildStr_ok{t:TypeId}{fields:Array Field}{pl:List (Nat×Nat)}{z:List AVal}(hu:P.underlying t=some (.struct fields))(hpl:placesOf P fields.toList=some pl)(hz:zeroOf P t=some z)
  {ps:List (Nat×Nat×AVal)} {qs:Array (Nat×Value)} (hp:PartsRel ρ (fun i=>pl[i]?) ps qs.toList) {y:AVal}
  (h:aBuild z ps=some y):∃u,(Instr.build t qs).run P w=.ok u w∧VRel ρ y u:=by
 unfold aBuild at h
 split at h
 ·rename_i xs hxs
  simp only[sJ]at h
  subst h
  obtain⟨zv,hzr,hzl'⟩:=zero_of hz
  obtain⟨C,f1,f2⟩:=fill_ok hp (hzl' ρ) hxs
  refine⟨.agg C,?_,by simp only[VRel]; exact⟨C,rfl,f2⟩⟩
  have hm:(fields.mapM (fun f=>do pure (f.offset,← sizeOf f.type)):Sem (Array (Nat×Nat))).run P w=.ok pl.toArray w:=by
   rw[Array.mapM_eq_mapM_toList]
   simp only[Sem.run_map,places_run hpl,Result.andThen_ok]
  simp only[Instr.build,Sem.run_bind,hzr,Result.andThen_ok,run_underlying hu,hm]
  simp only[List.getElem?_toArray]
  simp[f1]
 ·simp at h
def aLen:AVal→Option AVal
 | .str s=>some (.int .i64 s.length)
 | .slice _ n _=>some (.int .i64 n)
 | .val (.slice _ n _)=>some (.int .i64 n)
 | _=>none
theorem len_ok{T:TypeId}{t:TypeId}(_:Tail P T){x y:AVal}{v:Value}(hx:VRel ρ x v)(h:aLen x=some y)(hk:(∃s,x=.str s∧P.underlying T=some .string)∨(∃a n r e,x=.slice a n r∧P.underlying T=some (.slice e))∨(∃a n c e,x=.val (.slice a n c)∧P.underlying T=some (.slice e))) :
  ∃u,(Builtin.len_ #[T] t #[v]).run P w=.ok u w∧VRel ρ y u:=by
 rcases hk with⟨s,rfl,hu⟩ | ⟨a,n,r,e,rfl,hu⟩ | ⟨a,n,c,e,rfl,hu⟩
 ·simp only[aLen,sJ]at h
  subst h
  simp only[VRel]at hx
  subst hx
  have e2:(strOf s).size=s.length:=by simp[strOf,ByteArray.size]
  exact⟨.int .i64 s.length,by simp[Builtin.len_,run_underlying hu,goInt,e2],rfl⟩
 ·simp only[aLen,sJ]at h
  subst h
  have key:∃base c,v=.slice base n c:=by
   cases a with
   | none=>simp only[VRel]at hx; obtain⟨rfl,_,rfl⟩:=hx; exact⟨none,0,rfl⟩
   | some a=>obtain⟨L,off,c,_,_,rfl,h3,_⟩:=slice_off hx; exact⟨_,c,rfl⟩
  obtain⟨base,c,rfl⟩:=key
  exact⟨.int .i64 n,by simp[Builtin.len_,run_underlying hu,goInt],rfl⟩
 ·simp only[aLen,sJ]at h
  subst h
  simp only[VRel]at hx
  obtain⟨rfl,_⟩:=hx
  exact⟨.int .i64 n,by simp[Builtin.len_,run_underlying hu,goInt],rfl⟩
end
end Go.Abs
namespace Go.Abs
section
variable {P:Program} {Prot:Gh} {w0:World} {ρ:Pl} {H H':AHeap} {w:World}
def aConv(k:IntKind):AVal→Option AVal
 | .int _ n=>some (.int k (wrF k n))
 | _=>none
theorem conv_ok{src dst:TypeId}{k:IntKind}{d:TypeDesc}(hs:P.underlying src=some d)(hu:P.underlying dst=some (.int k)){x y:AVal}{v:Value}(hx:VRel ρ x v)(h:aConv k x=some y)(w:World) :
  ∃u,(convert src dst v).run P w=.ok u w∧VRel ρ y u:=by
 unfold aConv at h
 simp only[wrF_eq]at h
 split at h
 ·rename_i k' n
  simp only[sJ]at h
  subst h
  simp only[VRel]at hx
  subst hx
  exact⟨.int k (k.wrap n),by cases d <;> simp[convert,run_underlying hs,run_underlying hu,Conv.intToInt],rfl⟩
 ·simp at h
def aSB(H:AHeap):AVal→Option (AVal×AHeap)
 | .str s=>some (.slice (some ⟨H.next,s.length,0⟩) s.length (.open_ 1),H.push (.cells (s.map fun b=>.int .u8 b.toNat) 0 false true))
 | _=>none
theorem sb_ok(R:Rel Prot w0 ρ H w){src dst e:TypeId}{d:TypeDesc}(hs:P.underlying src=some d)(hd:P.underlying dst=some (.slice e))(he:P.underlying e=some (.int .u8))
  {x y:AVal} {v:Value} (hx:VRel ρ x v) (h:aSB H x=some (y,H')):GoodV P Prot w0 ρ w (convert src dst v) y H':=by
 unfold aSB at h
 split at h
 ·rename_i s
  simp only[sJ,pJ]at h
  obtain⟨rfl,rfl⟩:=h
  simp only[VRel]at hx
  subst hx
  have hrun:=Lib.run_convert_string_bytes (P:=P) w src dst e (strOf s) hs hd he
  have e2:(strOf s).size=s.length:=by simp[strOf,ByteArray.size]
  rw[e2]at hrun
  have hcap:s.length≤grownCap w s.length 0 e:=by simp only[grownCap,Question.cut]; omega
  have hsz:(Lib.bytesCells w e (strOf s)).size=grownCap w s.length 0 e:=by
   have:(strOf s).data.size=s.length:=e2
   simp only[Lib.bytesCells,Array.size_append,Array.size_map,this,e2,Array.size_replicate]
   omega
  have hlen:(s.map fun b=>(AVal.int .u8 b.toNat)).length=s.length:=by simp
  obtain⟨h1,h2⟩:=R.push' (w':=Lib.bytesWorld w e (strOf s)) rfl rfl rfl (Lib.bytesWorld_size _ _ _) (fun i hi=>Lib.bytesWorld_at_old _ _ _ _ hi)
   (x:=.cells (s.map fun b=>.int .u8 b.toNat) 0 false true) (o:=.cells (Lib.bytesCells w e (strOf s)) e ((Lib.bytesCells w e (strOf s)).size,(Lib.bytesCells w e (strOf s)).size+1))
   (lim:=s.length) (n:=grownCap w s.length 0 e) (cl:=false) (Lib.bytesWorld_at_new _ _ _) (by
    simp only[ORel]
    refine⟨_,_,_,_,rfl,hsz,fun _=>⟨fun i hi=>om,by simp,by simp⟩,by simp,fun _ i i1 i2=>?_⟩
    simp only at i1
    have hb:s[i]?=some s[i]:=List.getElem?_eq_getElem i2
    refine⟨.int .u8 (s[i]).toNat,.int .u8 (s[i]).toNat,by simp[hb],?_,rfl⟩
    simp only[Lib.bytesCells]
    rw[Array.getElem?_append_left (by simp[strOf]; omega)]
    simp[strOf,hb]) rfl
  refine⟨_,_,_,h1,hrun,h2,?_⟩
  simp only[VRel]
  refine⟨_,upd_same _ _ _ _,Nat.zero_le _,?_⟩
  exact⟨grownCap w s.length 0 e,0,rfl,hcap,om,.inl ⟨by simp,by simp only; omega,by simp only; omega⟩⟩
 ·simp at h
def bytesOf:List AVal→Option (List UInt8)
 | []=>some []
 | .int .u8 n::r=>match bytesOf r with
  | some l=>some (UInt8.ofNat n.toNat::l)
  | none=>none
 | _::_=>none
theorem bytesOf_ok:∀{xs:List AVal} {vs:List Value} {l:List UInt8},VRels ρ xs vs→bytesOf xs=some l→∃ns:List Int,vs=ns.map (Value.int .u8)∧l=ns.map fun n=>UInt8.ofNat n.toNat:=by
 intro xs
 induction xs with
 | nil=>intro vs l h1 h2; simp only[VRels]at h1; subst h1; simp only[bytesOf,sJ]at h2; subst h2; exact⟨[],rfl,rfl⟩
 | cons x xs ih=>
  intro vs l h1 h2
  simp only[VRels]at h1
  obtain⟨v,r,rfl,hv,hr⟩:=h1
  unfold bytesOf at h2
  split at h2
  ·rename_i heq; simp at heq
  ·rename_i n r' heq
   simp only[List.cons.injEq]at heq
   obtain⟨rfl,rfl⟩:=heq
   split at h2
   ·rename_i l' hl'
    simp only[sJ]at h2
    subst h2
    obtain⟨ns,rfl,rfl⟩:=ih hr hl'
    simp only[VRel]at hv
    subst hv
    exact⟨n::ns,rfl,rfl⟩
   ·simp at h2
  ·simp at h2
theorem foldl_push(ns:List Int):∀s:ByteArray,(ns.foldl (fun r n=>r.push (UInt8.ofNat n.toNat)) s).data.toList=s.data.toList++ns.map fun n=>UInt8.ofNat n.toNat:=by
 induction ns with
 | nil=>intro s; simp
 | cons n ns ih=>intro s; simp only[List.foldl_cons,ih,List.map_cons]; simp[ByteArray.push]
def aBS(H:AHeap):AVal→Option AVal
 | .slice none _ _=>some (.str [])
 | .val (.slice (some _) 0 0)=>some (.str [])
 | .slice (some a) n _=>match rdCells H a n with
  | some xs=>match bytesOf xs with
   | some l=>some (.str l)
   | none=>none
  | none=>none
 | _=>none
theorem bs_ok(R:Rel Prot w0 ρ H w){src dst e:TypeId}(hs:P.underlying src=some (.slice e))(he:P.underlying e=some (.int .u8))(hd:P.underlying dst=some .string)
  {x y:AVal} {v:Value} (hx:VRel ρ x v) (h:aBS H x=some y):∃u,(convert src dst v).run P w=.ok u w∧VRel ρ y u:=by
 unfold aBS at h
 split at h
 ·simp only[sJ]at h
  subst h
  simp only[VRel]at hx
  obtain⟨_,_,rfl⟩:=hx
  refine⟨.string ByteArray.empty,?_,by simp only[VRel]; rfl⟩
  rw[run_convert_bytes_string w src dst e none 0 0 hs he hd]
  rfl
 ·simp only[sJ]at h
  subst h
  simp only[VRel]at hx
  obtain⟨rfl,_⟩:=hx
  refine⟨.string ByteArray.empty,?_,by simp only[VRel]; rfl⟩
  rw[run_convert_bytes_string w src dst e _ 0 0 hs he hd]
  exact run_bytesToString w _ 0 0 [] rfl
 ·rename_i a n r
  split at h
  ·rename_i xs hxs
   split at h
   ·rename_i l hl
    simp only[sJ]at h
    subst h
    obtain⟨L,off,c,h1,h2,rfl,h3,h4⟩:=slice_off hx
    obtain⟨vs,q1,q2,q3⟩:=rd_run (P:=P) R hxs h1 h2
    obtain⟨ns,e1,rfl⟩:=bytesOf_ok q2 hl
    have hvs:vs=(ns.map (Value.int .u8)).toArray:=by rw[← e1]
    refine⟨.string (ns.foldl (fun r n=>r.push (UInt8.ofNat n.toNat)) ByteArray.empty),?_,?_⟩
    ·rw[run_convert_bytes_string w src dst e _ _ _ hs he hd]
     refine run_bytesToString w _ n c ns ?_
     by_cases hn:n=0
     ·subst hn
      have:vs=#[]:=by simpa using q3
      rw[← hvs,this]
      rfl
     ·have:=h4 om
      subst this
      rw[← hvs]
      exact q1
    ·simp only[VRel]
     congr 1
     have:=foldl_push ns ByteArray.empty
     unfold strOf
     cases hx:ns.foldl (fun r n=>r.push (UInt8.ofNat n.toNat)) ByteArray.empty with | mk d=>
     rw[hx]at this
     congr 1
     exact Array.toList_inj.1 (by simpa using this)
   ·simp at h
  ·simp at h
 ·simp at h
def aUn(op:UnOp):AVal→Option AVal
 | .int k n=>match op with
  | .neg=>some (.int k (wrF k (0-n)))
  | .xor=>some (.int k (k.wrap (BitVec.ofInt k.bits (if k.signed then -1 else k.max) ^^^ BitVec.ofInt k.bits n).toNat))
  | _=>none
 | .bool b=>match op with
  | .not=>some (.bool (!b))
  | _=>none
 | _=>none
theorem un_ok{op:UnOp}{x y:AVal}{v:Value}(hx:VRel ρ x v)(h:aUn op x=some y)(w:World):∃u,(Op.unary op v).run P w=.ok u w∧VRel ρ y u:=by
 unfold aUn at h
 simp only[wrF_eq]at h
 split at h
 ·simp only[VRel]at hx
  subst hx
  split at h <;> simp only[sJ,reduceCtorEq]at h
  all_goals
   subst h
   exact⟨_,by simp[Op.unary,Op.intArith,Op.intBits],rfl⟩
 ·simp only[VRel]at hx
  subst hx
  split at h <;> simp only[sJ,reduceCtorEq]at h
  subst h
  exact⟨_,rfl,rfl⟩
 ·simp at h
end
end Go.Abs
namespace Go.Abs
section
variable {P:Program} {ρ:Pl} {w:World}
inductive EqK where
 | bool | ptr | slice | map | func | iface (const:Bool)
def aEqv:EqK→AVal→AVal→Option Bool
 | .bool,.bool a,.bool b=>some (a==b)
 | .ptr,.ptr none,.ptr none=>some true
 | .ptr,.ptr none,.ptr (some _)=>some false
 | .ptr,.ptr (some _),.ptr none=>some false
 | .ptr,.ptr (some a),.ptr (some b)=>bif Nat.beq a.b b.b&&Nat.beq a.lim b.lim then some (Nat.beq a.o b.o) else none
 | .slice,.slice none _ _,.slice none _ _=>some true
 | .slice,.slice none _ _,.slice (some _) _ _=>some false
 | .slice,.slice (some _) _ _,.slice none _ _=>some false
 | .map,.map none,.map none=>some true
 | .map,.map none,.map (some _)=>some false
 | .map,.map (some _),.map none=>some false
 | .func,.nilFunc,.nilFunc=>some true
 | .func,.nilFunc,.func _ _ _=>some false
 | .func,.func _ _ _,.nilFunc=>some false
 | .iface _,.nilIface,.iface _ _=>some false
 | .iface _,.iface _ _,.nilIface=>some false
 | .iface c,.nilIface,.nilIface=>bif c then some true else none
 | _,_,_=>none
def isC:Operand→Bool
 | .const _=>true
 | _=>false
def eqKOf(P:Program)(t:TypeId)(x y:Operand):Option EqK:=
 match P.underlying t with
 | some .bool=>some .bool
 | some (.pointer e)=>match tyOf P e with
  | some (_,n)=>bif Nat.beq n 0 then none else some .ptr
  | none=>none
 | some (.slice _)=>some .slice
 | some (.map _ _)=>some .map
 | some (.func _ _ _)=>some .func
 | some (.interface _)=>some (.iface (isC x||isC y))
 | _=>none
theorem slice_shape{a:Option Ad}{n:Nat}{r:Room}{v:Value}(h:VRel ρ (.slice a n r) v):∃b m c,v=.slice b m c∧b.isNone=a.isNone:=by
 cases a with
 | none=>simp only[VRel]at h; exact⟨none,0,0,h.2.2,rfl⟩
 | some a=>obtain⟨_,_,_,_,_,h3,_⟩:=slice_off h; exact⟨_,_,_,h3,rfl⟩
theorem equalIn_ok{t:TypeId}{x y:Operand}{k:EqK}(hk:eqKOf P t x y=some k){p q:AVal}{u v:Value}(hp:VRel ρ p u)(hq:VRel ρ q v){b:Bool}(h:aEqv k p q=some b)(d:Nat):(Op.equalIn (d+1) t u v).run P w=.ok b w:=by
 unfold eqKOf at hk
 split at hk
 ·rename_i hu
  simp only[sJ]at hk; subst hk
  cases p <;> cases q <;> simp only[aEqv,sJ,reduceCtorEq]at h
  simp only[VRel]at hp hq
  subst hp hq h
  simp[Op.equalIn,run_underlying hu]
 ·rename_i e hu
  split at hk
  ·rename_i g n hn
   cases hb:Nat.beq n 0 with
   | true=>rw[hb]at hk; simp at hk
   | false=>
    rw[hb]at hk
    simp only[cond_false,sJ]at hk; subst hk
    have hn0:n≠0:=fun e=>by rw[e]at hb; simp at hb
    have hs:=(ty_of hn).size
    cases p <;> cases q <;> simp only[aEqv,sJ,reduceCtorEq]at h
    rename_i a c
    cases a with
    | none=>
     simp only[VRel]at hp
     subst hp
     cases c with
     | none=>simp only[VRel]at hq; subst hq; simp only[aEqv,sJ]at h; subst h; simp[Op.equalIn,run_underlying hu]
     | some c=>simp only[VRel]at hq; obtain⟨L,_,_,rfl⟩:=hq; simp only[aEqv,sJ]at h; subst h; simp[Op.equalIn,run_underlying hu]
    | some a=>
     simp only[VRel]at hp
     obtain⟨L,l1,l2,rfl⟩:=hp
     cases c with
     | none=>simp only[VRel]at hq; subst hq; simp only[aEqv,sJ]at h; subst h; simp[Op.equalIn,run_underlying hu]
     | some c=>
      simp only[VRel]at hq
      obtain⟨M,m1,m2,rfl⟩:=hq
      simp only[aEqv]at h
      cases hg:(Nat.beq a.b c.b&&Nat.beq a.lim c.lim) with
      | false=>rw[hg]at h; simp at h
      | true=>
       rw[hg]at h
       simp only[Bool.and_eq_true]at hg
       simp only[cond_true,sJ]at h
       subst h
       rw[Nat.eq_of_beq_eq_true hg.1,Nat.eq_of_beq_eq_true hg.2,m1]at l1
       obtain rfl:=(sJ _ _).mp l1
       have e:((⟨M.c,a.o-M.sh,none⟩:Addr)==⟨M.c,c.o-M.sh,none⟩)=Nat.beq a.o c.o:=by
        rw[beq_dec]
        have:((⟨M.c,a.o-M.sh,none⟩:Addr)==⟨M.c,c.o-M.sh,none⟩)=decide ((⟨M.c,a.o-M.sh,none⟩:Addr)=⟨M.c,c.o-M.sh,none⟩):=by
         by_cases h:(⟨M.c,a.o-M.sh,none⟩:Addr)=⟨M.c,c.o-M.sh,none⟩ <;> simp[h]
        rw[this]
        congr 1
        simp only[Addr.mk.injEq,true_and,and_true,eq_iff_iff]
        omega
       simp[Op.equalIn,run_underlying hu,hs,hn0,sameAddr,e]
  ·simp at hk
 ·rename_i e hu
  simp only[sJ]at hk; subst hk
  cases p <;> cases q <;> simp only[aEqv,sJ,reduceCtorEq]at h
  rename_i a n r c m s
  obtain⟨b1,m1,c1,rfl,e1⟩:=slice_shape hp
  obtain⟨b2,m2,c2,rfl,e2⟩:=slice_shape hq
  cases a <;> cases c <;> cases b1 <;> cases b2 <;> simp only[Option.isNone_none,Option.isNone_some,reduceCtorEq,Bool.false_eq_true,Bool.true_eq_false]at e1 e2 <;>
   simp only[aEqv,sJ,reduceCtorEq]at h <;> subst h <;> simp[Op.equalIn,run_underlying hu]
 ·rename_i e1 e2 hu
  simp only[sJ]at hk; subst hk
  cases p <;> cases q <;> simp only[aEqv,sJ,reduceCtorEq]at h
  rename_i a c
  cases a <;> cases c <;> simp only[VRel]at hp hq <;> simp only[aEqv,sJ,reduceCtorEq]at h
  ·subst hp hq h; simp[Op.equalIn,run_underlying hu]
  ·obtain⟨_,_,rfl⟩:=hq; subst hp h; simp[Op.equalIn,run_underlying hu]
  ·obtain⟨_,_,rfl⟩:=hp; subst hq h; simp[Op.equalIn,run_underlying hu]
 ·rename_i e1 e2 e3 hu
  simp only[sJ]at hk; subst hk
  cases p <;> cases q <;> simp only[aEqv,sJ,reduceCtorEq]at h <;> simp only[VRel]at hp hq
  ·obtain⟨_,_,rfl,_⟩:=hp; subst hq h; simp[Op.equalIn,run_underlying hu]
  ·obtain⟨_,_,rfl,_⟩:=hq; subst hp h; simp[Op.equalIn,run_underlying hu]
  ·subst hp hq h; simp[Op.equalIn,run_underlying hu]
 ·rename_i e hu
  simp only[sJ]at hk; subst hk
  cases p <;> cases q <;> simp only[aEqv,sJ,reduceCtorEq]at h <;> simp only[VRel]at hp hq
  ·obtain⟨_,rfl,_⟩:=hp; subst hq h; simp[Op.equalIn,run_underlying hu]
  ·obtain⟨_,rfl,_⟩:=hq; subst hp h; simp[Op.equalIn,run_underlying hu]
  ·subst hp hq
   cases hc:(isC x||isC y) with
   | false=>rw[hc]at h; simp[aEqv]at h
   | true=>
    rw[hc]at h
    simp only[aEqv,cond_true,sJ]at h
    subst h
    simp[Op.equalIn,run_underlying hu]
 ·simp at hk
theorem equal_ok{t:TypeId}{x y:Operand}{k:EqK}(hk:eqKOf P t x y=some k){p q:AVal}{u v:Value}(hp:VRel ρ p u)(hq:VRel ρ q v){b:Bool}(h:aEqv k p q=some b):(Op.equal t u v).run P w=.ok b w:=
 equalIn_ok hk hp hq h 9999
theorem eqv_bin{k:EqK}{p q:AVal}{u v:Value}(hp:VRel ρ p u)(hq:VRel ρ q v){b:Bool}(h:aEqv k p q=some b)(t:TypeId) :
  binOp .eql t u v=(do pure (.bool (← Op.equal t u v)))∧binOp .neq t u v=(do pure (.bool (!(← Op.equal t u v)))):=by
 cases p with
 | bool a=>simp only[VRel]at hp; subst hp; cases v <;> exact⟨rfl,rfl⟩
 | int=>cases k <;> simp[aEqv]at h
 | str=>cases k <;> simp[aEqv]at h
 | agg=>cases k <;> simp[aEqv]at h
 | tuple=>cases k <;> simp[aEqv]at h
 | val=>cases k <;> simp[aEqv]at h
 | ptr a=>cases a <;> simp only[VRel]at hp <;> first | (subst hp; cases v <;> exact⟨rfl,rfl⟩) | (obtain⟨_,_,_,rfl⟩:=hp; cases v <;> exact⟨rfl,rfl⟩)
 | slice a n r=>obtain⟨_,_,_,rfl,_⟩:=slice_shape hp; cases v <;> exact⟨rfl,rfl⟩
 | map a=>cases a <;> simp only[VRel]at hp <;> first | (subst hp; cases v <;> exact⟨rfl,rfl⟩) | (obtain⟨_,_,rfl⟩:=hp; cases v <;> exact⟨rfl,rfl⟩)
 | func=>simp only[VRel]at hp; obtain⟨_,_,rfl,_⟩:=hp; cases v <;> exact⟨rfl,rfl⟩
 | nilFunc=>simp only[VRel]at hp; subst hp; cases v <;> exact⟨rfl,rfl⟩
 | iface=>simp only[VRel]at hp; obtain⟨_,rfl,_⟩:=hp; cases v <;> exact⟨rfl,rfl⟩
 | nilIface=>simp only[VRel]at hp; subst hp; cases v <;> exact⟨rfl,rfl⟩
theorem eqv_guard{k:EqK}{p q:AVal}{u v:Value}{x y:Operand}{t:TypeId}(hk:eqKOf P t x y=some k)(hp:VRel ρ p u)(hq:VRel ρ q v){b:Bool}(h:aEqv k p q=some b)(op:BinOp) :
  (eqGuard op t x y u v).run P w=.ok () w:=by
 cases p with
 | bool a=>simp only[VRel]at hp; subst hp; cases op <;> rfl
 | int=>cases k <;> simp[aEqv]at h
 | str=>cases k <;> simp[aEqv]at h
 | agg=>cases k <;> simp[aEqv]at h
 | tuple=>cases k <;> simp[aEqv]at h
 | val=>cases k <;> simp[aEqv]at h
 | ptr a=>cases a <;> simp only[VRel]at hp <;> first | (subst hp; cases op <;> rfl) | (obtain⟨_,_,_,rfl⟩:=hp; cases op <;> rfl)
 | slice a n r=>obtain⟨_,_,_,rfl,_⟩:=slice_shape hp; cases op <;> rfl
 | map a=>cases a <;> simp only[VRel]at hp <;> first | (subst hp; cases op <;> rfl) | (obtain⟨_,_,rfl⟩:=hp; cases op <;> rfl)
 | func=>simp only[VRel]at hp; obtain⟨_,_,rfl,_⟩:=hp; cases op <;> rfl
 | nilFunc=>simp only[VRel]at hp; subst hp; cases op <;> rfl
 | iface=>simp only[VRel]at hp; obtain⟨_,rfl,_⟩:=hp; cases op <;> rfl
 | nilIface=>
  simp only[VRel]at hp
  subst hp
  cases q with
  | nilIface=>
   simp only[VRel]at hq
   subst hq
   cases k with
   | iface c=>
    cases c with
    | false=>simp[aEqv]at h
    | true=>
     have hc:(isC x||isC y)=true:=by
      unfold eqKOf at hk
      split at hk <;> first | (simp at hk; done) | skip
      ·split at hk <;> first | (simp at hk; done) | skip
       rename_i n _
       cases hb:Nat.beq n 0 <;> rw[hb]at hk <;> simp at hk
      ·simpa using hk
     clear hk
     cases op <;> first | rfl | (cases x <;> cases y <;> first | rfl | (simp[isC]at hc))
   | _=>simp[aEqv]at h
  | iface=>simp only[VRel]at hq; obtain⟨_,rfl,_⟩:=hq; cases op <;> rfl
  | _=>cases k <;> simp[aEqv]at h
theorem eqv_ok{op:BinOp}(ho:op=.eql∨op=.neq){t:TypeId}{x y:Operand}{k:EqK}(hk:eqKOf P t x y=some k){p q:AVal}{u v:Value}(hp:VRel ρ p u)(hq:VRel ρ q v){b:Bool}(h:aEqv k p q=some b) :
  (do eqGuard op t x y u v; binOp op t u v:Sem Value).run P w=.ok (.bool (match op with | .eql=>b | _=>!b)) w:=by
 have he:=equal_ok (w:=w) hk hp hq h
 obtain⟨e1,e2⟩:=eqv_bin hp hq h t
 rcases ho with rfl | rfl
 ·simp only[Sem.run_bind,eqv_guard hk hp hq h,Result.andThen_ok,e1,he]; rfl
 ·simp only[Sem.run_bind,eqv_guard hk hp hq h,Result.andThen_ok,e2,he]; rfl
end
end Go.Abs
namespace Go.Abs
section
variable {P:Program} {ρ:Pl} {w:World}
inductive FK where
 | int | str | bool
def fEqI:AVal→AVal→Option Bool
 | .int k a,.int k' b=>if k=k' then some (eqF a b) else none
 | _,_=>none
def fEqS:AVal→AVal→Option Bool
 | .str a,.str b=>some (a==b)
 | _,_=>none
def fEqB:AVal→AVal→Option Bool
 | .bool a,.bool b=>some (a==b)
 | _,_=>none
def fEq:FK→AVal→AVal→Option Bool
 | .int,x,y=>fEqI x y
 | .str,x,y=>fEqS x y
 | .bool,x,y=>fEqB x y
def aEqFs:List (Nat×FK)→List AVal→List AVal→Option Bool
 | [],_,_=>some true
 | (o,k)::r,l,m=>match l[o]?,m[o]? with
  | some x,some y=>match fEq k x y with
   | some true=>aEqFs r l m
   | some false=>some false
   | none=>none
  | _,_=>none
def fkOf(P:Program)(t:TypeId):Option FK:=
 match P.underlying t with
 | some (.int _)=>some .int
 | some .string=>some .str
 | some .bool=>some .bool
 | _=>none
def eqFsOf(P:Program):List Field→Option (List (Nat×FK))
 | []=>some []
 | f::r => bif f.name == "_" then none else match fkOf P f.type, tyOf P f.type, eqFsOf P r with
  | some k,some (false,_),some l=>some ((f.offset,k)::l)
  | _,_,_=>none
def eqSOf(P:Program)(t:TypeId):Option (List (Nat×FK)):=
 match P.underlying t with
 | some (.struct fs)=>bif P.stoodInHeld t||P.eqGuardType P.depth t then none else eqFsOf P fs.toList
 | _=>none
theorem strOf_beq(a b:List UInt8):(strOf a==strOf b)=(a==b):=by
 have:(strOf a==strOf b)=(a.toArray==b.toArray):=rfl
 rw[this]
 by_cases h:a=b
 ·subst h; simp
 ·have:a.toArray≠b.toArray:=fun e=>h (by simpa using congrArg Array.toList e)
  simp[h]
theorem fEq_ok{t:TypeId}{k:FK}(hk:fkOf P t=some k){x y:AVal}{u v:Value}(hx:VRel ρ x u)(hy:VRel ρ y v){b:Bool}(h:fEq k x y=some b)(d:Nat):(Op.equalIn (d+1) t u v).run P w=.ok b w:=by
 unfold fkOf at hk
 split at hk <;> simp only[sJ,reduceCtorEq]at hk <;> subst hk <;> rename_i hu <;> simp only[fEq]at h
 ·unfold fEqI at h
  split at h
  ·rename_i k' a k'' b'
   split at h
   ·rename_i hkk
    simp only[sJ]at h
    simp only[VRel]at hx hy
    subst hx hy h hkk
    simp[Op.equalIn,run_underlying hu,eqF_eq]
   ·simp at h
  ·simp at h
 ·unfold fEqS at h
  split at h
  ·simp only[sJ]at h
   simp only[VRel]at hx hy
   subst hx hy h
   simp[Op.equalIn,run_underlying hu,strOf_beq]
  ·simp at h
 ·unfold fEqB at h
  split at h
  ·simp only[sJ]at h
   simp only[VRel]at hx hy
   subst hx hy h
   simp[Op.equalIn,run_underlying hu]
  ·simp at h
theorem eqFs_ok:∀{fs:List Field} {ks:List (Nat×FK)},eqFsOf P fs=some ks→∀{l m:List AVal} {xs ys:Array Value},VRels ρ l xs.toList→VRels ρ m ys.toList→∀{b:Bool},aEqFs ks l m=some b→∀d,(Op.eqFields (d+1) xs ys fs).run P w=.ok b w
 | [],ks,hk,l,m,xs,ys,hx,hy,b,h,d=>by
  simp only[eqFsOf,sJ]at hk
  subst hk
  simp only[aEqFs,sJ]at h
  subst h
  rfl
 | f::fs,ks,hk,l,m,xs,ys,hx,hy,b,h,d=>by
  simp only[eqFsOf]at hk
  cases hn : (f.name == "_") with
  | true=>rw[hn]at hk; simp at hk
  | false=>
   rw[hn]at hk
   simp only[cond_false]at hk
   split at hk
   ·rename_i k n ks' h1 h2 h3
    simp only[sJ]at hk
    subst hk
    simp only[aEqFs]at h
    have hne : f.name ≠ "_" := by simpa using hn
    split at h
    ·rename_i x y gx gy
     have p1:aPart false n f.offset l=some x:=by simpa[aPart] using gx
     have p2:aPart false n f.offset m=some y:=by simpa[aPart] using gy
     obtain⟨u,u1,u2⟩:=part_ok (P:=P) (w:=w) (ty_of h2) hx p1
     obtain⟨v,v1,v2⟩:=part_ok (P:=P) (w:=w) (ty_of h2) hy p2
     simp only[Op.eqFields,hne,ne_eq,not_false_eq_true,if_true,Sem.run_bind,u1,v1,Result.andThen_ok]
     split at h
     ·rename_i hb
      rw[fEq_ok h1 u2 v2 hb d]
      simp only[Result.andThen_ok,Bool.not_true,Bool.false_eq_true,if_false]
      exact eqFs_ok h3 hx hy h d
     ·rename_i hb
      simp only[sJ]at h
      subst h
      rw[fEq_ok h1 u2 v2 hb d]
      simp
     ·simp at h
    ·simp at h
   ·simp at hk
theorem eqS_ok{op:BinOp}(ho:op=.eql∨op=.neq){t:TypeId}{x y:Operand}{ks:List (Nat×FK)}(hk:eqSOf P t=some ks){l m:List AVal}{u v:Value}(hp:VRel ρ (.agg l) u)(hq:VRel ρ (.agg m) v){b:Bool}(h:aEqFs ks l m=some b) :
  (do eqGuard op t x y u v; binOp op t u v:Sem Value).run P w=.ok (.bool (match op with | .eql=>b | _=>!b)) w:=by
 unfold eqSOf at hk
 split at hk
 ·rename_i fs hu
  cases hg:(P.stoodInHeld t||P.eqGuardType P.depth t) with
  | true=>rw[hg]at hk; simp at hk
  | false=>
   rw[hg]at hk
   simp only[cond_false]at hk
   rw[Bool.or_eq_false_iff]at hg
   simp only[VRel]at hp hq
   obtain⟨xs,rfl,hx⟩:=hp
   obtain⟨ys,rfl,hy⟩:=hq
   have hfo:P.fieldsOf t=fs:=by simp[Program.fieldsOf,hu]
   have he:(Op.equalIn 10000 t (.agg xs) (.agg ys)).run P w=.ok b w:=by
    have:=run_equalIn_struct (P:=P) w 9999 t xs ys (by rw[hfo]; exact hu) hg.1
    rw[this,hfo]
    exact eqFs_ok hk hx hy h 9998
   rcases ho with rfl | rfl
   ·simp only[Sem.run_bind,run_eqGuard_agg w _ t x y xs ys hg.2,Result.andThen_ok,run_eql_struct,he]
   ·simp only[Sem.run_bind,run_eqGuard_agg w _ t x y xs ys hg.2,Result.andThen_ok,run_neq_struct,he]
 ·simp at hk
inductive PF where
 | eqv (neg:Bool) (k:EqK)
 | eqS (neg:Bool) (fs:List (Nat×FK))
 | mm (great:Bool)
 | ibs
 | cbs
 | s2a (n:Nat)
 | isP
 | mkP
 | unP
 | isU
 | capt (i:Nat)
 | tup
 | dset
 | isF (g k:Nat)
 | tAss (t:Nat) (ok:Bool) (z:AVal)
 | apart
def aMM1(great:Bool):AVal→AVal→Option AVal
 | .int k x,.int _ y=>some (.int k (bif (bif great then ltF x y else ltF y x) then y else x))
 | _,_=>none
def aMM(great:Bool):AVal→List AVal→Option AVal
 | x,[]=>some x
 | x,y::r=>match aMM1 great x y with
  | some z=>aMM great z r
  | none=>none
def ibF(c:UInt8):List UInt8→Nat→Int
 | [],_=>.negSucc 0
 | b::r,n=>bif Nat.beq b.toNat c.toNat then .ofNat n else ibF c r (n+1)
def aIbs:List AVal→Option AVal
 | [.str s,.int .u8 (.ofNat c)]=>some (.int .i64 (ibF c.toUInt8 s 0))
 | _=>none
def cbF(c:Nat):List UInt8→Nat→Nat
 | [],n=>n
 | b::r,n=>bif Nat.beq b.toNat c then cbF c r (n+1) else cbF c r n
def aCbs:List AVal→Option AVal
 | [.str s,.int .u8 (.ofNat c)]=>bif Nat.ble c 255 then some (.int .i64 (.ofNat (cbF c s 0))) else none
 | _=>none
theorem cbF_eq(c:UInt8):∀(l:List UInt8) (n:Nat),cbF c.toNat l n=n+l.count c
 | [],n=>by simp[cbF]
 | b::r,n=>by
  simp only[cbF,List.count_cons]
  have e:Nat.beq b.toNat c.toNat=(b==c):=by
   rw[beq_dec,Bool.eq_iff_iff,decide_eq_true_eq,beq_iff_eq]
   exact UInt8.toNat_inj
  rw[e]
  cases h:b==c with
  | true=>rw[cond_true,cbF_eq c r]; simp; omega
  | false=>rw[cond_false,cbF_eq c r]; simp
def aEqs(neg:Bool)(k:EqK):List AVal→Option AVal
 | [x,y]=>match aEqv k x y with
  | some b=>some (.bool (bif neg then !b else b))
  | none=>none
 | _=>none
def aMMs(g:Bool):List AVal→Option AVal
 | x::r=>aMM g x r
 | []=>none
def aEqSs(neg:Bool)(fs:List (Nat×FK)):List AVal→Option AVal
 | [.agg l,.agg m]=>match aEqFs fs l m with
  | some b=>some (.bool (bif neg then !b else b))
  | none=>none
 | _=>none
def aS2A(n:Nat):List AVal→Option AVal
 | [.slice (some a) len _]=>bif Nat.ble n len&&Nat.blt 0 n then some (.ptr (some a)) else none
 | _=>none
def panV(x:AVal):AVal:=.func (.func 0) [.val (.bool false)] [x]
def isPan:AVal→Bool
 | .func (.func 0) [.val (.bool false)] [_]=>true
 | _=>false
def aIsP:List AVal→Option AVal
 | [x]=>some (.bool (isPan x))
 | _=>none
def aMkP:List AVal→Option AVal
 | [.iface t x]=>some (panV (.iface t x))
 | _=>none
def aUnP:List AVal→Option AVal
 | [.tuple []]=>some .nilIface
 | [.func (.func 0) [.val (.bool false)] [x]]=>some x
 | _=>none
def isU:AVal→Bool
 | .tuple []=>true
 | _=>false
def aIsU:List AVal→Option AVal
 | [x]=>some (.bool (isU x))
 | _=>none
def aCapt(i:Nat):List AVal→Option AVal
 | [.func _ [] l]=>l[i]?
 | _=>none
def aIsF(g k:Nat):List AVal→Option AVal
 | [.func (.func f) [] l]=>bif Nat.beq f g&&Nat.beq l.length k then some (.bool true) else none
 | _=>none
def aTAss(t:Nat)(ok:Bool)(z:AVal):List AVal→Option AVal
 | [.nilIface]=>bif ok then some (.tuple [z,.bool false]) else none
 | [.iface u v]=>bif Nat.beq u t then (bif ok then some (.tuple [v,.bool true]) else some v) else bif ok then some (.tuple [z,.bool false]) else none
 | _=>none
def tupV:List AVal→AVal
 | [x]=>x
 | l=>.tuple l
def aDset:List AVal→Option AVal
 | [.tuple [],.func (.func f) a b]=>some (.func (.func f) a b)
 | _=>none
def blkOf:AVal→Option Nat
 | .ptr (some a)=>some a.b
 | .slice (some a) _ _=>some a.b
 | .map (some r)=>some r
 | _=>none
def apB(x y:AVal):Bool:=match blkOf x,blkOf y with
 | some b,some c=>!Nat.beq b c
 | _,_=>true
def aApart:List AVal→Option AVal
 | [x,y]=>bif apB x y then some (.bool true) else none
 | _=>none
def aPf:PF→List AVal→Option AVal
 | .apart,l=>aApart l
 | .isP,l=>aIsP l
 | .mkP,l=>aMkP l
 | .unP,l=>aUnP l
 | .isU,l=>aIsU l
 | .capt i,l=>aCapt i l
 | .isF g k,l=>aIsF g k l
 | .tAss t ok z,l=>aTAss t ok z l
 | .tup,l=>some (tupV l)
 | .dset,l=>aDset l
 | .s2a n,l=>aS2A n l
 | .eqv neg k,l=>aEqs neg k l
 | .eqS neg fs,l=>aEqSs neg fs l
 | .mm g,l=>aMMs g l
 | .ibs,l=>aIbs l
 | .cbs,l=>aCbs l
theorem mm1_ok{g:Bool}{x y z:AVal}{u v:Value}(hx:VRel ρ x u)(hy:VRel ρ y v)(h:aMM1 g x y=some z) :
  ∃q,VRel ρ z q∧(if g then Builtin.max2 u v else Builtin.min2 u v)=pure q:=by
 unfold aMM1 at h
 split at h
 ·rename_i k a k' b
  simp only[sJ]at h
  subst h
  simp only[VRel]at hx hy
  subst hx hy
  cases g
  ·refine⟨.int k (if b<a then b else a),?_,rfl⟩
   simp only[cond_false,ltF_eq,VRel]
   by_cases hh:b<a <;> simp[hh]
  ·refine⟨.int k (if b > a then b else a),?_,rfl⟩
   simp only[cond_true,ltF_eq,VRel]
   by_cases hh:a<b <;> simp[hh]
 ·simp at h
theorem mm_ok{g:Bool}:∀{l:List AVal} {x z:AVal} {u:Value} {vs:List Value},VRel ρ x u→VRels ρ l vs→aMM g x l=some z →
  ∃q,VRel ρ z q∧(vs.foldlM (if g then Builtin.max2 else Builtin.min2) u).run P w=.ok q w
 | [],x,z,u,vs,hx,hl,h=>by
  simp only[VRels]at hl; subst hl
  simp only[aMM,sJ]at h; subst h
  exact⟨u,hx,rfl⟩
 | y::l,x,z,u,vs,hx,hl,h=>by
  simp only[VRels]at hl
  obtain⟨v,r,rfl,hy,hr⟩:=hl
  simp only[aMM]at h
  split at h
  ·rename_i m hm
   obtain⟨q,hq,e⟩:=mm1_ok hx hy hm
   obtain⟨q',hq',e'⟩:=mm_ok hq hr h
   refine⟨q',hq',?_⟩
   rw[List.foldlM_cons]
   have:(if g then Builtin.max2 else Builtin.min2) u v=pure q:=by rw[← e]; cases g <;> rfl
   rw[this]
   simpa using e'
  ·simp at h
theorem ibF_eq(c:UInt8):∀(s:List UInt8) (n:Nat),ibF c s n=if Lib.indexByte s c=-1 then -1 else Lib.indexByte s c+n
 | [],n=>rfl
 | b::s,n=>by
  have hb:Nat.beq b.toNat c.toNat=(b==c):=by
   rw[beq_dec]
   by_cases h:b=c
   ·subst h; simp
   ·have:b.toNat≠c.toNat:=fun e=>h (UInt8.toNat_inj.1 e)
    simp[h,this]
  simp only[ibF,Lib.indexByte,hb]
  by_cases hc:(b==c)=true
  ·simp[hc]
  ·have hge:=Lib.indexByte_ge s c
   rw[Bool.not_eq_true]at hc
   simp only[hc,cond_false,ibF_eq c s (n+1),Bool.false_eq_true,if_false,beq_iff_eq]
   by_cases h:Lib.indexByte s c=-1
   ·simp[h]
   ·simp only[h,if_false]
    rw[if_neg om]
    omega
def isIbs(P:Program)(f:FuncId):Bool:=
 match P.funcs[f]? with
 | some fn => fn.body.isNone && (fn.name == "internal/bytealg.IndexByteString") && (Extern.findNext fn).isNone
 | none=>false
theorem find_ibs {fn : Func} (h : fn.name = "internal/bytealg.IndexByteString") : Extern.find fn = some Extern.BytealgIndexByte.indexByte := by
 unfold Extern.find
 rw[h]
 kernel_rfl
theorem ibs_ok{f:FuncId}(hf:isIbs P f=true){l:List AVal}{z:AVal}(h:aIbs l=some z){vs:Array Value}(hv:VRels ρ l vs.toList) :
  ∃q,VRel ρ z q∧(callFunc f vs).run P w=.ok (.value q) w:=by
 unfold isIbs at hf
 split at hf
 ·rename_i fn hfn
  simp only[Bool.and_eq_true,beq_iff_eq]at hf
  obtain⟨⟨h1,h2⟩,h3⟩:=hf
  unfold aIbs at h
  split at h <;> first | (simp at h; done) | skip
  rename_i s c
  simp only[sJ]at h
  subst h
  simp only[VRels]at hv
  obtain⟨v1,r1,e1,hv1,v2,r2,rfl,hv2,rfl⟩:=hv
  simp only[VRel]at hv1 hv2
  subst hv1 hv2
  have ha:vs=#[.string (strOf s),.int .u8 (.ofNat c)]:=Array.toList_inj.1 (by simpa using e1)
  subst ha
  refine⟨_,?_,by rw[run_callFunc_extern hfn (by rw[h2]; rfl) h1 (by simpa using h3) (find_ibs h2),Lib.run_indexByteString]; rfl⟩
  simp only[VRel,ibF_eq,strOf]
  by_cases hh:Lib.indexByte s c.toUInt8=-1
  ·simp[hh]
  ·simp[hh]
 ·simp at hf
def isCbs(P:Program)(f:FuncId):Bool:=
 match P.funcs[f]? with
 | some fn => fn.body.isNone && (fn.name == "internal/bytealg.CountString") && (Extern.findNext fn).isNone
 | none=>false
theorem find_cbs {fn : Func} (h : fn.name = "internal/bytealg.CountString") : Extern.find fn = some Extern.BytealgCount.count := by
 unfold Extern.find
 rw[h]
 kernel_rfl
theorem cbs_ok{f:FuncId}(hf:isCbs P f=true){l:List AVal}{z:AVal}(h:aCbs l=some z){vs:Array Value}(hv:VRels ρ l vs.toList) :
  ∃q,VRel ρ z q∧(callFunc f vs).run P w=.ok (.value q) w:=by
 unfold isCbs at hf
 split at hf
 ·rename_i fn hfn
  simp only[Bool.and_eq_true,beq_iff_eq]at hf
  obtain⟨⟨h1,h2⟩,h3⟩:=hf
  unfold aCbs at h
  split at h <;> first | (simp at h; done) | skip
  rename_i s c
  cases hc:Nat.ble c 255 with
  | false=>rw[hc]at h; simp at h
  | true=>
   rw[hc]at h
   simp only[cond_true,sJ]at h
   subst h
   simp only[VRels]at hv
   obtain⟨v1,r1,e1,hv1,v2,r2,rfl,hv2,rfl⟩:=hv
   simp only[VRel]at hv1 hv2
   subst hv1 hv2
   have ha:vs=#[.string (strOf s),.int .u8 (.ofNat c)]:=Array.toList_inj.1 (by simpa using e1)
   subst ha
   have hcc:c.toUInt8.toNat=c:=by
    have:=Nat.le_of_ble_eq_true hc
    show (UInt8.ofNat c).toNat=c
    rw[UInt8.toNat_ofNat']; omega
   refine⟨_,?_,by rw[run_callFunc_extern hfn (by rw[h2]; rfl) h1 (by simpa using h3) (find_cbs h2),Lib.run_countString]; rfl⟩
   have:=cbF_eq c.toUInt8 s 0
   rw[hcc]at this
   simp only[VRel,strOf,this,Lib.countByte]
   simp
 ·simp at hf
def aSlArr(n size:Nat)(x:AVal)(lo hi mx:Option AVal):Option AVal:=
 match x with
 | .ptr (some a)=>
  match aBnd n n lo hi mx with
  | some (l,h,m)=>bif Nat.beq (m.getD n) l then some (.slice (some a) (h-l) (.known (m.getD n-l))) else some (.slice (some ⟨a.b,a.lim,a.o+l*size⟩) (h-l) (.known (m.getD n-l)))
  | none=>none
 | _=>none
theorem slArr_ok{t elem:TypeId}{agg:Bool}{n size:Nat}(hu:P.underlying t=some (.array n elem))(T:Ty P elem agg size){x y:AVal}{v:Value}{lo hi mx:Option AVal}{lv hv mv:Option Value}
  (hx:VRel ρ x v) (hl:ORelV ρ lo lv) (hh:ORelV ρ hi hv) (hm:ORelV ρ mx mv) (h:aSlArr n size x lo hi mx=some y):∃u,(Instr.sliceAt t v lv hv mv).run P w=.ok u w∧VRel ρ y u:=by
 unfold aSlArr at h
 split at h
 ·rename_i a
  split at h
  ·rename_i l hn m hb
   simp only[VRel]at hx
   obtain⟨L,h1,h2,rfl⟩:=hx
   obtain⟨q1,q2,q3,q4⟩:=bnd_ok (P:=P) (w:=w) (isSlice:=false) (Nat.le_refl n) hl hh hm hb
   have q5:hn≤m.getD n:=by
    cases m with
    | none=>simp; omega
    | some q=>simpa using (q4 q rfl).1
   cases hb:Nat.beq (m.getD n) l with
   | true=>
    rw[hb]at h
    simp only[cond_true,sJ]at h
    subst h
    have:=Nat.eq_of_beq_eq_true hb
    refine⟨.slice (some ⟨L.c,a.o-L.sh,none⟩) (hn-l) (m.getD n-l),?_,?_⟩
    ·simp only[Instr.sliceAt,Sem.run_bind,run_underlying hu,Result.andThen_ok,q1,T.size,this,if_true,Sem.run_pure,asAddr,Instr.sureAddr]
    ·simp only[VRel]
     exact⟨L,h1,h2,om,rfl⟩
   | false=>
    rw[hb]at h
    simp only[cond_false,sJ]at h
    subst h
    have hne:¬m.getD n=l:=fun e=>by rw[e,Nat.beq_refl]at hb; simp at hb
    refine⟨.slice (some ⟨L.c,a.o-L.sh+l*size,none⟩) (hn-l) (m.getD n-l),?_,?_⟩
    ·simp only[Instr.sliceAt,Sem.run_bind,run_underlying hu,Result.andThen_ok,q1,T.size,if_neg hne,Sem.run_pure,Option.map_some,add_none,asAddr,Instr.sureAddr]
    ·simp only[VRel]
     refine⟨L,h1,by first | omega | (simp only; omega),?_⟩
     simp only[SliceRel]
     refine⟨om,?_⟩
     congr 3
     omega
  ·simp at h
 ·simp at h
theorem s2a_ok{t e:TypeId}{n:Nat}(hu:P.underlying t=some (.array n e)){x y:AVal}{v:Value}(hx:VRel ρ x v)(h:aS2A n [x]=some y):∃u,(Instr.arrayAt t v).run P w=.ok u w∧VRel ρ y u:=by
 unfold aS2A at h
 split at h <;> first | (simp at h; done) | skip
 rename_i a len r heq
 simp only[List.cons.injEq,and_true]at heq
 subst heq
 cases hb:(Nat.ble n len&&Nat.blt 0 n) with
 | false=>rw[hb]at h; simp at h
 | true=>
  rw[hb]at h
  simp only[cond_true,sJ]at h
  subst h
  simp only[Bool.and_eq_true]at hb
  have h1:=Nat.le_of_ble_eq_true hb.1
  have h2:0<n:=Nat.le_of_ble_eq_true hb.2
  obtain⟨L,off,c,hL,hsh,rfl,h3,h4⟩:=slice_off hx
  have h4:=h4 om
  subst h4
  refine⟨.pointer (some ⟨L.c,a.o-L.sh,none⟩),?_,?_⟩
  ·have:¬len<n:=om
   simp[Instr.arrayAt,run_underlying hu,this]
  ·simp only[VRel]
   exact⟨L,hL,hsh,rfl⟩
end
end Go.Abs
namespace Go.Abs
section
variable {P:Program} {Prot:Gh} {w0:World} {ρ:Pl} {H H':AHeap} {w:World}
def nthB:List UInt8→Nat→Option UInt8
 | [],_=>none
 | b::_,0=>some b
 | _::r,n+1=>nthB r n
theorem nthB_eq:∀(l:List UInt8) (n:Nat),nthB l n=l[n]?
 | [],n=>by simp[nthB]
 | b::l,0=>by simp[nthB]
 | b::l,n+1=>by simp[nthB,nthB_eq l n]
inductive KC where
 | int
 | str
 | arr (n:Nat)
inductive MF where
 | entry (kc:KC) (z:AVal)
 | store
 | upd (kc:KC)
abbrev Ent:=AVal×AVal×Nat
def kEqs:List AVal→List AVal→Option Bool
 | [],[]=>some true
 | .int k a::l,.int k' b::m=>if k=k' then (bif eqF a b then kEqs l m else some false) else none
 | _,_=>none
def kEq:KC→AVal→AVal→Option Bool
 | .int,.int k a,.int k' b=>if k=k' then some (eqF a b) else none
 | .str,.str a,.str b=>some (a==b)
 | .arr n,.agg l,.agg m=>bif Nat.beq l.length n&&Nat.beq m.length n then kEqs l m else none
 | _,_,_=>none
def isKs:List AVal→Bool
 | []=>true
 | .int _ _::l=>isKs l
 | _::_=>false
def isK:KC→AVal→Bool
 | .int,.int _ _=>true
 | .str,.str _=>true
 | .arr n,.agg l=>Nat.beq l.length n&&isKs l
 | _,_=>false
def mFind(kc:KC)(k:AVal):List Ent→Nat→Option (Option (Nat×Ent))
 | [],_=>some none
 | e::r,i=>match kEq kc k e.1 with
  | some true=>some (some (i,e))
  | some false=>mFind kc k r (i+1)
  | none=>none
def mSet:List Ent→Nat→Ent→List Ent
 | [],_,_=>[]
 | _::r,0,e=>e::r
 | x::r,i+1,e=>x::mSet r i e
def mRet(ok:Bool)(v:AVal)(b:Bool):AVal:=bif ok then .tuple [v,.bool b] else v
def aLookE(kc:KC)(ok:Bool)(z:AVal)(es:List Ent)(k:AVal):Option AVal:=bif isK kc k then
  match mFind kc k es 0 with
  | some (some (_,e))=>some (mRet ok e.2.1 true)
  | some none=>some (mRet ok z false)
  | none=>none
 else none
def mBorn(n:Nat):List Ent→Nat→Option (Nat×Ent)
 | [],_=>none
 | e::r,i=>bif Nat.beq e.2.2 n then some (i,e) else mBorn n r (i+1)
def aMf:MF→List Ent→Nat→List AVal→Option (AVal×List Ent×Nat)
 | .entry kc z,es,c,[k]=>bif isK kc k then
   match mFind kc k es 0 with
   | some (some (i,e))=>some (.tuple [e.2.1,.int .i64 (.ofNat e.2.2)],mSet es i (k,e.2),c)
   | some none=>some (.tuple [z,.int .i64 (.ofNat c)],es++[(k,z,c)],c+1)
   | none=>none
  else none
 | .store,es,c,[.int .i64 (.ofNat n),x]=>match mBorn n es 0 with
   | some (i,e)=>some (.tuple [],mSet es i (e.1,x,e.2.2),c)
   | none=>none
 | .upd kc,es,c,[k,x]=>bif isK kc k then
   match mFind kc k es 0 with
   | some (some (i,e))=>some (.tuple [],mSet es i (k,x,e.2.2),c)
   | some none=>some (.tuple [],es++[(k,x,c)],c+1)
   | none=>none
  else none
 | _,_,_,_=>none
def pEqP(g:Nat→Option AObj)(a c:Ad):Option Bool:=
 bif Nat.beq a.b c.b then (bif Nat.beq a.lim c.lim then some (Nat.beq a.o c.o) else none)
 else match g a.b,g c.b with
  | some (.cells _ _ false false),some (.cells _ _ false false)=>some false
  | _,_=>none
inductive FKd where
 | p
 | i
 | s
def pEqV(g:Nat→Option AObj):FKd→AVal→AVal→Option Bool
 | .p,.ptr (some a),.ptr (some c)=>pEqP g a c
 | .i,.int k n,.int k' m=>if k=k' then some (eqF n m) else none
 | .s,.str x,.str y=>some (x==y)
 | _,_,_=>none
def isV:FKd→AVal→Bool
 | .p,.ptr (some _)=>true
 | .i,.int _ _=>true
 | .s,.str _=>true
 | _,_=>false
def pEqK(g:Nat→Option AObj)(ks:FKd×FKd):AVal→AVal→Option Bool
 | .agg [x,y],.agg [x',y']=>match pEqV g ks.1 x x' with
  | some true=>pEqV g ks.2 y y'
  | some false=>some false
  | none=>none
 | _,_=>none
def isPK(ks:FKd×FKd):AVal→Bool
 | .agg [x,y]=>isV ks.1 x&&isV ks.2 y
 | _=>false
def pFind(g:Nat→Option AObj)(ks:FKd×FKd)(k:AVal):List Ent→Nat→Option (Option (Nat×Ent))
 | [],_=>some none
 | e::r,i=>match pEqK g ks k e.1 with
  | some true=>some (some (i,e))
  | some false=>pFind g ks k r (i+1)
  | none=>none
inductive LaidK where
 | lit (len:Nat) (z:List AVal) (ofs:List (Nat×Nat))
 | map
 | mk (by_:Nat) (z:List AVal)
 | new (z:List AVal)
inductive HF where
 | mkMap
 | pLook (ks:FKd×FKd) (ok:Bool) (z:AVal)
 | pUpd (ks:FKd×FKd)
 | pDel (ks:FKd×FKd)
 | mLook (kc:KC) (ok:Bool) (z:AVal)
 | mf (f:MF)
 | clr (z:List AVal)
 | cpy (size:Nat)
 | strRange
 | strNext
 | mark
 | gIdx (g m n:Nat)
 | gLd (g:Nat) (agg:Bool) (n:Nat)
 | gFld (g off:Nat)
 | fill (b:Nat) (k:LaidK)
def aRange(H:AHeap):List AVal→Option (AVal×AHeap)
 | [.str s]=>some (.ptr (some ⟨H.next,0,0⟩),H.push (.iter s 0))
 | _=>none
def aNext(H:AHeap):List AVal→Option (AVal×AHeap)
 | [.ptr (some ⟨b,0,0⟩)]=>match H.get b with
  | some (.iter s pos)=>match nthB s pos with
   | none=>some (.tuple [.bool false],H)
   | some c=>bif Nat.ble 128 c.toNat then
     match Utf8.decode (strOf s) pos with
     | (r,n)=>some (.tuple [.bool true,.int .i64 (.ofNat pos),.int .i32 (.ofNat r)],H.set b (.iter s (pos+n)))
    else some (.tuple [.bool true,.int .i64 (.ofNat pos),.int .i32 (.ofNat c.toNat)],H.set b (.iter s (pos+1)))
  | _=>none
 | _=>none
def aMark(H:AHeap):List AVal→Option (AVal×AHeap)
 | [.slice (some a) n r]=>match H.get a.b with
  | some (.cells l low false _)=>some (.slice (some a) n r,H.set a.b (.cells l low false true))
  | _=>none
 | _=>none
def gPtr(H:AHeap)(g:Nat):Option AVal:=match H.get g with
 | some (.cells l _ true)=>some (.ptr (some ⟨g,l.length,0⟩))
 | _=>none
def aGIdx(g m n:Nat)(H:AHeap):List AVal→Option (AVal×AHeap)
 | [i]=>match gPtr H g with
  | some p=>match aIdxArr m n p i with
   | some v=>some (v,H)
   | none=>none
  | none=>none
 | _=>none
def aGLd(g:Nat)(agg:Bool)(n:Nat)(H:AHeap):List AVal→Option (AVal×AHeap)
 | []=>match gPtr H g with
  | some p=>match oLoad agg n H p with
   | some v=>some (v,H)
   | none=>none
  | none=>none
 | _=>none
def aGFld(g off:Nat)(H:AHeap):List AVal→Option (AVal×AHeap)
 | []=>match gPtr H g with
  | some p=>match aField off p with
   | some v=>some (v,H)
   | none=>none
  | none=>none
 | _=>none
def aMkMap(H:AHeap):List AVal→Option (AVal×AHeap)
 | []=>some (.map (some H.next),H.push (.map [] 0))
 | _=>none
def aMLook(kc:KC)(ok:Bool)(z:AVal)(H:AHeap):List AVal→Option (AVal×AHeap)
 | [.map none,k]=>bif isK kc k then some (mRet ok z false,H) else none
 | [.map (some r),k]=>match H.get r with
  | some (.map es _)=>match aLookE kc ok z es k with
   | some v=>some (v,H)
   | none=>none
  | _=>none
 | _=>none
def aPLookE(g:Nat→Option AObj)(ks:FKd×FKd)(ok:Bool)(z:AVal)(es:List Ent)(k:AVal):Option AVal:=bif isPK ks k then
  match pFind g ks k es 0 with
  | some (some (_,e))=>some (mRet ok e.2.1 true)
  | some none=>some (mRet ok z false)
  | none=>none
 else none
def aPLook(ks:FKd×FKd)(ok:Bool)(z:AVal)(H:AHeap):List AVal→Option (AVal×AHeap)
 | [.map (some r),k]=>match H.get r with
  | some (.map es _)=>match aPLookE H.get ks ok z es k with
   | some v=>some (v,H)
   | none=>none
  | _=>none
 | _=>none
def aPUpdE(g:Nat→Option AObj)(ks:FKd×FKd)(es:List Ent)(c:Nat)(k x:AVal):Option (List Ent×Nat):=bif isPK ks k then
  match pFind g ks k es 0 with
  | some (some (i,e))=>some (mSet es i (k,x,e.2.2),c)
  | some none=>some (es++[(k,x,c)],c+1)
  | none=>none
 else none
def aPUpd(ks:FKd×FKd)(H:AHeap):List AVal→Option (AVal×AHeap)
 | [.map (some r),k,x]=>match H.get r with
  | some (.map es c)=>match aPUpdE H.get ks es c k x with
   | some (es',c')=>some (.tuple [],H.set r (.map es' c'))
   | none=>none
  | _=>none
 | _=>none
def aPDelE(g:Nat→Option AObj)(ks:FKd×FKd)(es:List Ent)(c:Nat)(k:AVal):Option (List Ent×Nat):=bif isPK ks k then
  match pFind g ks k es 0 with
  | some (some (i,_))=>some (es.eraseIdx i,c)
  | some none=>some (es,c)
  | none=>none
 else none
def aPDel(ks:FKd×FKd)(H:AHeap):List AVal→Option (AVal×AHeap)
 | [.map (some r),k]=>match H.get r with
  | some (.map es c)=>match aPDelE H.get ks es c k with
   | some (es',c')=>some (.tuple [],H.set r (.map es' c'))
   | none=>none
  | _=>none
 | _=>none
def aMF(f:MF)(H:AHeap):List AVal→Option (AVal×AHeap)
 | .map (some r)::l=>match H.get r with
  | some (.map es c)=>match aMf f es c l with
   | some (v,es',c')=>some (v,H.set r (.map es' c'))
   | none=>none
  | _=>none
 | _=>none
def aClr(z:List AVal)(H:AHeap):List AVal→Option (AVal×AHeap)
 | [.slice none _ _]=>some (.tuple [],H)
 | [.slice (some a) n _]=>bif Nat.beq n 0 then some (.tuple [],H) else match wrCells H a (rep z n) with
  | some H'=>some (.tuple [],H')
  | none=>none
 | _=>none
def aCpy(size:Nat)(H:AHeap):List AVal→Option (AVal×AHeap)
 | [.slice so sl _,.slice xo xl _]=>
  bif Nat.beq (Nat.min xl sl) 0 then some (.int .i64 (.ofNat 0),H) else match so,xo with
  | some a,some b=>match rdCells H b (Nat.min xl sl*size) with
   | some l=>match wrCells H a l with
    | some H'=>some (.int .i64 (.ofNat (Nat.min xl sl)),H')
    | none=>none
   | none=>none
  | _,_=>none
 | _=>none
def zipP:List (Nat×Nat)→List AVal→List (Nat×Nat×AVal)
 | (o,n)::r,x::l=>(o,n,x)::zipP r l
 | _,_=>[]
def fillO(k:LaidK)(b:Nat)(l:List AVal):Option (AVal×AObj):=match k with
 | .lit len z ofs=>match aFill (rep z len) (zipP ofs l) with
  | some xs=>some (.slice (some ⟨b,xs.length,0⟩) len (.known len),.cells xs 0 false)
  | none=>none
 | .map=>match l with
  | []=>some (.map (some b),.map [] 0)
  | _=>none
 | .mk by_ z=>match l with
  | [x,y]=>match natOf x,natOf y with
   | some l,some c=>bif Nat.ble l c&&Nat.ble (by_*c) 281474976710656 then some (.slice (some ⟨b,(rep z c).length,0⟩) l (.known c),.cells (rep z c) 0 false) else none
   | _,_=>none
  | _=>none
 | .new z=>match l with
  | []=>some (.ptr (some ⟨b,z.length,0⟩),.cells z 0 false)
  | _=>none
def aFillB(k:LaidK)(b:Nat)(H:AHeap)(l:List AVal):Option (AVal×AHeap):=
 match H.get b with
 | some (.cells _ 0 false)=>match fillO k b l with
  | some p=>some (p.1,H.set b p.2)
  | none=>none
 | _=>none
def aHf:HF→AHeap→List AVal→Option (AVal×AHeap)
 | .fill b k,H,l=>aFillB k b H l
 | .mkMap,H,l=>aMkMap H l
 | .pLook ks ok z,H,l=>aPLook ks ok z H l
 | .pUpd ks,H,l=>aPUpd ks H l
 | .pDel ks,H,l=>aPDel ks H l
 | .mLook kc ok z,H,l=>aMLook kc ok z H l
 | .mf f,H,l=>aMF f H l
 | .clr z,H,l=>aClr z H l
 | .cpy n,H,l=>aCpy n H l
 | .strRange,H,l=>aRange H l
 | .strNext,H,l=>aNext H l
 | .mark,H,l=>aMark H l
 | .gIdx g m n,H,l=>aGIdx g m n H l
 | .gLd g a n,H,l=>aGLd g a n H l
 | .gFld g o,H,l=>aGFld g o H l
theorem iter_size(w:World)(s:ByteArray):(w.iter s 0).heap.size=w.heap.size+1:=by
 show (w.heap.push _).size=_
 simp
theorem iter_old(w:World)(s:ByteArray){i:Nat}(h:i<w.heap.size):(w.iter s 0).heap[i]?=w.heap[i]?:=by
 show (w.heap.push _)[i]?=_
 simp[Array.getElem?_push,Nat.ne_of_lt h]
theorem range_ok(R:Rel Prot w0 ρ H w){t:TypeId}(hu:P.underlying t=some .string){x y:AVal}{v:Value}(hx:VRel ρ x v)(h:aRange H [x]=some (y,H')):GoodV P Prot w0 ρ w (Instr.range t v) y H':=by
 unfold aRange at h
 split at h <;> first | (simp at h; done) | skip
 rename_i s heq
 simp only[List.cons.injEq,and_true]at heq
 subst heq
 simp only[sJ,pJ]at h
 obtain⟨rfl,rfl⟩:=h
 simp only[VRel]at hx
 subst hx
 have hrun:=run_range_string (P:=P) w t (strOf s) hu
 obtain⟨h1,h2⟩:=R.push' (w':=w.iter (strOf s) 0) rfl rfl rfl (iter_size w (strOf s)) (fun i hi=>iter_old w (strOf s) hi)
  (x:=.iter s 0) (o:=.stringIter (strOf s) 0) (lim:=0) (n:=0) (cl:=false) (World.iter_heap w (strOf s) 0) (by simp only[ORel]; exact⟨trivial,trivial⟩) rfl
 refine⟨_,_,_,h1,hrun,h2,?_⟩
 simp only[VRel]
 exact⟨_,upd_same _ _ _ _,Nat.zero_le _,rfl⟩
theorem next_ok(R:Rel Prot w0 ρ H w){t:TypeId}{x y:AVal}{v:Value}(hx:VRel ρ x v)(h:aNext H [x]=some (y,H')):GoodV P Prot w0 ρ w (Instr.next v true t) y H':=by
 unfold aNext at h
 split at h <;> first | (simp at h; done) | skip
 rename_i b heq
 simp only[List.cons.injEq,and_true]at heq
 subst heq
 simp only[VRel]at hx
 obtain⟨L,hL,hsh,rfl⟩:=hx
 have e0:0-L.sh=0:=om
 rw[e0]
 split at h <;> first | (simp at h; done) | skip
 rename_i s pos hH
 obtain⟨x,o,g1,g2,g3⟩:=R.obj _ _ _ hL
 rw[hH]at g1
 simp only[sJ]at g1
 subst g1
 simp only[ORel]at g3
 obtain⟨_,rfl⟩:=g3
 have turn:∀p,Rel Prot w0 ρ (H.set b (.iter s p)) (w.iterAt L.c (strOf s) p):=fun p=>by
  have hlt:L.c<w.heap.size:=(R.dom _ _ _ hL).2
  refine R.turn (w':=w.iterAt L.c (strOf s) p) (y:=.iter s p) hL hH rfl ⟨rfl,rfl,rfl,by simp[World.iterAt],fun i hi=>by simp[World.iterAt,Array.getElem?_setIfInBounds,Ne.symm hi]⟩ rfl fun l' L' h'=>?_
  obtain⟨x,o,k1,k2,k3⟩:=R.obj _ _ _ h'
  rw[hH]at k1
  simp only[sJ]at k1
  subst k1
  simp only[ORel]at k3
  obtain⟨rfl,rfl⟩:=k3
  rw[hL]at h'
  simp only[sJ]at h'
  subst h'
  exact⟨.stringIter (strOf s) p,by simp[World.iterAt,hlt],by simp only[ORel]; exact⟨trivial,trivial⟩⟩
 have hsz:(strOf s).size=s.length:=by simp[strOf,ByteArray.size]
 split at h
 ·rename_i hn
  rw[nthB_eq,List.getElem?_eq_none_iff]at hn
  simp only[sJ,pJ]at h
  obtain⟨rfl,rfl⟩:=h
  refine GoodV.pure R (v:=.tuple #[.bool false]) ?_ (by simp[VRel,VRels])
  have:¬pos<(strOf s).size:=om
  simp[Instr.next,getObj,Sem.run,g2,this]
 ·rename_i c hn
  rw[nthB_eq]at hn
  have hp:pos<s.length:=by
   rcases Nat.lt_or_ge pos s.length with h | h
   ·exact h
   ·rw[List.getElem?_eq_none h]at hn; simp at hn
  have hp':pos<(strOf s).size:=om
  have hrun:=Lib.run_next_any_at (P:=P) w L.c (strOf s) pos t g2 hp'
  cases hc:Nat.ble 128 c.toNat with
  | true=>
   rw[hc]at h
   simp only[cond_true,sJ,pJ]at h
   obtain⟨rfl,rfl⟩:=h
   exact⟨ρ,_,_,Pl.le_refl _,hrun,turn _,by simp[VRel,VRels]⟩
  | false=>
   rw[hc]at h
   simp only[cond_false,sJ,pJ]at h
   obtain⟨rfl,rfl⟩:=h
   have hb:(strOf s)[pos]'hp'=c:=by
    rw[List.getElem?_eq_getElem hp]at hn
    simp only[sJ]at hn
    rw[← hn]
    rfl
   have ha:((strOf s)[pos]'hp').toNat<128:=by
    rw[hb]
    have:¬128≤c.toNat:=fun e=>by rw[Nat.ble_eq_true_of_le e]at hc; simp at hc
    omega
   rw[decode_ascii _ _ hp' ha,hb]at hrun
   exact⟨ρ,_,_,Pl.le_refl _,hrun,turn _,by simp[VRel,VRels]⟩
theorem freeze_heap(w:World){c n lo hi:Nat}{C:Array Value}{e:TypeId}(h:w.heap[c]?=some (.cells C e (lo,hi))) :
  (w.freeze ⟨c,n,none⟩ 1).heap[c]?=some (.cells C e (if lo==hi then (n,n+1) else (min lo n,max hi (n+1))))∧But w (w.freeze ⟨c,n,none⟩ 1) c:=by
 constructor
 ·simp[World.freeze,Array.getElem?_modify,h]
 ·refine⟨rfl,rfl,rfl,by simp[World.freeze],fun i hi=>?_⟩
  simp only[World.freeze,Nat.one_ne_zero,if_false,Array.getElem?_modify]
  rw[if_neg (by simpa using fun e=>hi e.symm)]
theorem mark_ok(R:Rel Prot w0 ρ H w){t e:TypeId}(hu:P.underlying t=some (.slice e))(he:P.underlying e=some (.int .u8)){x y:AVal}{v:Value}(hx:VRel ρ x v)(h:aMark H [x]=some (y,H')):GoodV P Prot w0 ρ w (convert t t v) y H':=by
 unfold aMark at h
 split at h <;> first | (simp at h; done) | skip
 rename_i a n r heq
 simp only[List.cons.injEq,and_true]at heq
 subst heq
 split at h <;> first | (simp at h; done) | skip
 rename_i l low mk hH
 simp only[sJ,pJ]at h
 obtain⟨rfl,rfl⟩:=h
 obtain⟨L,off,c,hL,hsh,rfl,hlen,_⟩:=slice_off hx
 obtain⟨x,o,g1,g2,g3⟩:=R.obj _ _ _ hL
 rw[hH]at g1
 simp only[sJ]at g1
 subst g1
 simp only[ORel]at g3
 obtain⟨C,el,lo,hi,rfl,_,hfz,_,_⟩:=g3
 obtain⟨hf1,hf2,_⟩:=hfz trivial
 obtain⟨q1,q2⟩:=freeze_heap w (n:=C.size) g2
 have hrun:(convert t t (.slice (some ⟨L.c,off,none⟩) n c)).run P w=.ok (.slice (some ⟨L.c,off,none⟩) n c) (w.freeze ⟨L.c,C.size,none⟩ 1):=by
  simp[convert,run_underlying hu,run_underlying he,markStringish,World.shape?,g2,Result.andThen]
 refine⟨ρ,_,_,Pl.le_refl _,hrun,?_,hx⟩
 refine R.turn hL hH rfl q2 rfl fun l' L' h'=>?_
 obtain⟨x,o,k1,k2,k3⟩:=R.obj _ _ _ h'
 rw[hH]at k1
 simp only[sJ]at k1
 subst k1
 simp only[ORel]at k3 ⊢
 obtain⟨C',e',lo',hi',rfl,k4,k5,k6,k7⟩:=k3
 by_cases hcc:L'.c=L.c
 ·rw[hcc]at k2 ⊢
  rw[g2]at k2
  simp only[sJ,Obj.cells.injEq,pJ]at k2
  obtain⟨rfl,rfl,rfl,rfl⟩:=k2
  obtain⟨p,hp⟩:∃p:Nat×Nat,(if lo==hi then (C.size,C.size+1) else (min lo C.size,max hi (C.size+1)))=p:=⟨_,rfl⟩
  rw[hp]at q1
  obtain⟨p1,p2⟩:=p
  refine⟨_,q1,C,el,p1,p2,rfl,k4,?_,k6,k7⟩
  have hl:lo=hi∨C.size≤lo:=by
   rcases Nat.lt_or_ge lo C.size with h | h
   ·refine .inl ?_
    have:=hf1 lo h
    omega
   ·exact .inr h
  have hpp:C.size≤p1∧p1≤p2:=by
   split at hp
   ·simp only[pJ]at hp; omega
   ·rename_i hne
    simp only[beq_iff_eq]at hne
    simp only[pJ]at hp
    omega
  exact fun _=>⟨fun i hi=>om,hpp.2,fun e=>by simp at e⟩
 ·exact⟨_,(q2.rest _ hcc).trans k2,C',e',lo',hi',rfl,k4,fun h=>(k5 h).up,k6,k7⟩
theorem gPtr_rel(R:Rel Prot w0 ρ H w){g:Nat}{p:AVal}(h:gPtr H g=some p):VRel ρ p (.pointer (some ⟨g,0,none⟩)):=by
 unfold gPtr at h
 split at h
 ·rename_i l low hg
  simp only[sJ]at h
  subst h
  obtain⟨L,h1,h2,h3,_⟩:=R.glob _ _ _ hg
  simp only[VRel]
  exact⟨L,h1,om,by rw[h2,h3]⟩
 ·simp at h
end
end Go.Abs
namespace Go.Abs
mutual
def aeq:AVal→AVal→Bool
 | .bool a,.bool b=>a==b
 | .int k a,.int k' b=>decide (k=k')&&eqF a b
 | .str a,.str b=>a==b
 | .ptr none,.ptr none=>true
 | .ptr (some a),.ptr (some b)=>Nat.beq a.b b.b&&(Nat.beq a.lim b.lim&&Nat.beq a.o b.o)
 | .slice none n (.known c),.slice none m (.known d)=>Nat.beq n m&&Nat.beq c d
 | .slice (some a) n (.known c),.slice (some b) m (.known d)=>Nat.beq a.b b.b&&(Nat.beq a.lim b.lim&&(Nat.beq a.o b.o&&(Nat.beq n m&&Nat.beq c d)))
 | .slice (some a) n (.open_ c),.slice (some b) m (.open_ d)=>Nat.beq a.b b.b&&(Nat.beq a.lim b.lim&&(Nat.beq a.o b.o&&(Nat.beq n m&&Nat.beq c d)))
 | .map none,.map none=>true
 | .map (some a),.map (some b)=>Nat.beq a b
 | .nilFunc,.nilFunc=>true
 | .func (.func f) a b,.func (.func g) c d=>Nat.beq f g&&(aeqs a c&&aeqs b d)
 | .nilIface,.nilIface=>true
 | .iface t v,.iface u x=>Nat.beq t u&&aeq v x
 | .agg l,.agg m=>aeqs l m
 | .tuple l,.tuple m=>aeqs l m
 | .val (.slice (some a) n c),.val (.slice (some b) m d)=>decide (a=b)&&(Nat.beq n m&&Nat.beq c d)
 | _,_=>false
def aeqs:List AVal→List AVal→Bool
 | [],[]=>true
 | x::l,y::m=>aeq x y&&aeqs l m
 | _,_=>false
end
theorem nb{a b:Nat}(h:Nat.beq a b=true):a=b:=Nat.eq_of_beq_eq_true h
mutual
theorem aeq_ok:∀(x y:AVal),aeq x y=true→x=y:=by
 intro x y h
 unfold aeq at h
 split at h
 all_goals (try (simp only[Bool.false_eq_true]at h; done))
 ·simp at h; rw[h]
 ·simp only[Bool.and_eq_true,decide_eq_true_eq,eqF_eq,beq_iff_eq]at h; rw[h.1,h.2]
 ·simp at h; rw[h]
 ·rfl
 ·rename_i a b; obtain⟨a1,a2,a3⟩:=a; obtain⟨b1,b2,b3⟩:=b; simp only[Bool.and_eq_true]at h; obtain⟨h1,h2,h3⟩:=h; have:=nb h1; have:=nb h2; have:=nb h3; simp_all
 ·simp only[Bool.and_eq_true]at h; rw[nb h.1,nb h.2]
 ·rename_i a n c b m d; obtain⟨a1,a2,a3⟩:=a; obtain⟨b1,b2,b3⟩:=b; simp only[Bool.and_eq_true]at h; obtain⟨h1,h2,h3,h4,h5⟩:=h; have:=nb h1; have:=nb h2; have:=nb h3; have:=nb h4; have:=nb h5; simp_all
 ·rename_i a n c b m d; obtain⟨a1,a2,a3⟩:=a; obtain⟨b1,b2,b3⟩:=b; simp only[Bool.and_eq_true]at h; obtain⟨h1,h2,h3,h4,h5⟩:=h; have:=nb h1; have:=nb h2; have:=nb h3; have:=nb h4; have:=nb h5; simp_all
 ·rfl
 ·rw[nb h]
 ·rfl
 ·simp only[Bool.and_eq_true]at h; rw[nb h.1,aeqs_ok _ _ h.2.1,aeqs_ok _ _ h.2.2]
 ·rfl
 ·simp only[Bool.and_eq_true]at h; rw[nb h.1,aeq_ok _ _ h.2]
 ·rw[aeqs_ok _ _ h]
 ·rw[aeqs_ok _ _ h]
 ·simp only[Bool.and_eq_true,decide_eq_true_eq]at h; rw[h.1,nb h.2.1,nb h.2.2]
theorem aeqs_ok:∀(l m:List AVal),aeqs l m=true→l=m:=by
 intro l m h
 unfold aeqs at h
 split at h
 ·rfl
 ·simp only[Bool.and_eq_true]at h; rw[aeq_ok _ _ h.1,aeqs_ok _ _ h.2]
 ·simp at h
end
def isMp:Option (Nat×Nat)→Bool
 | some (1,0)=>true
 | _=>false
def clV(b:Nat)(z:List AVal):Option (Nat×Nat)→AVal
 | none=>.ptr (some ⟨b,z.length,0⟩)
 | some (l,c)=>bif isMp (some (l,c)) then .map (some b) else .slice (some ⟨b,z.length,0⟩) l (.known c)
def resO(z:List AVal)(s:Option (Nat×Nat)):AObj:=bif isMp s then .map [] 0 else .cells z 0 false
theorem mp_no{l c:Nat}(h:l≤c):isMp (some (l,c))=false:=by
 unfold isMp
 split
 ·rename_i e
  simp only[sJ,pJ]at e
  omega
 ·rfl
def aClaim(H:AHeap)(b:Nat)(z:List AVal)(s:Option (Nat×Nat)):Option AVal:=
 match H.get b with
 | some (.cells l 0 false)=>bif aeqs l z&&!isMp s then some (clV b z s) else none
 | some (.map [] 0)=>bif isMp s then some (clV b z s) else none
 | _=>none
theorem claim_spec{H:AHeap}{b:Nat}{z:List AVal}{s:Option (Nat×Nat)}{v:AVal}(h:aClaim H b z s=some v):H.get b=some (resO z s)∧v=clV b z s:=by
 unfold aClaim at h
 split at h
 ·rename_i l hl
  cases he:aeqs l z with
  | false=>rw[he]at h; simp at h
  | true=>
   cases hm:isMp s with
   | true=>rw[he,hm]at h; simp at h
   | false=>
    rw[he,hm]at h
    simp only[Bool.not_false,Bool.and_self,cond_true,sJ]at h
    exact⟨by rw[hl,aeqs_ok _ _ he,resO,hm]; rfl,h.symm⟩
 ·rename_i hl
  cases hm:isMp s with
  | false=>rw[hm]at h; simp at h
  | true=>
   rw[hm]at h
   simp only[cond_true,sJ]at h
   exact⟨by rw[hl,resO,hm]; rfl,h.symm⟩
 ·simp at h
end Go.Abs
