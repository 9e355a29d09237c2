/- Part of a proof (A7 A8 A8b A8c A8d A8e A8f); no condition. -/
import Derived.Laws.BytesString
import Derived.Lib.ConvBytes
import Derived.Lib.Bytealg
import Derived.Laws.Externs
import Derived.Laws.Small
import Derived.Laws.StructEq
import Derived.Lib.OthersKept
import Derived.ChangeKeysEq
import Derived.Laws.Sem
import Derived.MapKept
import Derived.Carry
import Derived.Test.YtacaginbdjepcaaGreatDoorP1
set_option linter.unusedSimpArgs false
set_option linter.unusedVariables false
set_option linter.unnecessarySimpa false
namespace Go.Abs
section
variable {P:Program} {Prot:Gh} {w0:World} {ρ:Pl} {H H':ae} {w:World}
def pO(l:List af)(off:Nat)(xs:List af):List af:=l.take off++(xs++l.drop (off+xs.length))
def k8:List af->List (Nat×Nat×af)->Option (List af)
 | cells,[]=>some cells
 | cells,(off,size,v)::r=>bif Nat.beq v.cells.length size&&Nat.ble (off+size) cells.length then k8 (pO cells off v.cells) r else none
theorem Dm(off:Nat):∀(l:List Value) (k:Nat) (C:Array Value),off+k+l.length<=C.size ->
  ((l.zipIdx k).foldl (fun (cs:Array Value) (p:Value×Nat)=>cs.setIfInBounds (off+p.2) p.1) C).size=C.size /\
  ∀j,((l.zipIdx k).foldl (fun (cs:Array Value) (p:Value×Nat)=>cs.setIfInBounds (off+p.2) p.1) C)[j]?=if off+k<=j/\j<off+k+l.length then l[j-(off+k)]? else C[j]?:=by
 intro l
 induction l with
 | nil=>intro k C _; refine⟨rfl,fun j=>?_⟩; rw[if_neg (by simp only[Pw]; omega)]; rfl
 | cons v l ih=>
  intro k C hb
  simp only[Pv]at hb
  simp only[List.zipIdx_cons,List.foldl_cons]
  obtain⟨h1,h2⟩:=ih (k+1) (C.setIfInBounds (off+k) v) (by rw[Array.size_setIfInBounds]; omega)
  refine⟨by rw[h1,Array.size_setIfInBounds],fun j=>?_⟩
  rw[h2 j]
  simp only[Pv]
  by_cases c1:off+(k+1)<=j/\j<off+(k+1)+l.length
  ·rw[if_pos c1,if_pos om,show j-(off+k)=(j-(off+(k+1)))+1 by omega]
   simp
  ·rw[if_neg c1]
   by_cases c2:j=off+k
   ·subst c2
    rw[if_pos om]
    have:off+k<C.size:=om
    simp[this]
   ·rw[if_neg om,Array.getElem?_setIfInBounds_ne om]
theorem yF{l xs:List af}{C:Array Value}{vs:Array Value}{off:Nat}(hl:ah ρ l C.toList)(hv:ah ρ xs vs.toList)(hb:off+xs.length<=l.length) :
  ah ρ (pO l off xs) (vs.zipIdx.foldl (fun (cs:Array Value) (p:Value×Nat)=>cs.setIfInBounds (off+p.2) p.1) C).toList:=by
 have e1:=ah.len hl
 have e2:=ah.len hv
 simp only[Array.length_toList]at e1 e2
 have hf:vs.zipIdx.foldl (fun (cs:Array Value) (p:Value×Nat)=>cs.setIfInBounds (off+p.2) p.1) C=(vs.toList.zipIdx 0).foldl (fun (cs:Array Value) (p:Value×Nat)=>cs.setIfInBounds (off+p.2) p.1) C:=by
  rw[<- Array.foldl_toList,Array.toList_zipIdx]
 rw[hf]
 obtain⟨h1,h2⟩:=Dm off vs.toList 0 C (by simp; omega)
 refine ah.of_nth _ _ (by simp only[Array.length_toList,h1,pO,lA,PO,PN]; omega) fun i x hx=>?_
 rw[Array.getElem?_toList,h2 i]
 simp only[Array.length_toList]
 unfold pO at hx
 by_cases c1:off+0<=i/\i<off+0+vs.size
 ·rw[if_pos c1]
  rw[PK (by simp; omega),PJ (by simp; omega)]at hx
  have:i-(l.take off).length=i-(off+0):=by simp; omega
  rw[this]at hx
  exact hv.nth _ _ hx
 ·rw[if_neg c1,<- Array.getElem?_toList]
  refine hl.nth _ _ ?_
  rw[<- hx]
  by_cases c2:i<off
  ·rw[PJ (by simp; omega),List.getElem?_take,if_pos c2]
  ·rw[PK (by simp; omega),PK (by simp; omega),List.getElem?_drop]
   congr 1
   simp
   omega
def dV(ρ:Pl)(place:Nat->Option (Nat×Nat)):List (Nat×Nat×af)->List (Nat×Value)->Prop
 | [],ps=>ps=[]
 | (off,size,x)::l,ps=>∃i v r,ps=(i,v)::r/\place i=some (off,size)/\ag ρ x v/\dV ρ place l r
theorem pg{place:Nat->Option (Nat×Nat)}:∀{ps:List (Nat×Nat×af)} {qs:List (Nat×Value)} {cells out:List af} {C:Array Value},dV ρ place ps qs->ah ρ cells C.toList ->
  k8 cells ps=some out->∃C',Instr.fill place C qs=some C'/\ah ρ out C'.toList:=by
 intro ps
 induction ps with
 | nil=>
  intro qs cells out C hp hc h
  simp only[dV]at hp
  subst hp
  simp only[k8,sJ]at h
  subst h
  exact⟨C,rfl,hc⟩
 | cons p ps ih=>
  intro qs cells out C hp hc h
  obtain⟨off,size,x⟩:=p
  simp only[dV]at hp
  obtain⟨i,v,r,rfl,hpl,hx,hr⟩:=hp
  simp only[k8]at h
  cases hg:(Nat.beq x.cells.length size&&Nat.ble (off+size) cells.length) with
  | false=>rw[hg]at h; simp at h
  | true=>
   rw[hg]at h
   simp only[Pu,Nat.ble_eq]at hg
   obtain⟨g1,g2⟩:=hg
   have g1:=Py g1
   simp only[cond_true]at h
   have hxc:=hx.cells
   have e1:=ah.len hxc
   have e2:=ah.len hc
   simp only[Array.length_toList]at e1 e2
   obtain⟨C',q1,q2⟩:=ih hr (yF hc hxc om) h
   refine⟨C',?_,q2⟩
   simp only[Instr.fill,hpl]
   rw[if_neg (by simp; omega)]
   exact q1
def Jh:Value->Option af
 | .bool b=>some (.bool b)
 | .int k n=>some (.int k n)
 | .string s=>some (.str s.data.toList)
 | .pointer none=>some (.ptr none)
 | .slice none 0 0=>some (.slice none 0 (.known 0))
 | .map none=>some (.map none)
 | .nilFunc=>some .nilFunc
 | .nilIface=>some .nilIface
 | _=>none
def qZ:List Value->Option (List af)
 | []=>some []
 | v::r=>match Jh v,qZ r with
  | some x,some l=>some (x::l)
  | _,_=>none
def Ji:Value->Option af
 | .agg cs=>match qZ cs.toList with
  | some l=>some (.agg l)
  | none=>none
 | .tuple cs=>match qZ cs.toList with
  | some l=>some (.tuple l)
  | none=>none
 | v=>Jh v
theorem Cn{v:Value}{x:af}(h:Jh v=some x):ag ρ x v:=by
 unfold Jh at h
 split at h <;> simp only[sJ,reduceCtorEq]at h <;> subst h <;> first
  | rfl
  | (simp[ag]; done)
theorem qY:∀{vs:List Value} {l:List af},qZ vs=some l->ah ρ l vs:=by
 intro vs
 induction vs with
 | nil=>intro l h; simp only[qZ,sJ]at h; subst h; simp[ah]
 | cons v r ih=>
  intro l h
  simp only[qZ]at h
  split at h
  ·rename_i x l' h1 h2
   simp only[sJ]at h
   subst h
   simp only[ah]
   exact⟨v,r,rfl,Cn h1,ih h2⟩
  ·simp at h
theorem Co{v:Value}{x:af}(h:Ji v=some x):ag ρ x v:=by
 unfold Ji at h
 split at h
 ·split at h
  ·rename_i l hl
   simp only[sJ]at h
   subst h
   simp only[ag]
   exact⟨_,rfl,qY hl⟩
  ·simp at h
 ·split at h
  ·rename_i l hl
   simp only[sJ]at h
   subst h
   simp only[ag]
   exact⟨_,rfl,qY hl⟩
  ·simp at h
 ·exact Cn h
def cB(P:Program)(t:TypeId):Option (List af):=
 match P.info? t with
 | some i=>match i.zero with
  | some z=>qZ z.cells.toList
  | none=>none
 | none=>none
theorem ge{t:TypeId}{l:List af}(h:cB P t=some l):∃z,(∀W,(zeroValue t).run P W=.ok z W)/\∀ρ,ah ρ l z.cells.toList:=by
 unfold cB at h
 split at h
 ·rename_i i hi
  split at h
  ·rename_i z hz
   exact⟨z,fun W=>by simp[zeroValue,run_typeInfo W hi,hz],fun ρ=>qY h⟩
  ·simp at h
 ·simp at h
theorem He(R:Rel Prot w0 ρ H w){t:TypeId}{l:List af}(h:cB P t=some l):dF P Prot w0 ρ w (Instr.alloc t true (.tuple #[])) (eR H l).1 (eR H l).2:=by
 obtain⟨z,h1,h2⟩:=ge h
 obtain⟨ρ',w',q1,q2,q3,q4⟩:=kE (P:=P) R t (h2 ρ)
 refine⟨ρ',w',.pointer (some ⟨w.heap.size,0,none⟩),q1,?_,q3,?_⟩
 ·simp only[Instr.alloc,Sem.run_bind,h1,Result.andThen_ok,newVar,q2]; rfl
 ·simp only[eR,ag]; exact⟨_,q4,Nat.zero_le _,rfl⟩
def me(z:List af):Nat->List af
 | 0=>[]
 | n+1=>z++me z n
theorem ma(z:List af):∀n,(me z n).length=n*z.length
 | 0=>by simp[me]
 | n+1=>by simp only[me,lA,ma z n,Nat.add_mul]; omega
theorem Bb(z:List af):∀(n i:Nat),i<n*z.length->(me z n)[i]?=z[i % z.length]?
 | 0,i,h=>om
 | n+1,i,h=>by
  simp only[me]
  by_cases hi:i<z.length
  ·rw[PJ hi,Nat.mod_eq_of_lt hi]
  ·have hle:z.length<=i:=om
   rw[PK hle,Bb z n _ (by rw[Nat.add_mul]at h; omega),Nat.mod_eq_sub_mod hle]
def cJ(z:Array Value)(n:Nat):Array Value:=(Array.range n).map (z[· % z.size]!)
theorem jX{z:List af}{Z:Array Value}(h:ah ρ z Z.toList)(c:Nat):ah ρ (me z c) (cJ Z (c*z.length)).toList:=by
 have hl:=ah.len h
 simp only[Array.length_toList]at hl
 refine ah.of_nth _ _ (by simp[ma,cJ]) fun i x hx=>?_
 have hi:i<c*z.length:=by
  have:=(Ps.1 hx).1
  rwa [ma]at this
 rw[Bb _ _ _ hi]at hx
 obtain⟨v,h1,h2⟩:=h.nth _ _ hx
 refine⟨v,?_,h2⟩
 rw[Array.getElem?_toList]at h1
 have hz:0<Z.size:=by
  rcases Nat.eq_zero_or_pos z.length with e | e
  ·rw[e]at hi; omega
  ·omega
 have hm:i % Z.size<Z.size:=Nat.mod_lt _ hz
 rw[hl,Array.getElem?_eq_getElem hm]at h1
 simp only[sJ]at h1
 simp only[cJ,Array.getElem?_toList,Array.getElem?_map]
 rw[Array.getElem?_range,if_pos hi]
 simp only[Option.map_some,sJ]
 rw[getElem!_pos Z _ hm]
 exact h1
def eq:af->Option Nat
 | .int .i64 (Int.ofNat n)=>bif Nat.ble n 9223372036854775807 then some n else none
 | _=>none
theorem mC{x:af}{n:Nat}(h:eq x=some n):x=.int .i64 (n:Int)/\n<=9223372036854775807:=by
 unfold eq at h
 split at h
 ·rename_i m
  cases hb:Nat.ble m 9223372036854775807 with
  | false=>rw[hb]at h; simp at h
  | true=>
   rw[hb]at h
   simp only[cond_true,sJ]at h
   subst h
   exact⟨rfl,Px hb⟩
 ·simp at h
theorem fM{n:Nat}(h:n<=9223372036854775807):IntKind.i64.wrap (n:Int)=n:=by
 simp[IntKind.wrap,IntKind.signed,IntKind.bits]; omega
def gO(bytes:Nat)(z:List af)(H:ae)(l c:af):Option (af×ae):=
 match eq l,eq c with
 | some l,some c=>
  bif Nat.ble l c&&Nat.ble (bytes*c) 281474976710656 then some (.slice (some ⟨H.next,(me z c).length,0⟩) l (.known c),H.push (.cells (me z c) 0 false)) else none
 | _,_=>none
theorem Iw(R:Rel Prot w0 ρ H w){sT elem:TypeId}{size bytes:Nat}{z:List af}(hu:P.underlying sT=some (.slice elem))(E:Hu P elem size bytes)(hz:cB P elem=some z)
  {l c y:af} {lv cv:Value} (hl:ag ρ l lv) (hc:ag ρ c cv) (h:gO bytes z H l c=some (y,H')):dF P Prot w0 ρ w (Instr.makeSlice sT lv cv) y H':=by
 unfold gO at h
 split at h
 ·rename_i ln cn hln hcn
  obtain⟨rfl,b1⟩:=mC hln
  obtain⟨rfl,b2⟩:=mC hcn
  cases hg:(Nat.ble ln cn&&Nat.ble (bytes*cn) 281474976710656) with
  | false=>rw[hg]at h; simp at h
  | true=>
   rw[hg]at h
   simp only[Pu,Nat.ble_eq]at hg
   simp only[cond_true,sJ,pJ]at h
   obtain⟨rfl,rfl⟩:=h
   simp only[ag]at hl hc
   subst hl hc
   obtain⟨i,zv,hi,rfl,rfl,hzero,hzs⟩:=E.ex
   obtain⟨zv',hzr,hzl⟩:=ge hz
   have hzv:zv'=zv:=by
    have:=hzr w
    simp[zeroValue,run_typeInfo w hi,hzero]at this
    exact this.symm
   subst hzv
   have hlen:=ah.len (hzl ρ)
   simp only[Array.length_toList,hzs]at hlen
   obtain⟨ρ',w',q1,q2,q3,q4⟩:=kE (P:=P) R elem (jX (hzl ρ) cn)
   have hnb:¬((281474976710656:Int)<(i.bytes:Int)*(cn:Int)):=by
    have:(i.bytes*cn:Nat)<=281474976710656:=hg.2
    rw[<- Int.natCast_mul]; omega
   have hcells:cJ zv'.cells (cn*i.size)=cJ zv'.cells (cn*z.length):=by rw[hlen]
   refine⟨ρ',w',.slice (some ⟨w.heap.size,0,none⟩) ln cn,q1,?_,q3,?_⟩
   ·have hsz:∀W,(sizeOf elem).run P W=.ok i.size W:=fun W=>by simp[sizeOf,run_typeInfo W hi]
    have e1:¬((cn:Int)<0):=om
    have e2:¬((ln:Int)<0):=om
    have e3:¬((cn:Int)<(ln:Int)):=om
    by_cases hn:cn*i.size=0
    ·have hm:cJ zv'.cells (cn*z.length)=#[]:=by rw[<- hcells,hn]; simp[cJ]
     rw[hm]at q2
     simp only[Instr.makeSlice,Sem.run_bind,run_underlying hu,Result.andThen_ok,asInt,asIntOf,Sem.run_pure,run_typeInfo _ hi,fM b1,fM b2]
     simp[e1,e2,e3,hnb,hsz,hn,show Array.range 0=#[] by simp,q2]
    ·simp only[Instr.makeSlice,Sem.run_bind,run_underlying hu,Result.andThen_ok,asInt,asIntOf,Sem.run_pure,run_typeInfo _ hi,fM b1,fM b2]
     rw[<- hcells]at q2
     unfold cJ at q2
     simp[e1,e2,e3,hnb,hsz,hn,hzr,q2]
   ·simp only[ag]
    exact⟨_,q4,Nat.zero_le _,hg.1,rfl⟩
 ·simp at h
def cf(len:Nat)(z:List af)(H:ae)(parts:List (Nat×Nat×af)):Option (af×ae):=
 match k8 (me z len) parts with
 | some xs=>some (.slice (some ⟨H.next,xs.length,0⟩) len (.known len),H.push (.cells xs 0 false))
 | none=>none
theorem Ao(R:Rel Prot w0 ρ H w){sT elem:TypeId}{size:Nat}{agg:Bool}{z:List af}(hu:P.underlying sT=some (.slice elem))(T:Ty P elem agg size)(hz:cB P elem=some z)
  (hzl:z.length=size) {len:Nat} (hsm:len*size<=16777216) {ps:List (Nat×Nat×af)} {qs:Array (Nat×Value)} (hp:dV ρ (fun i=>some (i*size,size)) ps qs.toList) {y:af}
  (h:cf len z H ps=some (y,H')):dF P Prot w0 ρ w (Instr.buildSlice sT len qs) y H':=by
 unfold cf at h
 split at h
 ·rename_i xs hxs
  simp only[sJ,pJ]at h
  obtain⟨rfl,rfl⟩:=h
  obtain⟨zv,hzr,hzl'⟩:=ge hz
  have hlen:=ah.len (hzl' ρ)
  simp only[Array.length_toList]at hlen
  obtain⟨C,f1,f2⟩:=pg hp (jX (hzl' ρ) len) hxs
  rw[hzl]at f1
  obtain⟨ρ',w',q1,q2,q3,q4⟩:=kE (P:=P) R elem f2
  have hsm':¬16777216<len*size:=om
  refine⟨ρ',w',.slice (some ⟨w.heap.size,0,none⟩) len len,q1,?_,q3,?_⟩
  ·by_cases hn:len*size=0
   ·have hm:cJ zv.cells (len*size)=#[]:=by rw[hn]; simp[cJ]
    rw[hm]at f1
    simp only[Instr.buildSlice,Sem.run_bind,run_underlying hu,Result.andThen_ok,T.size]
    simp[hn,show Array.range 0=#[] by simp,f1,q2]
   ·unfold cJ at f1
    simp only[Instr.buildSlice,Sem.run_bind,run_underlying hu,Result.andThen_ok,T.size]
    simp[hsm',hn,hzr,f1,q2]
  ·simp only[ag]
   exact⟨_,q4,Nat.zero_le _,Nat.le_refl _,rfl⟩
 ·simp at h
def cj(z:List af)(parts:List (Nat×Nat×af)):Option af:=
 match k8 z parts with
 | some xs=>some (.agg xs)
 | none=>none
theorem xM{t elem:TypeId}{n size:Nat}{agg:Bool}{z:List af}(hu:P.underlying t=some (.array n elem))(T:Ty P elem agg size)(hz:cB P t=some z)
  {ps:List (Nat×Nat×af)} {qs:Array (Nat×Value)} (hp:dV ρ (fun i=>some (i*size,size)) ps qs.toList) {y:af}
  (h:cj z ps=some y):∃u,(Instr.build t qs).run P w=.ok u w/\ag ρ y u:=by
 unfold cj at h
 split at h
 ·rename_i xs hxs
  simp only[sJ]at h
  subst h
  obtain⟨zv,hzr,hzl'⟩:=ge hz
  obtain⟨C,f1,f2⟩:=pg hp (hzl' ρ) hxs
  refine⟨.agg C,?_,by simp only[ag]; exact⟨C,rfl,f2⟩⟩
  simp only[Instr.build,Sem.run_bind,hzr,Result.andThen_ok,run_underlying hu,T.size]
  simp[f1]
 ·simp at h
def iS(P:Program):List Field->Option (List (Nat×Nat))
 | []=>some []
 | f::r=>match ez P f.type,iS P r with
  | some (_,n),some l=>some ((f.offset,n)::l)
  | _,_=>none
theorem yU:∀{fs:List Field} {l:List (Nat×Nat)},iS P fs=some l->∀W,(fs.mapM (fun f=>do pure (f.offset,<- sizeOf f.type)):Sem (List (Nat×Nat))).run P W=.ok l W:=by
 intro fs
 induction fs with
 | nil=>intro l h W; simp only[iS,sJ]at h; subst h; rfl
 | cons f r ih=>
  intro l h W
  simp only[iS]at h
  split at h
  ·rename_i a n l' h1 h2
   simp only[sJ]at h
   subst h
   simp only[List.mapM_cons,Sem.run_bind,(cQ h1).size,Result.andThen_ok,Sem.run_pure,ih h2]
  ·simp at h
theorem xL{t:TypeId}{co:Array Field}{pl:List (Nat×Nat)}{z:List af}(hu:P.underlying t=some (.struct co))(hpl:iS P co.toList=some pl)(hz:cB P t=some z)
  {ps:List (Nat×Nat×af)} {qs:Array (Nat×Value)} (hp:dV ρ (fun i=>pl[i]?) ps qs.toList) {y:af}
  (h:cj z ps=some y):∃u,(Instr.build t qs).run P w=.ok u w/\ag ρ y u:=by
 unfold cj at h
 split at h
 ·rename_i xs hxs
  simp only[sJ]at h
  subst h
  obtain⟨zv,hzr,hzl'⟩:=ge hz
  obtain⟨C,f1,f2⟩:=pg hp (hzl' ρ) hxs
  refine⟨.agg C,?_,by simp only[ag]; exact⟨C,rfl,f2⟩⟩
  have hm:(co.mapM (fun f=>do pure (f.offset,<- sizeOf f.type)):Sem (Array (Nat×Nat))).run P w=.ok pl.toArray w:=by
   rw[Array.mapM_eq_mapM_toList]
   simp only[Sem.run_map,yU hpl,Result.andThen_ok]
  simp only[Instr.build,Sem.run_bind,hzr,Result.andThen_ok,run_underlying hu,hm]
  simp only[List.getElem?_toArray]
  simp[f1]
 ·simp at h
def Ax:af->Option af
 | .str s=>some (.int .i64 s.length)
 | .slice _ n _=>some (.int .i64 n)
 | .val (.slice _ n _)=>some (.int .i64 n)
 | _=>none
theorem zF{T:TypeId}{t:TypeId}(_:Hq P T){x y:af}{v:Value}(hx:ag ρ x v)(h:Ax x=some y)(hk:(∃s,x=.str s/\P.underlying T=some .string)∨(∃a n r e,x=.slice a n r/\P.underlying T=some (.slice e))∨(∃a n c e,x=.val (.slice a n c)/\P.underlying T=some (.slice e))) :
  ∃u,(Builtin.len_ #[T] t #[v]).run P w=.ok u w/\ag ρ y u:=by
 rcases hk with⟨s,rfl,hu⟩ | ⟨a,n,r,e,rfl,hu⟩ | ⟨a,n,c,e,rfl,hu⟩
 ·simp only[Ax,sJ]at h
  subst h
  simp only[ag]at hx
  subst hx
  have e2:(aE s).size=s.length:=by simp[aE,ByteArray.size]
  exact⟨.int .i64 s.length,by simp[Builtin.len_,run_underlying hu,goInt,e2],rfl⟩
 ·simp only[Ax,sJ]at h
  subst h
  have key:∃base c,v=.slice base n c:=by
   cases a with
   | none=>simp only[ag]at hx; obtain⟨rfl,_,rfl⟩:=hx; exact⟨none,0,rfl⟩
   | some a=>obtain⟨L,off,c,_,_,rfl,h3,_⟩:=ci hx; exact⟨_,c,rfl⟩
  obtain⟨base,c,rfl⟩:=key
  exact⟨.int .i64 n,by simp[Builtin.len_,run_underlying hu,goInt],rfl⟩
 ·simp only[Ax,sJ]at h
  subst h
  simp only[ag]at hx
  obtain⟨rfl,_⟩:=hx
  exact⟨.int .i64 n,by simp[Builtin.len_,run_underlying hu,goInt],rfl⟩
end
end Go.Abs
namespace Go.Abs
section
variable {P:Program} {Prot:Gh} {w0:World} {ρ:Pl} {H H':ae} {w:World}
def oM(k:IntKind):af->Option af
 | .int _ n=>some (.int k (HA k n))
 | _=>none
theorem IZ{src dst:TypeId}{k:IntKind}{d:TypeDesc}(hs:P.underlying src=some d)(hu:P.underlying dst=some (.int k)){x y:af}{v:Value}(hx:ag ρ x v)(h:oM k x=some y)(w:World) :
  ∃u,(convert src dst v).run P w=.ok u w/\ag ρ y u:=by
 unfold oM at h
 simp only[lc]at h
 split at h
 ·rename_i k' n
  simp only[sJ]at h
  subst h
  simp only[ag]at hx
  subst hx
  exact⟨.int k (k.wrap n),by cases d <;> simp[convert,run_underlying hs,run_underlying hu,Conv.intToInt],rfl⟩
 ·simp at h
def Mk(H:ae):af->Option (af×ae)
 | .str s=>some (.slice (some ⟨H.next,s.length,0⟩) s.length (.open_ 1),H.push (.cells (s.map fun b=>.int .u8 b.toNat) 0 false))
 | _=>none
theorem MB(R:Rel Prot w0 ρ H w){src dst e:TypeId}{d:TypeDesc}(hs:P.underlying src=some d)(hd:P.underlying dst=some (.slice e))(he:P.underlying e=some (.int .u8))
  {x y:af} {v:Value} (hx:ag ρ x v) (h:Mk H x=some (y,H')):dF P Prot w0 ρ w (convert src dst v) y H':=by
 unfold Mk at h
 split at h
 ·rename_i s
  simp only[sJ,pJ]at h
  obtain⟨rfl,rfl⟩:=h
  simp only[ag]at hx
  subst hx
  have hrun:=Lib.run_convert_string_bytes (P:=P) w src dst e (aE s) hs hd he
  have e2:(aE s).size=s.length:=by simp[aE,ByteArray.size]
  rw[e2]at hrun
  have hcap:s.length<=grownCap w s.length 0 e:=by simp only[grownCap,Question.cut]; omega
  have hsz:(Lib.bytesCells w e (aE s)).size=grownCap w s.length 0 e:=by
   have:(aE s).data.size=s.length:=e2
   simp only[Lib.bytesCells,Array.size_append,Array.size_map,this,e2,Array.size_replicate]
   omega
  have hlen:(s.map fun b=>(af.int .u8 b.toNat)).length=s.length:=by simp
  obtain⟨h1,h2⟩:=R.push' (w':=Lib.bytesWorld w e (aE s)) rfl rfl rfl (Lib.bytesWorld_size _ _ _) (fun i hi=>Lib.bytesWorld_at_old _ _ _ _ hi)
   (x:=.cells (s.map fun b=>.int .u8 b.toNat) 0 false) (o:=.cells (Lib.bytesCells w e (aE s)) e ((Lib.bytesCells w e (aE s)).size,(Lib.bytesCells w e (aE s)).size+1))
   (lim:=s.length) (n:=grownCap w s.length 0 e) (cl:=false) (Lib.bytesWorld_at_new _ _ _) (by
    simp only[dy]
    refine⟨_,_,_,_,rfl,hsz,fun _=>⟨fun i hi=>om,by simp⟩,by simp,fun _ i i1 i2=>?_⟩
    simp only at i1
    have hb:s[i]?=some s[i]:=Pr i2
    refine⟨.int .u8 (s[i]).toNat,.int .u8 (s[i]).toNat,by simp[hb],?_,rfl⟩
    simp only[Lib.bytesCells]
    rw[Array.getElem?_append_left (by simp[aE]; omega)]
    simp[aE,hb]) rfl
  refine⟨_,_,_,h1,hrun,h2,?_⟩
  simp only[ag]
  refine⟨_,fN _ _ _ _,Nat.zero_le _,?_⟩
  exact⟨grownCap w s.length 0 e,0,rfl,hcap,om,.inl ⟨by simp,by simp only; omega,by simp only; omega⟩⟩
 ·simp at h
def bytesOf:List af->Option (List UInt8)
 | []=>some []
 | .int .u8 n::r=>match bytesOf r with
  | some l=>some (UInt8.ofNat n.toNat::l)
  | none=>none
 | _::_=>none
theorem An:∀{xs:List af} {vs:List Value} {l:List UInt8},ah ρ xs vs->bytesOf xs=some l->∃ns:List Int,vs=ns.map (Value.int .u8)/\l=ns.map fun n=>UInt8.ofNat n.toNat:=by
 intro xs
 induction xs with
 | nil=>intro vs l h1 h2; simp only[ah]at h1; subst h1; simp only[bytesOf,sJ]at h2; subst h2; exact⟨[],rfl,rfl⟩
 | cons x xs ih=>
  intro vs l h1 h2
  simp only[ah]at h1
  obtain⟨v,r,rfl,hv,hr⟩:=h1
  unfold bytesOf at h2
  split at h2
  ·rename_i heq; simp at heq
  ·rename_i n r' heq
   simp only[List.cons.injEq]at heq
   obtain⟨rfl,rfl⟩:=heq
   split at h2
   ·rename_i l' hl'
    simp only[sJ]at h2
    subst h2
    obtain⟨ns,rfl,rfl⟩:=ih hr hl'
    simp only[ag]at hv
    subst hv
    exact⟨n::ns,rfl,rfl⟩
   ·simp at h2
  ·simp at h2
theorem zQ(ns:List Int):∀s:ByteArray,(ns.foldl (fun r n=>r.push (UInt8.ofNat n.toNat)) s).data.toList=s.data.toList++ns.map fun n=>UInt8.ofNat n.toNat:=by
 induction ns with
 | nil=>intro s; simp
 | cons n ns ih=>intro s; simp only[List.foldl_cons,ih,List.map_cons]; simp[ByteArray.push]
def DL(H:ae):af->Option af
 | .slice none _ _=>some (.str [])
 | .val (.slice (some _) 0 0)=>some (.str [])
 | .slice (some a) n _=>match aT H a n with
  | some xs=>match bytesOf xs with
   | some l=>some (.str l)
   | none=>none
  | none=>none
 | _=>none
theorem M8(R:Rel Prot w0 ρ H w){src dst e:TypeId}(hs:P.underlying src=some (.slice e))(he:P.underlying e=some (.int .u8))(hd:P.underlying dst=some .string)
  {x y:af} {v:Value} (hx:ag ρ x v) (h:DL H x=some y):∃u,(convert src dst v).run P w=.ok u w/\ag ρ y u:=by
 unfold DL at h
 split at h
 ·simp only[sJ]at h
  subst h
  simp only[ag]at hx
  obtain⟨_,_,rfl⟩:=hx
  refine⟨.string ByteArray.empty,?_,by simp only[ag]; rfl⟩
  rw[run_convert_bytes_string w src dst e none 0 0 hs he hd]
  rfl
 ·simp only[sJ]at h
  subst h
  simp only[ag]at hx
  obtain⟨rfl,_⟩:=hx
  refine⟨.string ByteArray.empty,?_,by simp only[ag]; rfl⟩
  rw[run_convert_bytes_string w src dst e _ 0 0 hs he hd]
  exact run_bytesToString w _ 0 0 [] rfl
 ·rename_i a n r
  split at h
  ·rename_i xs hxs
   split at h
   ·rename_i l hl
    simp only[sJ]at h
    subst h
    obtain⟨L,off,c,h1,h2,rfl,h3,h4⟩:=ci hx
    obtain⟨vs,q1,q2,q3⟩:=lq (P:=P) R hxs h1 h2
    obtain⟨ns,e1,rfl⟩:=An q2 hl
    have hvs:vs=(ns.map (Value.int .u8)).toArray:=by rw[<- e1]
    refine⟨.string (ns.foldl (fun r n=>r.push (UInt8.ofNat n.toNat)) ByteArray.empty),?_,?_⟩
    ·rw[run_convert_bytes_string w src dst e _ _ _ hs he hd]
     refine run_bytesToString w _ n c ns ?_
     by_cases hn:n=0
     ·subst hn
      have:vs=#[]:=by simpa using q3
      rw[<- hvs,this]
      rfl
     ·have:=h4 om
      subst this
      rw[<- hvs]
      exact q1
    ·simp only[ag]
     congr 1
     have:=zQ ns ByteArray.empty
     unfold aE
     cases hx:ns.foldl (fun r n=>r.push (UInt8.ofNat n.toNat)) ByteArray.empty with | mk d=>
     rw[hx]at this
     congr 1
     exact Array.toList_inj.1 (by simpa using this)
   ·simp at h
  ·simp at h
 ·simp at h
def DV(op:UnOp):af->Option af
 | .int k n=>match op with
  | .neg=>some (.int k (HA k (0-n)))
  | .xor=>some (.int k (k.wrap (BitVec.ofInt k.bits (if k.signed then -1 else k.max) ^^^ BitVec.ofInt k.bits n).toNat))
  | _=>none
 | .bool b=>match op with
  | .not=>some (.bool (!b))
  | _=>none
 | _=>none
theorem Mx{op:UnOp}{x y:af}{v:Value}(hx:ag ρ x v)(h:DV op x=some y)(w:World):∃u,(Op.unary op v).run P w=.ok u w/\ag ρ y u:=by
 unfold DV at h
 simp only[lc]at h
 split at h
 ·simp only[ag]at hx
  subst hx
  split at h <;> simp only[sJ,reduceCtorEq]at h
  all_goals
   subst h
   exact⟨_,by simp[Op.unary,Op.intArith,Op.intBits],rfl⟩
 ·simp only[ag]at hx
  subst hx
  split at h <;> simp only[sJ,reduceCtorEq]at h
  subst h
  exact⟨_,rfl,rfl⟩
 ·simp at h
end
end Go.Abs
namespace Go.Abs
section
variable {P:Program} {ρ:Pl} {w:World}
inductive Js where
 | bool | ptr | slice | map | func | iface (const:Bool)
def ec:Js->af->af->Option Bool
 | .bool,.bool a,.bool b=>some (a==b)
 | .ptr,.ptr none,.ptr none=>some true
 | .ptr,.ptr none,.ptr (some _)=>some false
 | .ptr,.ptr (some _),.ptr none=>some false
 | .ptr,.ptr (some a),.ptr (some b)=>bif Nat.beq a.b b.b&&Nat.beq a.lim b.lim then some (Nat.beq a.o b.o) else none
 | .slice,.slice none _ _,.slice none _ _=>some true
 | .slice,.slice none _ _,.slice (some _) _ _=>some false
 | .slice,.slice (some _) _ _,.slice none _ _=>some false
 | .map,.map none,.map none=>some true
 | .map,.map none,.map (some _)=>some false
 | .map,.map (some _),.map none=>some false
 | .func,.nilFunc,.nilFunc=>some true
 | .func,.nilFunc,.func _ _ _=>some false
 | .func,.func _ _ _,.nilFunc=>some false
 | .iface _,.nilIface,.iface _ _=>some false
 | .iface _,.iface _ _,.nilIface=>some false
 | .iface c,.nilIface,.nilIface=>bif c then some true else none
 | _,_,_=>none
def KV:Operand->Bool
 | .const _=>true
 | _=>false
def oI(P:Program)(t:TypeId)(x y:Operand):Option Js:=
 match P.underlying t with
 | some .bool=>some .bool
 | some (.pointer e)=>match ez P e with
  | some (_,n)=>bif Nat.beq n 0 then none else some .ptr
  | none=>none
 | some (.slice _)=>some .slice
 | some (.map _ _)=>some .map
 | some (.func _ _ _)=>some .func
 | some (.interface _)=>some (.iface (KV x||KV y))
 | _=>none
theorem hZ{a:Option Ad}{n:Nat}{r:rR}{v:Value}(h:ag ρ (.slice a n r) v):∃b m c,v=.slice b m c/\b.isNone=a.isNone:=by
 cases a with
 | none=>simp only[ag]at h; exact⟨none,0,0,h.2.2,rfl⟩
 | some a=>obtain⟨_,_,_,_,_,h3,_⟩:=ci h; exact⟨_,_,_,h3,rfl⟩
theorem zY{t:TypeId}{x y:Operand}{k:Js}(hk:oI P t x y=some k){p q:af}{u v:Value}(hp:ag ρ p u)(hq:ag ρ q v){b:Bool}(h:ec k p q=some b)(d:Nat):(Op.equalIn (d+1) t u v).run P w=.ok b w:=by
 unfold oI at hk
 split at hk
 ·rename_i hu
  simp only[sJ]at hk; subst hk
  cases p <;> cases q <;> simp only[ec,sJ,reduceCtorEq]at h
  simp only[ag]at hp hq
  subst hp hq h
  simp[Op.equalIn,run_underlying hu]
 ·rename_i e hu
  split at hk
  ·rename_i g n hn
   cases hb:Nat.beq n 0 with
   | true=>rw[hb]at hk; simp at hk
   | false=>
    rw[hb]at hk
    simp only[cond_false,sJ]at hk; subst hk
    have hn0:n≠0:=fun e=>by rw[e]at hb; simp at hb
    have hs:=(cQ hn).size
    cases p <;> cases q <;> simp only[ec,sJ,reduceCtorEq]at h
    rename_i a c
    cases a with
    | none=>
     simp only[ag]at hp
     subst hp
     cases c with
     | none=>simp only[ag]at hq; subst hq; simp only[ec,sJ]at h; subst h; simp[Op.equalIn,run_underlying hu]
     | some c=>simp only[ag]at hq; obtain⟨L,_,_,rfl⟩:=hq; simp only[ec,sJ]at h; subst h; simp[Op.equalIn,run_underlying hu]
    | some a=>
     simp only[ag]at hp
     obtain⟨L,l1,l2,rfl⟩:=hp
     cases c with
     | none=>simp only[ag]at hq; subst hq; simp only[ec,sJ]at h; subst h; simp[Op.equalIn,run_underlying hu]
     | some c=>
      simp only[ag]at hq
      obtain⟨M,m1,m2,rfl⟩:=hq
      simp only[ec]at h
      cases hg:(Nat.beq a.b c.b&&Nat.beq a.lim c.lim) with
      | false=>rw[hg]at h; simp at h
      | true=>
       rw[hg]at h
       simp only[Pu]at hg
       simp only[cond_true,sJ]at h
       subst h
       rw[Py hg.1,Py hg.2,m1]at l1
       obtain rfl:=(sJ _ _).mp l1
       have e:((⟨M.c,a.o-M.sh,none⟩:Addr)==⟨M.c,c.o-M.sh,none⟩)=Nat.beq a.o c.o:=by
        rw[dM]
        have:((⟨M.c,a.o-M.sh,none⟩:Addr)==⟨M.c,c.o-M.sh,none⟩)=decide ((⟨M.c,a.o-M.sh,none⟩:Addr)=⟨M.c,c.o-M.sh,none⟩):=by
         by_cases h:(⟨M.c,a.o-M.sh,none⟩:Addr)=⟨M.c,c.o-M.sh,none⟩ <;> simp[h]
        rw[this]
        congr 1
        simp only[Addr.mk.injEq,true_and,and_true,eq_iff_iff]
        omega
       simp[Op.equalIn,run_underlying hu,hs,hn0,sameAddr,e]
  ·simp at hk
 ·rename_i e hu
  simp only[sJ]at hk; subst hk
  cases p <;> cases q <;> simp only[ec,sJ,reduceCtorEq]at h
  rename_i a n r c m s
  obtain⟨b1,m1,c1,rfl,e1⟩:=hZ hp
  obtain⟨b2,m2,c2,rfl,e2⟩:=hZ hq
  cases a <;> cases c <;> cases b1 <;> cases b2 <;> simp only[Option.isNone_none,Option.isNone_some,reduceCtorEq,PD,Bool.true_eq_false]at e1 e2 <;>
   simp only[ec,sJ,reduceCtorEq]at h <;> subst h <;> simp[Op.equalIn,run_underlying hu]
 ·rename_i e1 e2 hu
  simp only[sJ]at hk; subst hk
  cases p <;> cases q <;> simp only[ec,sJ,reduceCtorEq]at h
  rename_i a c
  cases a <;> cases c <;> simp only[ag]at hp hq <;> simp only[ec,sJ,reduceCtorEq]at h
  ·subst hp hq h; simp[Op.equalIn,run_underlying hu]
  ·obtain⟨_,_,rfl⟩:=hq; subst hp h; simp[Op.equalIn,run_underlying hu]
  ·obtain⟨_,_,rfl⟩:=hp; subst hq h; simp[Op.equalIn,run_underlying hu]
 ·rename_i e1 e2 e3 hu
  simp only[sJ]at hk; subst hk
  cases p <;> cases q <;> simp only[ec,sJ,reduceCtorEq]at h <;> simp only[ag]at hp hq
  ·obtain⟨_,_,rfl,_⟩:=hp; subst hq h; simp[Op.equalIn,run_underlying hu]
  ·obtain⟨_,_,rfl,_⟩:=hq; subst hp h; simp[Op.equalIn,run_underlying hu]
  ·subst hp hq h; simp[Op.equalIn,run_underlying hu]
 ·rename_i e hu
  simp only[sJ]at hk; subst hk
  cases p <;> cases q <;> simp only[ec,sJ,reduceCtorEq]at h <;> simp only[ag]at hp hq
  ·obtain⟨_,rfl,_⟩:=hp; subst hq h; simp[Op.equalIn,run_underlying hu]
  ·obtain⟨_,rfl,_⟩:=hq; subst hp h; simp[Op.equalIn,run_underlying hu]
  ·subst hp hq
   cases hc:(KV x||KV y) with
   | false=>rw[hc]at h; simp[ec]at h
   | true=>
    rw[hc]at h
    simp only[ec,cond_true,sJ]at h
    subst h
    simp[Op.equalIn,run_underlying hu]
 ·simp at hk
theorem Gr{t:TypeId}{x y:Operand}{k:Js}(hk:oI P t x y=some k){p q:af}{u v:Value}(hp:ag ρ p u)(hq:ag ρ q v){b:Bool}(h:ec k p q=some b):(Op.equal t u v).run P w=.ok b w:=
 zY hk hp hq h 9999
theorem IV{k:Js}{p q:af}{u v:Value}(hp:ag ρ p u)(hq:ag ρ q v){b:Bool}(h:ec k p q=some b)(t:TypeId) :
  binOp .eql t u v=(do pure (.bool (<- Op.equal t u v)))/\binOp .neq t u v=(do pure (.bool (!(<- Op.equal t u v)))):=by
 cases p with
 | bool a=>simp only[ag]at hp; subst hp; cases v <;> exact⟨rfl,rfl⟩
 | int=>cases k <;> simp[ec]at h
 | str=>cases k <;> simp[ec]at h
 | agg=>cases k <;> simp[ec]at h
 | tuple=>cases k <;> simp[ec]at h
 | val=>cases k <;> simp[ec]at h
 | ptr a=>cases a <;> simp only[ag]at hp <;> first | (subst hp; cases v <;> exact⟨rfl,rfl⟩) | (obtain⟨_,_,_,rfl⟩:=hp; cases v <;> exact⟨rfl,rfl⟩)
 | slice a n r=>obtain⟨_,_,_,rfl,_⟩:=hZ hp; cases v <;> exact⟨rfl,rfl⟩
 | map a=>cases a <;> simp only[ag]at hp <;> first | (subst hp; cases v <;> exact⟨rfl,rfl⟩) | (obtain⟨_,_,rfl⟩:=hp; cases v <;> exact⟨rfl,rfl⟩)
 | func=>simp only[ag]at hp; obtain⟨_,_,rfl,_⟩:=hp; cases v <;> exact⟨rfl,rfl⟩
 | nilFunc=>simp only[ag]at hp; subst hp; cases v <;> exact⟨rfl,rfl⟩
 | iface=>simp only[ag]at hp; obtain⟨_,rfl,_⟩:=hp; cases v <;> exact⟨rfl,rfl⟩
 | nilIface=>simp only[ag]at hp; subst hp; cases v <;> exact⟨rfl,rfl⟩
theorem tA{k:Js}{p q:af}{u v:Value}{x y:Operand}{t:TypeId}(hk:oI P t x y=some k)(hp:ag ρ p u)(hq:ag ρ q v){b:Bool}(h:ec k p q=some b)(op:BinOp) :
  (eqGuard op t x y u v).run P w=.ok () w:=by
 cases p with
 | bool a=>simp only[ag]at hp; subst hp; cases op <;> rfl
 | int=>cases k <;> simp[ec]at h
 | str=>cases k <;> simp[ec]at h
 | agg=>cases k <;> simp[ec]at h
 | tuple=>cases k <;> simp[ec]at h
 | val=>cases k <;> simp[ec]at h
 | ptr a=>cases a <;> simp only[ag]at hp <;> first | (subst hp; cases op <;> rfl) | (obtain⟨_,_,_,rfl⟩:=hp; cases op <;> rfl)
 | slice a n r=>obtain⟨_,_,_,rfl,_⟩:=hZ hp; cases op <;> rfl
 | map a=>cases a <;> simp only[ag]at hp <;> first | (subst hp; cases op <;> rfl) | (obtain⟨_,_,rfl⟩:=hp; cases op <;> rfl)
 | func=>simp only[ag]at hp; obtain⟨_,_,rfl,_⟩:=hp; cases op <;> rfl
 | nilFunc=>simp only[ag]at hp; subst hp; cases op <;> rfl
 | iface=>simp only[ag]at hp; obtain⟨_,rfl,_⟩:=hp; cases op <;> rfl
 | nilIface=>
  simp only[ag]at hp
  subst hp
  cases q with
  | nilIface=>
   simp only[ag]at hq
   subst hq
   cases k with
   | iface c=>
    cases c with
    | false=>simp[ec]at h
    | true=>
     have hc:(KV x||KV y)=true:=by
      unfold oI at hk
      split at hk <;> first | (simp at hk; done) | skip
      ·split at hk <;> first | (simp at hk; done) | skip
       rename_i n _
       cases hb:Nat.beq n 0 <;> rw[hb]at hk <;> simp at hk
      ·simpa using hk
     clear hk
     cases op <;> first | rfl | (cases x <;> cases y <;> first | rfl | (simp[KV]at hc))
   | _=>simp[ec]at h
  | iface=>simp only[ag]at hq; obtain⟨_,rfl,_⟩:=hq; cases op <;> rfl
  | _=>cases k <;> simp[ec]at h
theorem Gq{op:BinOp}(ho:op=.eql∨op=.neq){t:TypeId}{x y:Operand}{k:Js}(hk:oI P t x y=some k){p q:af}{u v:Value}(hp:ag ρ p u)(hq:ag ρ q v){b:Bool}(h:ec k p q=some b) :
  (do eqGuard op t x y u v; binOp op t u v:Sem Value).run P w=.ok (.bool (match op with | .eql=>b | _=>!b)) w:=by
 have he:=Gr (w:=w) hk hp hq h
 obtain⟨e1,e2⟩:=IV hp hq h t
 rcases ho with rfl | rfl
 ·simp only[Sem.run_bind,tA hk hp hq h,Result.andThen_ok,e1,he]; rfl
 ·simp only[Sem.run_bind,tA hk hp hq h,Result.andThen_ok,e2,he]; rfl
end
end Go.Abs
namespace Go.Abs
section
variable {P:Program} {ρ:Pl} {w:World}
inductive FK where
 | int | str | bool
def xf:af->af->Option Bool
 | .int k a,.int k' b=>if k=k' then some (HC a b) else none
 | _,_=>none
def xd:af->af->Option Bool
 | .str a,.str b=>some (a==b)
 | _,_=>none
def MS:af->af->Option Bool
 | .bool a,.bool b=>some (a==b)
 | _,_=>none
def HB:FK->af->af->Option Bool
 | .int,x,y=>xf x y
 | .str,x,y=>xd x y
 | .bool,x,y=>MS x y
def cV:List (Nat×FK)->List af->List af->Option Bool
 | [],_,_=>some true
 | (o,k)::r,l,m=>match l[o]?,m[o]? with
  | some x,some y=>match HB k x y with
   | some true=>cV r l m
   | some false=>some false
   | none=>none
  | _,_=>none
def Dn(P:Program)(t:TypeId):Option FK:=
 match P.underlying t with
 | some (.int _)=>some .int
 | some .string=>some .str
 | some .bool=>some .bool
 | _=>none
def qu(P:Program):List Field->Option (List (Nat×FK))
 | []=>some []
 | f::r => bif f.name == "_" then none else match Dn P f.type, ez P f.type, qu P r with
  | some k,some (false,_),some l=>some ((f.offset,k)::l)
  | _,_,_=>none
def Gs(P:Program)(t:TypeId):Option (List (Nat×FK)):=
 match P.underlying t with
 | some (.struct fs)=>bif P.stoodInHeld t||P.eqGuardType P.depth t then none else qu P fs.toList
 | _=>none
theorem CB(a b:List UInt8):(aE a==aE b)=(a==b):=by
 have:(aE a==aE b)=(a.toArray==b.toArray):=rfl
 rw[this]
 by_cases h:a=b
 ·subst h; simp
 ·have:a.toArray≠b.toArray:=fun e=>h (by simpa using congrArg Array.toList e)
  simp[h]
theorem nN{t:TypeId}{k:FK}(hk:Dn P t=some k){x y:af}{u v:Value}(hx:ag ρ x u)(hy:ag ρ y v){b:Bool}(h:HB k x y=some b)(d:Nat):(Op.equalIn (d+1) t u v).run P w=.ok b w:=by
 unfold Dn at hk
 split at hk <;> simp only[sJ,reduceCtorEq]at hk <;> subst hk <;> rename_i hu <;> simp only[HB]at h
 ·unfold xf at h
  split at h
  ·rename_i k' a k'' b'
   split at h
   ·rename_i hkk
    simp only[sJ]at h
    simp only[ag]at hx hy
    subst hx hy h hkk
    simp[Op.equalIn,run_underlying hu,fB]
   ·simp at h
  ·simp at h
 ·unfold xd at h
  split at h
  ·simp only[sJ]at h
   simp only[ag]at hx hy
   subst hx hy h
   simp[Op.equalIn,run_underlying hu,CB]
  ·simp at h
 ·unfold MS at h
  split at h
  ·simp only[sJ]at h
   simp only[ag]at hx hy
   subst hx hy h
   simp[Op.equalIn,run_underlying hu]
  ·simp at h
theorem BI:∀{fs:List Field} {ks:List (Nat×FK)},qu P fs=some ks->∀{l m:List af} {xs ys:Array Value},ah ρ l xs.toList->ah ρ m ys.toList->∀{b:Bool},cV ks l m=some b->∀d,(Op.eqFields (d+1) xs ys fs).run P w=.ok b w
 | [],ks,hk,l,m,xs,ys,hx,hy,b,h,d=>by
  simp only[qu,sJ]at hk
  subst hk
  simp only[cV,sJ]at h
  subst h
  rfl
 | f::fs,ks,hk,l,m,xs,ys,hx,hy,b,h,d=>by
  simp only[qu]at hk
  cases hn : (f.name == "_") with
  | true=>rw[hn]at hk; simp at hk
  | false=>
   rw[hn]at hk
   simp only[cond_false]at hk
   split at hk
   ·rename_i k n ks' h1 h2 h3
    simp only[sJ]at hk
    subst hk
    simp only[cV]at h
    have hne : f.name ≠ "_" := by simpa using hn
    split at h
    ·rename_i x y gx gy
     have p1:fU false n f.offset l=some x:=by simpa[fU] using gx
     have p2:fU false n f.offset m=some y:=by simpa[fU] using gy
     obtain⟨u,u1,u2⟩:=dX (P:=P) (w:=w) (cQ h2) hx p1
     obtain⟨v,v1,v2⟩:=dX (P:=P) (w:=w) (cQ h2) hy p2
     simp only[Op.eqFields,hne,ne_eq,not_false_eq_true,if_true,Sem.run_bind,u1,v1,Result.andThen_ok]
     split at h
     ·rename_i hb
      rw[nN h1 u2 v2 hb d]
      simp only[Result.andThen_ok,Bool.not_true,PD,if_false]
      exact BI h3 hx hy h d
     ·rename_i hb
      simp only[sJ]at h
      subst h
      rw[nN h1 u2 v2 hb d]
      simp
     ·simp at h
    ·simp at h
   ·simp at hk
theorem Ll{op:BinOp}(ho:op=.eql∨op=.neq){t:TypeId}{x y:Operand}{ks:List (Nat×FK)}(hk:Gs P t=some ks){l m:List af}{u v:Value}(hp:ag ρ (.agg l) u)(hq:ag ρ (.agg m) v){b:Bool}(h:cV ks l m=some b) :
  (do eqGuard op t x y u v; binOp op t u v:Sem Value).run P w=.ok (.bool (match op with | .eql=>b | _=>!b)) w:=by
 unfold Gs at hk
 split at hk
 ·rename_i fs hu
  cases hg:(P.stoodInHeld t||P.eqGuardType P.depth t) with
  | true=>rw[hg]at hk; simp at hk
  | false=>
   rw[hg]at hk
   simp only[cond_false]at hk
   rw[Bool.or_eq_false_iff]at hg
   simp only[ag]at hp hq
   obtain⟨xs,rfl,hx⟩:=hp
   obtain⟨ys,rfl,hy⟩:=hq
   have hfo:P.fieldsOf t=fs:=by simp[Program.fieldsOf,hu]
   have he:(Op.equalIn 10000 t (.agg xs) (.agg ys)).run P w=.ok b w:=by
    have:=run_equalIn_struct (P:=P) w 9999 t xs ys (by rw[hfo]; exact hu) hg.1
    rw[this,hfo]
    exact BI hk hx hy h 9998
   rcases ho with rfl | rfl
   ·simp only[Sem.run_bind,run_eqGuard_agg w _ t x y xs ys hg.2,Result.andThen_ok,run_eql_struct,he]
   ·simp only[Sem.run_bind,run_eqGuard_agg w _ t x y xs ys hg.2,Result.andThen_ok,run_neq_struct,he]
 ·simp at hk
inductive PF where
 | eqv (neg:Bool) (k:Js)
 | eqS (neg:Bool) (fs:List (Nat×FK))
 | mm (great:Bool)
 | ibs
 | cbs
 | s2a (n:Nat)
 | isP
 | mkP
 | unP
 | isU
 | capt (i:Nat)
 | tup
 | dset
 | isF (g k:Nat)
 | tAss (t:Nat) (ok:Bool) (z:af)
 | apart
def Jl(great:Bool):af->af->Option af
 | .int k x,.int _ y=>some (.int k (bif (bif great then JP x y else JP y x) then y else x))
 | _,_=>none
def Ml(great:Bool):af->List af->Option af
 | x,[]=>some x
 | x,y::r=>match Jl great x y with
  | some z=>Ml great z r
  | none=>none
def wT(c:UInt8):List UInt8->Nat->Int
 | [],_=>.negSucc 0
 | b::r,n=>bif Nat.beq b.toNat c.toNat then .ofNat n else wT c r (n+1)
def LV:List af->Option af
 | [.str s,.int .u8 (.ofNat c)]=>some (.int .i64 (wT c.toUInt8 s 0))
 | _=>none
def HD(c:Nat):List UInt8->Nat->Nat
 | [],n=>n
 | b::r,n=>bif Nat.beq b.toNat c then HD c r (n+1) else HD c r n
def LZ:List af->Option af
 | [.str s,.int .u8 (.ofNat c)]=>bif Nat.ble c 255 then some (.int .i64 (.ofNat (HD c s 0))) else none
 | _=>none
theorem Ak(c:UInt8):∀(l:List UInt8) (n:Nat),HD c.toNat l n=n+l.count c
 | [],n=>by simp[HD]
 | b::r,n=>by
  simp only[HD,List.count_cons]
  have e:Nat.beq b.toNat c.toNat=(b==c):=by
   rw[dM,Bool.eq_iff_iff,PE,beq_iff_eq]
   exact UInt8.toNat_inj
  rw[e]
  cases h:b==c with
  | true=>rw[cond_true,Ak c r]; simp; omega
  | false=>rw[cond_false,Ak c r]; simp
def LW(neg:Bool)(k:Js):List af->Option af
 | [x,y]=>match ec k x y with
  | some b=>some (.bool (bif neg then !b else b))
  | none=>none
 | _=>none
def Jk(g:Bool):List af->Option af
 | x::r=>Ml g x r
 | []=>none
def mZ(neg:Bool)(fs:List (Nat×FK)):List af->Option af
 | [.agg l,.agg m]=>match cV fs l m with
  | some b=>some (.bool (bif neg then !b else b))
  | none=>none
 | _=>none
def LR(n:Nat):List af->Option af
 | [.slice (some a) len _]=>bif Nat.ble n len&&Nat.blt 0 n then some (.ptr (some a)) else none
 | _=>none
def jQ(x:af):af:=.func (.func 0) [.val (.bool false)] [x]
def eT:af->Bool
 | .func (.func 0) [.val (.bool false)] [_]=>true
 | _=>false
def LT:List af->Option af
 | [x]=>some (.bool (eT x))
 | _=>none
def Nj:List af->Option af
 | [.iface t x]=>some (jQ (.iface t x))
 | _=>none
def Jj:List af->Option af
 | [.tuple []]=>some .nilIface
 | [.func (.func 0) [.val (.bool false)] [x]]=>some x
 | _=>none
def isU:af->Bool
 | .tuple []=>true
 | _=>false
def Jm:List af->Option af
 | [x]=>some (.bool (isU x))
 | _=>none
def Kk(i:Nat):List af->Option af
 | [.func _ [] l]=>l[i]?
 | _=>none
def LU(g k:Nat):List af->Option af
 | [.func (.func f) [] l]=>bif Nat.beq f g&&Nat.beq l.length k then some (.bool true) else none
 | _=>none
def Kh(t:Nat)(ok:Bool)(z:af):List af->Option af
 | [.nilIface]=>bif ok then some (.tuple [z,.bool false]) else none
 | [.iface u v]=>bif Nat.beq u t then (bif ok then some (.tuple [v,.bool true]) else some v) else bif ok then some (.tuple [z,.bool false]) else none
 | _=>none
def My:List af->af
 | [x]=>x
 | l=>.tuple l
def Kj:List af->Option af
 | [.tuple [],.func (.func f) a b]=>some (.func (.func f) a b)
 | _=>none
def gc:af->Option Nat
 | .ptr (some a)=>some a.b
 | .slice (some a) _ _=>some a.b
 | _=>none
def Mj(x y:af):Bool:=match gc x,gc y with
 | some b,some c=>!Nat.beq b c
 | _,_=>true
def Ho:List af->Option af
 | [x,y]=>bif Mj x y then some (.bool true) else none
 | _=>none
def iu:PF->List af->Option af
 | .apart,l=>Ho l
 | .isP,l=>LT l
 | .mkP,l=>Nj l
 | .unP,l=>Jj l
 | .isU,l=>Jm l
 | .capt i,l=>Kk i l
 | .isF g k,l=>LU g k l
 | .tAss t ok z,l=>Kh t ok z l
 | .tup,l=>some (My l)
 | .dset,l=>Kj l
 | .s2a n,l=>LR n l
 | .eqv neg k,l=>LW neg k l
 | .eqS neg fs,l=>mZ neg fs l
 | .mm g,l=>Jk g l
 | .ibs,l=>LV l
 | .cbs,l=>LZ l
theorem KQ{g:Bool}{x y z:af}{u v:Value}(hx:ag ρ x u)(hy:ag ρ y v)(h:Jl g x y=some z) :
  ∃q,ag ρ z q/\(if g then Builtin.max2 u v else Builtin.min2 u v)=pure q:=by
 unfold Jl at h
 split at h
 ·rename_i k a k' b
  simp only[sJ]at h
  subst h
  simp only[ag]at hx hy
  subst hx hy
  cases g
  ·refine⟨.int k (if b<a then b else a),?_,rfl⟩
   simp only[cond_false,uK,ag]
   by_cases hh:b<a <;> simp[hh]
  ·refine⟨.int k (if b > a then b else a),?_,rfl⟩
   simp only[cond_true,uK,ag]
   by_cases hh:a<b <;> simp[hh]
 ·simp at h
theorem FG{g:Bool}:∀{l:List af} {x z:af} {u:Value} {vs:List Value},ag ρ x u->ah ρ l vs->Ml g x l=some z ->
  ∃q,ag ρ z q/\(vs.foldlM (if g then Builtin.max2 else Builtin.min2) u).run P w=.ok q w
 | [],x,z,u,vs,hx,hl,h=>by
  simp only[ah]at hl; subst hl
  simp only[Ml,sJ]at h; subst h
  exact⟨u,hx,rfl⟩
 | y::l,x,z,u,vs,hx,hl,h=>by
  simp only[ah]at hl
  obtain⟨v,r,rfl,hy,hr⟩:=hl
  simp only[Ml]at h
  split at h
  ·rename_i m hm
   obtain⟨q,hq,e⟩:=KQ hx hy hm
   obtain⟨q',hq',e'⟩:=FG hq hr h
   refine⟨q',hq',?_⟩
   rw[List.foldlM_cons]
   have:(if g then Builtin.max2 else Builtin.min2) u v=pure q:=by rw[<- e]; cases g <;> rfl
   rw[this]
   simpa using e'
  ·simp at h
theorem Ga(c:UInt8):∀(s:List UInt8) (n:Nat),wT c s n=if Lib.indexByte s c=-1 then -1 else Lib.indexByte s c+n
 | [],n=>rfl
 | b::s,n=>by
  have hb:Nat.beq b.toNat c.toNat=(b==c):=by
   rw[dM]
   by_cases h:b=c
   ·subst h; simp
   ·have:b.toNat≠c.toNat:=fun e=>h (UInt8.toNat_inj.1 e)
    simp[h,this]
  simp only[wT,Lib.indexByte,hb]
  by_cases hc:(b==c)=true
  ·simp[hc]
  ·have hge:=Lib.indexByte_ge s c
   rw[Bool.not_eq_true]at hc
   simp only[hc,cond_false,Ga c s (n+1),PD,if_false,beq_iff_eq]
   by_cases h:Lib.indexByte s c=-1
   ·simp[h]
   ·simp only[h,if_false]
    rw[if_neg om]
    omega
def Bu(P:Program)(f:FuncId):Bool:=
 match P.funcs[f]? with
 | some fn => fn.body.isNone && (fn.name == "internal/bytealg.IndexByteString") && (Extern.findNext fn).isNone
 | none=>false
theorem Gj {fn : Func} (h : fn.name = "internal/bytealg.IndexByteString") : Extern.find fn = some Extern.BytealgIndexByte.indexByte := by
 unfold Extern.find
 rw[h]
 kernel_rfl
theorem KY{f:FuncId}(hf:Bu P f=true){l:List af}{z:af}(h:LV l=some z){vs:Array Value}(hv:ah ρ l vs.toList) :
  ∃q,ag ρ z q/\(callFunc f vs).run P w=.ok (.value q) w:=by
 unfold Bu at hf
 split at hf
 ·rename_i fn hfn
  simp only[Pu,beq_iff_eq]at hf
  obtain⟨⟨h1,h2⟩,h3⟩:=hf
  unfold LV at h
  split at h <;> first | (simp at h; done) | skip
  rename_i s c
  simp only[sJ]at h
  subst h
  simp only[ah]at hv
  obtain⟨v1,r1,e1,hv1,v2,r2,rfl,hv2,rfl⟩:=hv
  simp only[ag]at hv1 hv2
  subst hv1 hv2
  have ha:vs=#[.string (aE s),.int .u8 (.ofNat c)]:=Array.toList_inj.1 (by simpa using e1)
  subst ha
  refine⟨_,?_,by rw[run_callFunc_extern hfn (by rw[h2]; rfl) h1 (by simpa using h3) (Gj h2),Lib.run_indexByteString]; rfl⟩
  simp only[ag,Ga,aE]
  by_cases hh:Lib.indexByte s c.toUInt8=-1
  ·simp[hh]
  ·simp[hh]
 ·simp at hf
def Bv(P:Program)(f:FuncId):Bool:=
 match P.funcs[f]? with
 | some fn => fn.body.isNone && (fn.name == "internal/bytealg.CountString") && (Extern.findNext fn).isNone
 | none=>false
theorem Gk {fn : Func} (h : fn.name = "internal/bytealg.CountString") : Extern.find fn = some Extern.BytealgCount.count := by
 unfold Extern.find
 rw[h]
 kernel_rfl
theorem Lx{f:FuncId}(hf:Bv P f=true){l:List af}{z:af}(h:LZ l=some z){vs:Array Value}(hv:ah ρ l vs.toList) :
  ∃q,ag ρ z q/\(callFunc f vs).run P w=.ok (.value q) w:=by
 unfold Bv at hf
 split at hf
 ·rename_i fn hfn
  simp only[Pu,beq_iff_eq]at hf
  obtain⟨⟨h1,h2⟩,h3⟩:=hf
  unfold LZ at h
  split at h <;> first | (simp at h; done) | skip
  rename_i s c
  cases hc:Nat.ble c 255 with
  | false=>rw[hc]at h; simp at h
  | true=>
   rw[hc]at h
   simp only[cond_true,sJ]at h
   subst h
   simp only[ah]at hv
   obtain⟨v1,r1,e1,hv1,v2,r2,rfl,hv2,rfl⟩:=hv
   simp only[ag]at hv1 hv2
   subst hv1 hv2
   have ha:vs=#[.string (aE s),.int .u8 (.ofNat c)]:=Array.toList_inj.1 (by simpa using e1)
   subst ha
   have hcc:c.toUInt8.toNat=c:=by
    have:=Px hc
    show (UInt8.ofNat c).toNat=c
    rw[UInt8.toNat_ofNat']; omega
   refine⟨_,?_,by rw[run_callFunc_extern hfn (by rw[h2]; rfl) h1 (by simpa using h3) (Gk h2),Lib.run_countString]; rfl⟩
   have:=Ak c.toUInt8 s 0
   rw[hcc]at this
   simp only[ag,aE,this,Lib.countByte]
   simp
 ·simp at hf
def iG(n size:Nat)(x:af)(lo hi mx:Option af):Option af:=
 match x with
 | .ptr (some a)=>
  match jh n n lo hi mx with
  | some (l,h,m)=>bif Nat.beq (m.getD n) l then some (.slice (some a) (h-l) (.known (m.getD n-l))) else some (.slice (some ⟨a.b,a.lim,a.o+l*size⟩) (h-l) (.known (m.getD n-l)))
  | none=>none
 | _=>none
theorem EX{t elem:TypeId}{agg:Bool}{n size:Nat}(hu:P.underlying t=some (.array n elem))(T:Ty P elem agg size){x y:af}{v:Value}{lo hi mx:Option af}{lv hv mv:Option Value}
  (hx:ag ρ x v) (hl:fi ρ lo lv) (hh:fi ρ hi hv) (hm:fi ρ mx mv) (h:iG n size x lo hi mx=some y):∃u,(Instr.sliceAt t v lv hv mv).run P w=.ok u w/\ag ρ y u:=by
 unfold iG at h
 split at h
 ·rename_i a
  split at h
  ·rename_i l hn m hb
   simp only[ag]at hx
   obtain⟨L,h1,h2,rfl⟩:=hx
   obtain⟨q1,q2,q3,q4⟩:=nT (P:=P) (w:=w) (isSlice:=false) (Nat.le_refl n) hl hh hm hb
   have q5:hn<=m.getD n:=by
    cases m with
    | none=>simp; omega
    | some q=>simpa using (q4 q rfl).1
   cases hb:Nat.beq (m.getD n) l with
   | true=>
    rw[hb]at h
    simp only[cond_true,sJ]at h
    subst h
    have:=Py hb
    refine⟨.slice (some ⟨L.c,a.o-L.sh,none⟩) (hn-l) (m.getD n-l),?_,?_⟩
    ·simp only[Instr.sliceAt,Sem.run_bind,run_underlying hu,Result.andThen_ok,q1,T.size,this,if_true,Sem.run_pure,asAddr,Instr.sureAddr]
    ·simp only[ag]
     exact⟨L,h1,h2,om,rfl⟩
   | false=>
    rw[hb]at h
    simp only[cond_false,sJ]at h
    subst h
    have hne:¬m.getD n=l:=fun e=>by rw[e,Nat.beq_refl]at hb; simp at hb
    refine⟨.slice (some ⟨L.c,a.o-L.sh+l*size,none⟩) (hn-l) (m.getD n-l),?_,?_⟩
    ·simp only[Instr.sliceAt,Sem.run_bind,run_underlying hu,Result.andThen_ok,q1,T.size,if_neg hne,Sem.run_pure,Option.map_some,cT,asAddr,Instr.sureAddr]
    ·simp only[ag]
     refine⟨L,h1,by first | omega | (simp only; omega),?_⟩
     simp only[bL]
     refine⟨om,?_⟩
     congr 3
     omega
  ·simp at h
 ·simp at h
theorem KD{t e:TypeId}{n:Nat}(hu:P.underlying t=some (.array n e)){x y:af}{v:Value}(hx:ag ρ x v)(h:LR n [x]=some y):∃u,(Instr.arrayAt t v).run P w=.ok u w/\ag ρ y u:=by
 unfold LR at h
 split at h <;> first | (simp at h; done) | skip
 rename_i a len r heq
 simp only[List.cons.injEq,and_true]at heq
 subst heq
 cases hb:(Nat.ble n len&&Nat.blt 0 n) with
 | false=>rw[hb]at h; simp at h
 | true=>
  rw[hb]at h
  simp only[cond_true,sJ]at h
  subst h
  simp only[Pu]at hb
  have h1:=Px hb.1
  have h2:0<n:=Px hb.2
  obtain⟨L,off,c,hL,hsh,rfl,h3,h4⟩:=ci hx
  have h4:=h4 om
  subst h4
  refine⟨.pointer (some ⟨L.c,a.o-L.sh,none⟩),?_,?_⟩
  ·have:¬len<n:=om
   simp[Instr.arrayAt,run_underlying hu,this]
  ·simp only[ag]
   exact⟨L,hL,hsh,rfl⟩
end
end Go.Abs
namespace Go.Abs
section
variable {P:Program} {Prot:Gh} {w0:World} {ρ:Pl} {H H':ae} {w:World}
def uG:List UInt8->Nat->Option UInt8
 | [],_=>none
 | b::_,0=>some b
 | _::r,n+1=>uG r n
theorem mB:∀(l:List UInt8) (n:Nat),uG l n=l[n]?
 | [],n=>by simp[uG]
 | b::l,0=>by simp[uG]
 | b::l,n+1=>by simp[uG,mB l n]
inductive KC where
 | int
 | str
 | arr (n:Nat)
inductive MF where
 | entry (kc:KC) (z:af)
 | store
 | upd (kc:KC)
abbrev gr:=af×af×Nat
def wM:List af->List af->Option Bool
 | [],[]=>some true
 | .int k a::l,.int k' b::m=>if k=k' then (bif HC a b then wM l m else some false) else none
 | _,_=>none
def ry:KC->af->af->Option Bool
 | .int,.int k a,.int k' b=>if k=k' then some (HC a b) else none
 | .str,.str a,.str b=>some (a==b)
 | .arr n,.agg l,.agg m=>bif Nat.beq l.length n&&Nat.beq m.length n then wM l m else none
 | _,_,_=>none
def IF:List af->Bool
 | []=>true
 | .int _ _::l=>IF l
 | _::_=>false
def rI:KC->af->Bool
 | .int,.int _ _=>true
 | .str,.str _=>true
 | .arr n,.agg l=>Nat.beq l.length n&&IF l
 | _,_=>false
def bY(kc:KC)(k:af):List gr->Nat->Option (Option (Nat×gr))
 | [],_=>some none
 | e::r,i=>match ry kc k e.1 with
  | some true=>some (some (i,e))
  | some false=>bY kc k r (i+1)
  | none=>none
def jY:List gr->Nat->gr->List gr
 | [],_,_=>[]
 | _::r,0,e=>e::r
 | x::r,i+1,e=>x::jY r i e
def mF(ok:Bool)(v:af)(b:Bool):af:=bif ok then .tuple [v,.bool b] else v
def vy(kc:KC)(ok:Bool)(z:af)(es:List gr)(k:af):Option af:=bif rI kc k then
  match bY kc k es 0 with
  | some (some (_,e))=>some (mF ok e.2.1 true)
  | some none=>some (mF ok z false)
  | none=>none
 else none
def sY(n:Nat):List gr->Nat->Option (Nat×gr)
 | [],_=>none
 | e::r,i=>bif Nat.beq e.2.2 n then some (i,e) else sY n r (i+1)
def LS:MF->List gr->Nat->List af->Option (af×List gr×Nat)
 | .entry kc z,es,c,[k]=>bif rI kc k then
   match bY kc k es 0 with
   | some (some (i,e))=>some (.tuple [e.2.1,.int .i64 (.ofNat e.2.2)],jY es i (k,e.2),c)
   | some none=>some (.tuple [z,.int .i64 (.ofNat c)],es++[(k,z,c)],c+1)
   | none=>none
  else none
 | .store,es,c,[.int .i64 (.ofNat n),x]=>match sY n es 0 with
   | some (i,e)=>some (.tuple [],jY es i (e.1,x,e.2.2),c)
   | none=>none
 | .upd kc,es,c,[k,x]=>bif rI kc k then
   match bY kc k es 0 with
   | some (some (i,e))=>some (.tuple [],jY es i (k,x,e.2.2),c)
   | some none=>some (.tuple [],es++[(k,x,c)],c+1)
   | none=>none
  else none
 | _,_,_,_=>none
inductive HF where
 | mkMap
 | mLook (kc:KC) (ok:Bool) (z:af)
 | mf (f:MF)
 | clr (z:List af)
 | cpy (size:Nat)
 | strRange
 | strNext
 | mark
 | gIdx (g m n:Nat)
 | gLd (g:Nat) (agg:Bool) (n:Nat)
 | gFld (g off:Nat)
 | fill (b len:Nat) (z:List af) (ofs:List (Nat×Nat))
def Av(H:ae):List af->Option (af×ae)
 | [.str s]=>some (.ptr (some ⟨H.next,0,0⟩),H.push (.iter s 0))
 | _=>none
def ra(H:ae):List af->Option (af×ae)
 | [.ptr (some ⟨b,0,0⟩)]=>match H.get b with
  | some (.iter s pos)=>match uG s pos with
   | none=>some (.tuple [.bool false],H)
   | some c=>bif Nat.ble 128 c.toNat then
     match Utf8.decode (aE s) pos with
     | (r,n)=>some (.tuple [.bool true,.int .i64 (.ofNat pos),.int .i32 (.ofNat r)],H.set b (.iter s (pos+n)))
    else some (.tuple [.bool true,.int .i64 (.ofNat pos),.int .i32 (.ofNat c.toNat)],H.set b (.iter s (pos+1)))
  | _=>none
 | _=>none
def Hl(H:ae):List af->Option (af×ae)
 | [.slice (some a) n r]=>match H.get a.b with
  | some (.cells l low false)=>some (.slice (some a) n r,H.set a.b (.cells l low false))
  | _=>none
 | _=>none
def zL(H:ae)(g:Nat):Option af:=match H.get g with
 | some (.cells l _ true)=>some (.ptr (some ⟨g,l.length,0⟩))
 | _=>none
def Hn(g m n:Nat)(H:ae):List af->Option (af×ae)
 | [i]=>match zL H g with
  | some p=>match iy m n p i with
   | some v=>some (v,H)
   | none=>none
  | none=>none
 | _=>none
def Nk(g:Nat)(agg:Bool)(n:Nat)(H:ae):List af->Option (af×ae)
 | []=>match zL H g with
  | some p=>match bi agg n H p with
   | some v=>some (v,H)
   | none=>none
  | none=>none
 | _=>none
def Ki(g off:Nat)(H:ae):List af->Option (af×ae)
 | []=>match zL H g with
  | some p=>match gQ off p with
   | some v=>some (v,H)
   | none=>none
  | none=>none
 | _=>none
def Aw(H:ae):List af->Option (af×ae)
 | []=>some (.map (some H.next),H.push (.map [] 0))
 | _=>none
def rc(kc:KC)(ok:Bool)(z:af)(H:ae):List af->Option (af×ae)
 | [.map none,k]=>bif rI kc k then some (mF ok z false,H) else none
 | [.map (some r),k]=>match H.get r with
  | some (.map es _)=>match vy kc ok z es k with
   | some v=>some (v,H)
   | none=>none
  | _=>none
 | _=>none
def HG(f:MF)(H:ae):List af->Option (af×ae)
 | .map (some r)::l=>match H.get r with
  | some (.map es c)=>match LS f es c l with
   | some (v,es',c')=>some (v,H.set r (.map es' c'))
   | none=>none
  | _=>none
 | _=>none
def LY(z:List af)(H:ae):List af->Option (af×ae)
 | [.slice none _ _]=>some (.tuple [],H)
 | [.slice (some a) n _]=>bif Nat.beq n 0 then some (.tuple [],H) else match cP H a (me z n) with
  | some H'=>some (.tuple [],H')
  | none=>none
 | _=>none
def LX(size:Nat)(H:ae):List af->Option (af×ae)
 | [.slice so sl _,.slice xo xl _]=>
  bif Nat.beq (Nat.min xl sl) 0 then some (.int .i64 (.ofNat 0),H) else match so,xo with
  | some a,some b=>match aT H b (Nat.min xl sl*size) with
   | some l=>match cP H a l with
    | some H'=>some (.int .i64 (.ofNat (Nat.min xl sl)),H')
    | none=>none
   | none=>none
  | _,_=>none
 | _=>none
def HK:List (Nat×Nat)->List af->List (Nat×Nat×af)
 | (o,n)::r,x::l=>(o,n,x)::HK r l
 | _,_=>[]
def fY(b len:Nat)(z:List af)(ofs:List (Nat×Nat))(H:ae)(l:List af):Option (af×ae):=
 match H.get b with
 | some (.cells _ 0 false)=>match k8 (me z len) (HK ofs l) with
  | some xs=>some (.slice (some ⟨b,xs.length,0⟩) len (.known len),H.set b (.cells xs 0 false))
  | none=>none
 | _=>none
def mY:HF->ae->List af->Option (af×ae)
 | .fill b len z ofs,H,l=>fY b len z ofs H l
 | .mkMap,H,l=>Aw H l
 | .mLook kc ok z,H,l=>rc kc ok z H l
 | .mf f,H,l=>HG f H l
 | .clr z,H,l=>LY z H l
 | .cpy n,H,l=>LX n H l
 | .strRange,H,l=>Av H l
 | .strNext,H,l=>ra H l
 | .mark,H,l=>Hl H l
 | .gIdx g m n,H,l=>Hn g m n H l
 | .gLd g a n,H,l=>Nk g a n H l
 | .gFld g o,H,l=>Ki g o H l
theorem Db(w:World)(s:ByteArray):(w.iter s 0).heap.size=w.heap.size+1:=by
 show (w.heap.push _).size=_
 simp
theorem FZ(w:World)(s:ByteArray){i:Nat}(h:i<w.heap.size):(w.iter s 0).heap[i]?=w.heap[i]?:=by
 show (w.heap.push _)[i]?=_
 simp[Array.getElem?_push,Nat.ne_of_lt h]
theorem Fl(R:Rel Prot w0 ρ H w){t:TypeId}(hu:P.underlying t=some .string){x y:af}{v:Value}(hx:ag ρ x v)(h:Av H [x]=some (y,H')):dF P Prot w0 ρ w (Instr.range t v) y H':=by
 unfold Av at h
 split at h <;> first | (simp at h; done) | skip
 rename_i s heq
 simp only[List.cons.injEq,and_true]at heq
 subst heq
 simp only[sJ,pJ]at h
 obtain⟨rfl,rfl⟩:=h
 simp only[ag]at hx
 subst hx
 have hrun:=run_range_string (P:=P) w t (aE s) hu
 obtain⟨h1,h2⟩:=R.push' (w':=w.iter (aE s) 0) rfl rfl rfl (Db w (aE s)) (fun i hi=>FZ w (aE s) hi)
  (x:=.iter s 0) (o:=.stringIter (aE s) 0) (lim:=0) (n:=0) (cl:=false) (World.iter_heap w (aE s) 0) (by simp only[dy]; exact⟨trivial,trivial⟩) rfl
 refine⟨_,_,_,h1,hrun,h2,?_⟩
 simp only[ag]
 exact⟨_,fN _ _ _ _,Nat.zero_le _,rfl⟩
theorem Is(R:Rel Prot w0 ρ H w){t:TypeId}{x y:af}{v:Value}(hx:ag ρ x v)(h:ra H [x]=some (y,H')):dF P Prot w0 ρ w (Instr.next v true t) y H':=by
 unfold ra at h
 split at h <;> first | (simp at h; done) | skip
 rename_i b heq
 simp only[List.cons.injEq,and_true]at heq
 subst heq
 simp only[ag]at hx
 obtain⟨L,hL,hsh,rfl⟩:=hx
 have e0:0-L.sh=0:=om
 rw[e0]
 split at h <;> first | (simp at h; done) | skip
 rename_i s pos hH
 obtain⟨x,o,g1,g2,g3⟩:=R.obj _ _ _ hL
 rw[hH]at g1
 simp only[sJ]at g1
 subst g1
 simp only[dy]at g3
 obtain⟨_,rfl⟩:=g3
 have turn:∀p,Rel Prot w0 ρ (H.set b (.iter s p)) (w.iterAt L.c (aE s) p):=fun p=>by
  have hlt:L.c<w.heap.size:=(R.dom _ _ _ hL).2
  refine R.turn (w':=w.iterAt L.c (aE s) p) (y:=.iter s p) hL hH rfl ⟨rfl,rfl,rfl,by simp[World.iterAt],fun i hi=>by simp[World.iterAt,Array.getElem?_setIfInBounds,Ne.symm hi]⟩ rfl fun l' L' h'=>?_
  obtain⟨x,o,k1,k2,k3⟩:=R.obj _ _ _ h'
  rw[hH]at k1
  simp only[sJ]at k1
  subst k1
  simp only[dy]at k3
  obtain⟨rfl,rfl⟩:=k3
  rw[hL]at h'
  simp only[sJ]at h'
  subst h'
  exact⟨.stringIter (aE s) p,by simp[World.iterAt,hlt],by simp only[dy]; exact⟨trivial,trivial⟩⟩
 have hsz:(aE s).size=s.length:=by simp[aE,ByteArray.size]
 split at h
 ·rename_i hn
  rw[mB,List.getElem?_eq_none_iff]at hn
  simp only[sJ,pJ]at h
  obtain⟨rfl,rfl⟩:=h
  refine dF.pure R (v:=.tuple #[.bool false]) ?_ (by simp[ag,ah])
  have:¬pos<(aE s).size:=om
  simp[Instr.next,getObj,Sem.run,g2,this]
 ·rename_i c hn
  rw[mB]at hn
  have hp:pos<s.length:=by
   rcases Nat.lt_or_ge pos s.length with h | h
   ·exact h
   ·rw[PL h]at hn; simp at hn
  have hp':pos<(aE s).size:=om
  have hrun:=Lib.run_next_any_at (P:=P) w L.c (aE s) pos t g2 hp'
  cases hc:Nat.ble 128 c.toNat with
  | true=>
   rw[hc]at h
   simp only[cond_true,sJ,pJ]at h
   obtain⟨rfl,rfl⟩:=h
   exact⟨ρ,_,_,Pl.le_refl _,hrun,turn _,by simp[ag,ah]⟩
  | false=>
   rw[hc]at h
   simp only[cond_false,sJ,pJ]at h
   obtain⟨rfl,rfl⟩:=h
   have hb:(aE s)[pos]'hp'=c:=by
    rw[Pr hp]at hn
    simp only[sJ]at hn
    rw[<- hn]
    rfl
   have ha:((aE s)[pos]'hp').toNat<128:=by
    rw[hb]
    have:¬128<=c.toNat:=fun e=>by rw[Pt e]at hc; simp at hc
    omega
   rw[decode_ascii _ _ hp' ha,hb]at hrun
   exact⟨ρ,_,_,Pl.le_refl _,hrun,turn _,by simp[ag,ah]⟩
theorem wX(w:World){c n lo hi:Nat}{C:Array Value}{e:TypeId}(h:w.heap[c]?=some (.cells C e (lo,hi))) :
  (w.freeze ⟨c,n,none⟩ 1).heap[c]?=some (.cells C e (if lo==hi then (n,n+1) else (min lo n,max hi (n+1))))/\Hw w (w.freeze ⟨c,n,none⟩ 1) c:=by
 constructor
 ·simp[World.freeze,Array.getElem?_modify,h]
 ·refine⟨rfl,rfl,rfl,by simp[World.freeze],fun i hi=>?_⟩
  simp only[World.freeze,Nat.one_ne_zero,if_false,Array.getElem?_modify]
  rw[if_neg (by simpa using fun e=>hi e.symm)]
theorem Iv(R:Rel Prot w0 ρ H w){t e:TypeId}(hu:P.underlying t=some (.slice e))(he:P.underlying e=some (.int .u8)){x y:af}{v:Value}(hx:ag ρ x v)(h:Hl H [x]=some (y,H')):dF P Prot w0 ρ w (convert t t v) y H':=by
 unfold Hl at h
 split at h <;> first | (simp at h; done) | skip
 rename_i a n r heq
 simp only[List.cons.injEq,and_true]at heq
 subst heq
 split at h <;> first | (simp at h; done) | skip
 rename_i l low hH
 simp only[sJ,pJ]at h
 obtain⟨rfl,rfl⟩:=h
 obtain⟨L,off,c,hL,hsh,rfl,hlen,_⟩:=ci hx
 obtain⟨x,o,g1,g2,g3⟩:=R.obj _ _ _ hL
 rw[hH]at g1
 simp only[sJ]at g1
 subst g1
 simp only[dy]at g3
 obtain⟨C,el,lo,hi,rfl,_,hfz,_,_⟩:=g3
 obtain⟨hf1,hf2⟩:=hfz trivial
 obtain⟨q1,q2⟩:=wX w (n:=C.size) g2
 have hrun:(convert t t (.slice (some ⟨L.c,off,none⟩) n c)).run P w=.ok (.slice (some ⟨L.c,off,none⟩) n c) (w.freeze ⟨L.c,C.size,none⟩ 1):=by
  simp[convert,run_underlying hu,run_underlying he,markStringish,World.shape?,g2,Result.andThen]
 refine⟨ρ,_,_,Pl.le_refl _,hrun,?_,hx⟩
 refine R.turn hL hH rfl q2 rfl fun l' L' h'=>?_
 obtain⟨x,o,k1,k2,k3⟩:=R.obj _ _ _ h'
 rw[hH]at k1
 simp only[sJ]at k1
 subst k1
 simp only[dy]at k3 ⊢
 obtain⟨C',e',lo',hi',rfl,k4,k5,k6,k7⟩:=k3
 by_cases hcc:L'.c=L.c
 ·rw[hcc]at k2 ⊢
  rw[g2]at k2
  simp only[sJ,Obj.cells.injEq,pJ]at k2
  obtain⟨rfl,rfl,rfl,rfl⟩:=k2
  obtain⟨p,hp⟩:∃p:Nat×Nat,(if lo==hi then (C.size,C.size+1) else (min lo C.size,max hi (C.size+1)))=p:=⟨_,rfl⟩
  rw[hp]at q1
  obtain⟨p1,p2⟩:=p
  refine⟨_,q1,C,el,p1,p2,rfl,k4,?_,k6,k7⟩
  have hl:lo=hi∨C.size<=lo:=by
   rcases Nat.lt_or_ge lo C.size with h | h
   ·refine .inl ?_
    have:=hf1 lo h
    omega
   ·exact .inr h
  have hpp:C.size<=p1/\p1<=p2:=by
   split at hp
   ·simp only[pJ]at hp; omega
   ·rename_i hne
    simp only[beq_iff_eq]at hne
    simp only[pJ]at hp
    omega
  exact fun _=>⟨fun i hi=>om,hpp.2⟩
 ·exact⟨_,(q2.rest _ hcc).trans k2,C',e',lo',hi',rfl,k4,k5,k6,k7⟩
theorem qp(R:Rel Prot w0 ρ H w){g:Nat}{p:af}(h:zL H g=some p):ag ρ p (.pointer (some ⟨g,0,none⟩)):=by
 unfold zL at h
 split at h
 ·rename_i l low hg
  simp only[sJ]at h
  subst h
  obtain⟨L,h1,h2,h3,_⟩:=R.glob _ _ _ hg
  simp only[ag]
  exact⟨L,h1,om,by rw[h2,h3]⟩
 ·simp at h
end
end Go.Abs
namespace Go.Abs
mutual
def aeq:af->af->Bool
 | .bool a,.bool b=>a==b
 | .int k a,.int k' b=>decide (k=k')&&HC a b
 | .str a,.str b=>a==b
 | .ptr none,.ptr none=>true
 | .ptr (some a),.ptr (some b)=>Nat.beq a.b b.b&&(Nat.beq a.lim b.lim&&Nat.beq a.o b.o)
 | .slice none n (.known c),.slice none m (.known d)=>Nat.beq n m&&Nat.beq c d
 | .slice (some a) n (.known c),.slice (some b) m (.known d)=>Nat.beq a.b b.b&&(Nat.beq a.lim b.lim&&(Nat.beq a.o b.o&&(Nat.beq n m&&Nat.beq c d)))
 | .slice (some a) n (.open_ c),.slice (some b) m (.open_ d)=>Nat.beq a.b b.b&&(Nat.beq a.lim b.lim&&(Nat.beq a.o b.o&&(Nat.beq n m&&Nat.beq c d)))
 | .map none,.map none=>true
 | .map (some a),.map (some b)=>Nat.beq a b
 | .nilFunc,.nilFunc=>true
 | .func (.func f) a b,.func (.func g) c d=>Nat.beq f g&&(vw a c&&vw b d)
 | .nilIface,.nilIface=>true
 | .iface t v,.iface u x=>Nat.beq t u&&aeq v x
 | .agg l,.agg m=>vw l m
 | .tuple l,.tuple m=>vw l m
 | .val (.slice (some a) n c),.val (.slice (some b) m d)=>decide (a=b)&&(Nat.beq n m&&Nat.beq c d)
 | _,_=>false
def vw:List af->List af->Bool
 | [],[]=>true
 | x::l,y::m=>aeq x y&&vw l m
 | _,_=>false
end
theorem nb{a b:Nat}(h:Nat.beq a b=true):a=b:=Py h
mutual
theorem Au:∀(x y:af),aeq x y=true->x=y:=by
 intro x y h
 unfold aeq at h
 split at h
 all_goals (try (simp only[PD]at h; done))
 ·simp at h; rw[h]
 ·simp only[Pu,PE,fB,beq_iff_eq]at h; rw[h.1,h.2]
 ·simp at h; rw[h]
 ·rfl
 ·rename_i a b; obtain⟨a1,a2,a3⟩:=a; obtain⟨b1,b2,b3⟩:=b; simp only[Pu]at h; obtain⟨h1,h2,h3⟩:=h; have:=nb h1; have:=nb h2; have:=nb h3; simp_all
 ·simp only[Pu]at h; rw[nb h.1,nb h.2]
 ·rename_i a n c b m d; obtain⟨a1,a2,a3⟩:=a; obtain⟨b1,b2,b3⟩:=b; simp only[Pu]at h; obtain⟨h1,h2,h3,h4,h5⟩:=h; have:=nb h1; have:=nb h2; have:=nb h3; have:=nb h4; have:=nb h5; simp_all
 ·rename_i a n c b m d; obtain⟨a1,a2,a3⟩:=a; obtain⟨b1,b2,b3⟩:=b; simp only[Pu]at h; obtain⟨h1,h2,h3,h4,h5⟩:=h; have:=nb h1; have:=nb h2; have:=nb h3; have:=nb h4; have:=nb h5; simp_all
 ·rfl
 ·rw[nb h]
 ·rfl
 ·simp only[Pu]at h; rw[nb h.1,kR _ _ h.2.1,kR _ _ h.2.2]
 ·rfl
 ·simp only[Pu]at h; rw[nb h.1,Au _ _ h.2]
 ·rw[kR _ _ h]
 ·rw[kR _ _ h]
 ·simp only[Pu,PE]at h; rw[h.1,nb h.2.1,nb h.2.2]
theorem kR:∀(l m:List af),vw l m=true->l=m:=by
 intro l m h
 unfold vw at h
 split at h
 ·rfl
 ·simp only[Pu]at h; rw[Au _ _ h.1,kR _ _ h.2]
 ·simp at h
end
def O1(b:Nat)(z:List af):Option (Nat×Nat)->af
 | none=>.ptr (some ⟨b,z.length,0⟩)
 | some (l,c)=>.slice (some ⟨b,z.length,0⟩) l (.known c)
def rf(H:ae)(b:Nat)(z:List af)(s:Option (Nat×Nat)):Option af:=
 match H.get b with
 | some (.cells l 0 false)=>bif vw l z then some (O1 b z s) else none
 | _=>none
theorem Ah{H:ae}{b:Nat}{z:List af}{s:Option (Nat×Nat)}{v:af}(h:rf H b z s=some v):H.get b=some (.cells z 0 false)/\v=O1 b z s:=by
 unfold rf at h
 split at h
 ·rename_i l hl
  cases he:vw l z with
  | false=>rw[he]at h; simp at h
  | true=>
   rw[he]at h
   simp only[cond_true,sJ]at h
   exact⟨by rw[hl,kR _ _ he],h.symm⟩
 ·simp at h
end Go.Abs
namespace Go.Abs
section
variable {P:Program} {Prot:Gh} {w0:World} {ρ:Pl} {H H':ae} {w:World}
def qe(P:Program)(t:TypeId):Option KC:=match P.underlying t with
 | some (.int _)=>some .int
 | some .string=>some .str
 | some (.array n e)=>match P.underlying e,ez P e with
  | some (.int _),some (false,1)=>some (.arr n)
  | _,_=>none
 | _=>none
def pw(P:Program)(t:TypeId):Option af:=match P.info? t with
 | some i=>match i.zero with
  | some z=>Ji z
  | none=>none
 | none=>none
theorem pv{t:TypeId}{x:af}(h:pw P t=some x):∃z,(∀W,(zeroValue t).run P W=.ok z W)/\∀ρ,ag ρ x z:=by
 unfold pw at h
 split at h
 ·rename_i i hi
  split at h
  ·rename_i z hz
   exact⟨z,fun W=>by simp[zeroValue,run_typeInfo W hi,hz],fun ρ=>Co h⟩
  ·simp at h
 ·simp at h
theorem Bt:∀{l m:List af},wM l m=some true->∀{vs us:List Value},ah ρ l vs->ah ρ m us->vs=us
 | [],[],_,vs,us,hv,hu=>by
  simp only[ah]at hv hu
  subst hv hu; rfl
 | .int k a::l,.int k' c::m,h,vs,us,hv,hu=>by
  simp only[ah,ag]at hv hu
  obtain⟨v,r,rfl,rfl,hv⟩:=hv
  obtain⟨u,s,rfl,rfl,hu⟩:=hu
  simp only[wM]at h
  split at h
  ·rename_i hk
   subst hk
   rw[fB]at h
   by_cases e:a=c
   ·subst e
    simp only[beq_self_eq_true,cond_true]at h
    rw[Bt h hv hu]
   ·have:(a==c)=false:=by simpa using e
    rw[this]at h
    simp at h
  ·simp at h
theorem IC{x y:af}{b:Bool}(h:ry .int x y=some b):∃k a c,x=.int k a/\y=.int k c/\b=(a==c):=by
 cases x <;> simp only[ry,reduceCtorEq]at h
 rename_i k a
 cases y <;> simp only[ry,reduceCtorEq]at h
 rename_i k' c
 split at h
 ·rename_i hk
  subst hk
  simp only[sJ]at h
  exact⟨k,a,c,rfl,rfl,by rw[<- h,fB]⟩
 ·simp at h
theorem IB{x y:af}{b:Bool}(h:ry .str x y=some b):∃a c,x=.str a/\y=.str c/\b=(a==c):=by
 cases x <;> simp only[ry,reduceCtorEq]at h
 rename_i a
 cases y <;> simp only[ry,reduceCtorEq]at h
 rename_i c
 simp only[sJ]at h
 exact⟨a,c,rfl,rfl,h.symm⟩
theorem IE{n:Nat}{x y:af}{b:Bool}(h:ry (.arr n) x y=some b):∃l m,x=.agg l/\y=.agg m/\l.length=n/\m.length=n/\wM l m=some b:=by
 cases x <;> simp only[ry,reduceCtorEq]at h
 rename_i l
 cases y <;> simp only[ry,reduceCtorEq]at h
 rename_i m
 cases hg:(Nat.beq l.length n&&Nat.beq m.length n) with
 | false=>rw[hg]at h; simp at h
 | true=>
  rw[hg]at h
  simp only[cond_true]at h
  simp only[Pu]at hg
  exact⟨l,m,rfl,rfl,Py hg.1,Py hg.2,h⟩
theorem xB{t:TypeId}{a:Bool}{n:Nat}(h:ez P t=some (a,n)):P.cellsOf t=n/\∃i,P.info? t=some i:=by
 unfold ez at h
 split at h <;> simp only[sJ,pJ,reduceCtorEq]at h
 all_goals
  rename_i hi
  exact⟨by simp[Program.cellsOf,hi,h.2],_,hi⟩
theorem zZ{e:TypeId}{kk:IntKind}(he:P.underlying e=some (.int kk))(T:Ty P e false 1){L M:List af}{xs ys:Array Value}(hL:ah ρ L xs.toList)(hM:ah ρ M ys.toList)(d:Nat) :
  ∀(k o:Nat) (b:Bool),L.length=o+k->M.length=o+k->wM (L.drop o) (M.drop o)=some b->(Op.eqItems (d+1) e 1 xs ys (List.range' o k)).run P w=.ok b w:=by
 intro k
 induction k with
 | zero=>
  intro o b h1 h2 h
  rw[List.drop_eq_nil_of_le om,List.drop_eq_nil_of_le om]at h
  simp only[wM,sJ]at h
  subst h
  simp[Op.eqItems]
 | succ k ih=>
  intro o b h1 h2 h
  have hl:o<L.length:=om
  have hm:o<M.length:=om
  rw[List.drop_eq_getElem_cons hl,List.drop_eq_getElem_cons hm]at h
  have gl:L[o]?=some L[o]:=Pr hl
  have gm:M[o]?=some M[o]:=Pr hm
  generalize L[o]=x at *
  generalize M[o]=y at *
  obtain⟨u,u1,u2⟩:=dX (P:=P) (w:=w) T hL (off:=o) (y:=x) (by simpa[fU] using gl)
  obtain⟨v,v1,v2⟩:=dX (P:=P) (w:=w) T hM (off:=o) (y:=y) (by simpa[fU] using gm)
  unfold wM at h
  split at h
  ·rename_i heq _; simp at heq
  ·rename_i k1 a l k2 c m e1 e2
   simp only[List.cons.injEq]at e1 e2
   obtain⟨rfl,rfl⟩:=e1
   obtain⟨rfl,rfl⟩:=e2
   simp only[ag]at u2 v2
   subst u2 v2
   split at h
   ·rename_i hk
    subst hk
    rw[fB]at h
    rw[List.range'_succ]
    simp only[Op.eqItems,Nat.mul_one,Sem.run_bind,u1,v1,Result.andThen_ok]
    have hq:(Op.equalIn (d+1) e (.int k1 a) (.int k1 c)).run P w=.ok (a==c) w:=by
     simp[Op.equalIn,run_underlying he]
    rw[hq]
    cases hac:(a==c) with
    | true=>
     rw[hac]at h
     simp only[Result.andThen_ok,Bool.not_true,PD,if_false]
     exact ih (o+1) b om om h
    | false=>
     rw[hac]at h
     simp only[cond_false,sJ]at h
     subst h
     simp
   ·simp at h
  ·simp at h
def la(ρ:Pl)(v:Value)(es:List gr)(ES:List MapEntry)(i:Nat):Option (Nat×gr)->Option (Nat×Value)->Prop
 | none,r=>r=none
 | some (j,e),r=>i<=j/\∃E,r=some (j,E.val)/\es[j-i]?=some e/\ES[j-i]?=some E/\jj ρ e E/\E.key=v
theorem la.step{v:Value}{e:gr}{es:List gr}{E:MapEntry}{ES:List MapEntry}{i:Nat}{r:Option (Nat×gr)}{r':Option (Nat×Value)}(h:la ρ v es ES (i+1) r r'):la ρ v (e::es) (E::ES) i r r':=by
 cases r with
 | none=>exact h
 | some p=>
  obtain⟨j,x⟩:=p
  obtain⟨h1,E',h2,h3,h4,h5⟩:=h
  refine⟨om,E',h2,?_,?_,h5⟩
  ·rw[show j-i=(j-(i+1))+1 by omega]; simpa using h3
  ·rw[show j-i=(j-(i+1))+1 by omega]; simpa using h4
theorem FB{kc:KC}{d:TypeDesc}(hd:(kc=.int/\∃k,d=.int k)∨(kc=.str/\d=.string)){x:af}{v:Value}(hx:ag ρ x v):∀(es:List gr) (ES:List MapEntry) (i:Nat) (r:Option (Nat×gr)),az ρ es ES->bY kc x es i=some r ->
  ∃r',Instr.findNow d v ES i=some r'/\la ρ v es ES i r r':=by
 intro es
 induction es with
 | nil=>
  intro ES i r hE h
  simp only[bY,sJ]at h
  simp only[az]at hE
  subst h hE
  exact⟨none,rfl,rfl⟩
 | cons e es ih=>
  intro ES i r hE h
  simp only[az]at hE
  obtain⟨E,ES',rfl,hEE,hE⟩:=hE
  obtain⟨he1,he2,he3⟩:=hEE
  have key:∀b,ry kc x e.1=some b->Instr.sameNow d v E.key=some b/\(b=true->E.key=v):=by
   intro b hb
   rcases hd with⟨rfl,k,rfl⟩ | ⟨rfl,rfl⟩
   ·obtain⟨k1,a,c,hx1,hx2,rfl⟩:=IC hb
    rw[hx1]at hx
    rw[hx2]at he1
    simp only[ag]at hx he1
    rw[hx,he1]
    refine⟨by simp[Instr.sameNow],fun ht=>?_⟩
    have:a=c:=by simpa using ht
    rw[this]
   ·obtain⟨a,c,hx1,hx2,rfl⟩:=IB hb
    rw[hx1]at hx
    rw[hx2]at he1
    simp only[ag]at hx he1
    rw[hx,he1]
    have hs:(aE a==aE c)=(a==c):=by
     rw[Bool.eq_iff_iff,MapKept.bytes_beq]
     simp only[beq_iff_eq]
     exact⟨fun q=>by simpa[aE] using congrArg (fun s:ByteArray=>s.data.toList) q,fun q=>by rw[q]⟩
    refine⟨by simp only[Instr.sameNow,hs],fun ht=>?_⟩
    have:a=c:=by simpa using ht
    rw[this]
  simp only[bY]at h
  split at h
  ·rename_i hb
   simp only[sJ]at h
   subst h
   obtain⟨k1,k2⟩:=key _ hb
   exact⟨some (i,E.val),by simp[Instr.findNow,k1],Nat.le_refl _,E,rfl,by simp,by simp,⟨he1,he2,he3⟩,k2 rfl⟩
  ·rename_i hb
   obtain⟨k1,k2⟩:=key _ hb
   obtain⟨r',q1,q2⟩:=ih ES' (i+1) r hE h
   exact⟨r',by simp[Instr.findNow,k1,q1],q2.step⟩
  ·simp at h
theorem DE{kt e:TypeId}{n:Nat}{kk:IntKind}(hu:P.underlying kt=some (.array n e))(he:P.underlying e=some (.int kk))(hT:ez P e=some (false,1)){x:af}{v:Value}(hx:ag ρ x v):∀(es:List gr) (ES:List MapEntry) (i:Nat) (r:Option (Nat×gr)),az ρ es ES->bY (.arr n) x es i=some r ->
  ∃r',(Instr.findAsking kt v ES i).run P w=.ok r' w/\la ρ v es ES i r r':=by
 intro es
 induction es with
 | nil=>
  intro ES i r hE h
  simp only[bY,sJ]at h
  simp only[az]at hE
  subst h hE
  exact⟨none,rfl,rfl⟩
 | cons e0 es ih=>
  intro ES i r hE h
  simp only[az]at hE
  obtain⟨E,ES',rfl,hEE,hE⟩:=hE
  obtain⟨he1,he2,he3⟩:=hEE
  have key:∀b,ry (.arr n) x e0.1=some b->(Op.equal kt v E.key).run P w=.ok b w/\(b=true->E.key=v):=by
   intro b hb
   obtain⟨l,m,hx1,hx2,h1,h2,hb⟩:=IE hb
   rw[hx1]at hx
   rw[hx2]at he1
   simp only[ag]at hx he1
   obtain⟨xs,rfl,hxs⟩:=hx
   obtain⟨ys,hy,hys⟩:=he1
   obtain⟨hc1,i0,hi0⟩:=xB hT
   rw[hy]
   constructor
   ·show (Op.equalIn (9998+1+1) kt (.agg xs) (.agg ys)).run P w=_
    rw[run_equalIn_array w (9998+1) xs ys hu hi0,hc1,List.range_eq_range']
    exact zZ he (cQ hT) hxs hys 9998 n 0 b om om (by simpa using hb)
   ·intro ht
    subst ht
    rw[Array.toList_inj.1 (Bt hb hxs hys)]
  simp only[bY]at h
  split at h
  ·rename_i hb
   simp only[sJ]at h
   subst h
   obtain⟨k1,k2⟩:=key _ hb
   exact⟨some (i,E.val),by simp[Instr.findAsking,k1],Nat.le_refl _,E,rfl,by simp,by simp,⟨he1,he2,he3⟩,k2 rfl⟩
  ·rename_i hb
   obtain⟨k1,k2⟩:=key _ hb
   obtain⟨r',q1,q2⟩:=ih ES' (i+1) r hE h
   exact⟨r',by simp[Instr.findAsking,k1,q1],q2.step⟩
  ·simp at h
theorem qd{kt:TypeId}{kc:KC}(h:qe P kt=some kc):(∃k,kc=.int/\P.underlying kt=some (.int k))∨(kc=.str/\P.underlying kt=some .string)∨∃n e kk,kc=.arr n/\P.underlying kt=some (.array n e)/\P.underlying e=some (.int kk)/\ez P e=some (false,1):=by
 unfold qe at h
 split at h
 ·rename_i k hu
  simp only[sJ]at h
  exact .inl ⟨k,h.symm,hu⟩
 ·rename_i hu
  simp only[sJ]at h
  exact .inr (.inl ⟨h.symm,hu⟩)
 ·rename_i n e hu
  split at h
  ·rename_i kk he hT
   simp only[sJ]at h
   exact .inr (.inr ⟨n,e,kk,h.symm,hu,he,hT⟩)
  ·simp at h
 ·simp at h
theorem eE{kt:TypeId}{kc:KC}(hk:qe P kt=some kc){x:af}{v:Value}(hx:ag ρ x v){es:List gr}{ES:List MapEntry}{r:Option (Nat×gr)}(hE:az ρ es ES)(h:bY kc x es 0=some r) :
  ∃r',(Instr.findKey kt v ES).run P w=.ok r' w/\la ρ v es ES 0 r r':=by
 rcases qd hk with⟨k,rfl,hu⟩ | ⟨rfl,hu⟩ | ⟨n,e,kk,rfl,hu,he,hT⟩
 ·obtain⟨r',q1,q2⟩:=FB (d:=.int k) (.inl ⟨rfl,k,rfl⟩) hx es ES 0 r hE h
  exact⟨r',by simp[Instr.findKey,run_underlying hu,q1],q2⟩
 ·obtain⟨r',q1,q2⟩:=FB (d:=.string) (.inr ⟨rfl,rfl⟩) hx es ES 0 r hE h
  exact⟨r',by simp[Instr.findKey,run_underlying hu,q1],q2⟩
 ·cases es with
  | nil=>
   simp only[bY,sJ]at h
   simp only[az]at hE
   subst h hE
   exact⟨none,by simp[Instr.findKey,run_underlying hu,Instr.findNow],rfl⟩
  | cons e0 es=>
   obtain⟨r',q1,q2⟩:=DE (w:=w) hu he hT hx (e0::es) ES 0 r hE h
   refine⟨r',?_,q2⟩
   simp only[az]at hE
   obtain⟨E,ES',rfl,_,_⟩:=hE
   have hn:Instr.findNow (.array n e) v (E::ES') 0=none:=by
    unfold Instr.findNow
    have:Instr.sameNow (.array n e) v E.key=none:=by
     cases v <;> cases E.key <;> rfl
    rw[this]
   simp[Instr.findKey,run_underlying hu,hn,q1]
theorem wP:∀{l:List af},IF l=true->∀x∈l,∃k n,x=.int k n
 | [],_,x,hx=>by simp at hx
 | .int k n::l,h,x,hx=>by
  rcases List.mem_cons.1 hx with rfl | hx
  ·exact⟨_,_,rfl⟩
  ·exact wP (l:=l) h x hx
theorem GF{t:TypeId}{k:IntKind}(hu:P.underlying t=some (.int k))(em:Bool)(d:Nat)(x:Value):(Instr.checkKey em (d+1) t x).run P w=.ok () w:=by
 simp[Instr.checkKey,run_underlying hu]
theorem Lv{t:TypeId}(hu:P.underlying t=some .string)(em:Bool)(d:Nat)(x:Value):(Instr.checkKey em (d+1) t x).run P w=.ok () w:=by
 simp[Instr.checkKey,run_underlying hu]
theorem dT{kt:TypeId}{kc:KC}(hk:qe P kt=some kc){x:af}{v:Value}(hx:ag ρ x v)(hi:rI kc x=true)(em:Bool):(Instr.checkKey em 10000 kt v).run P w=.ok () w:=by
 rcases qd hk with⟨k,rfl,hu⟩ | ⟨rfl,hu⟩ | ⟨n,e,kk,rfl,hu,he,hT⟩
 ·cases x <;> simp only[rI,PD]at hi
  simp only[ag]at hx; subst hx
  exact GF hu em 9999 _
 ·cases x <;> simp only[rI,PD]at hi
  simp only[ag]at hx; subst hx
  exact Lv hu em 9999 _
 ·cases x <;> simp only[rI,PD]at hi
  rename_i l
  simp only[Pu]at hi
  have hl:=Py hi.1
  have hint:=wP hi.2
  simp only[ag]at hx
  obtain⟨xs,rfl,hxs⟩:=hx
  show (Instr.checkKey em (9998+1+1) kt _).run P w=_
  rw[Instr.checkKey]
  simp only[Sem.run_bind,run_underlying hu,Result.andThen_ok]
  simp only[Std.Legacy.Range.forIn_eq_forIn_range',Std.Legacy.Range.size,Nat.sub_zero,Nat.add_one_sub_one,Nat.div_one]
  have hT':=cQ hT
  have key:∀(k o:Nat),o+k=n->((forIn (List.range' o k) PUnit.unit fun i _=>do
    let a <- sizeOf e
    let b <- part e xs (i*a)
    Instr.checkKey em (9998+1) e b
    pure (ForInStep.yield PUnit.unit)):Sem PUnit).run P w=.ok PUnit.unit w:=by
   intro k
   induction k with
   | zero=>intro o _; simp
   | succ k ih=>
    intro o ho
    have hlt:o<l.length:=om
    have gl:l[o]?=some l[o]:=Pr hlt
    obtain⟨k1,a,hxa⟩:=hint l[o] (List.getElem_mem hlt)
    obtain⟨u,u1,u2⟩:=dX (P:=P) (w:=w) hT' hxs (off:=o) (y:=l[o]) (by simpa[fU] using gl)
    rw[hxa]at u2
    simp only[ag]at u2
    subst u2
    have hc:(Instr.checkKey em (9998+1) e (.int k1 a)).run P w=.ok () w:=GF he em 9998 _
    rw[List.range'_succ]
    simp only[List.forIn_cons,Sem.run_bind,hT'.size,Nat.mul_one,Result.andThen_ok,u1,hc,Sem.run_pure]
    exact ih (o+1) om
  rw[key n 0 om]
  rfl
theorem az.append:∀{es fs:List gr} {ES FS:List MapEntry},az ρ es ES->az ρ fs FS->az ρ (es++fs) (ES++FS)
 | [],_,_,_,h,h'=>by simp only[az]at h; subst h; simpa using h'
 | x::l,fs,ES,FS,h,h'=>by
  simp only[az]at h
  obtain⟨e,r,rfl,h1,h2⟩:=h
  simp only[PM,az]
  exact⟨e,r++FS,rfl,h1,az.append h2 h'⟩
theorem az.set:∀{es:List gr} {ES:List MapEntry} (i:Nat) {e':gr} {E':MapEntry},az ρ es ES->jj ρ e' E'->az ρ (jY es i e') (ES.set i E')
 | [],_,_,_,_,h,_=>by simp only[az]at h; subst h; simp[jY,az]
 | x::l,ES,i,e',E',h,h'=>by
  simp only[az]at h
  obtain⟨e,r,rfl,h1,h2⟩:=h
  cases i with
  | zero=>simp only[jY,List.set_cons_zero,az]; exact⟨E',r,rfl,h',h2⟩
  | succ i=>simp only[jY,List.set_cons_succ,az]; exact⟨e,_,rfl,h1,az.set i h2 h'⟩
theorem ly{ES:Array MapEntry}{i:Nat}{E:MapEntry}(h:ES[i]?=some E)(f:MapEntry->MapEntry):(ES.modify i f).toList=ES.toList.set i (f E):=by
 apply List.ext_getElem?
 intro j
 rw[Array.getElem?_toList,Array.getElem?_modify,List.getElem?_set]
 by_cases e:i=j
 ·subst e
  obtain⟨hlt,hE⟩:=Array.getElem?_eq_some_iff.1 h
  simp[h,hlt,hE]
 ·simp[e]
theorem lC(R:Rel Prot w0 ρ H w){r:Nat}{mv:Value}(hx:ag ρ (.map (some r)) mv){es:List gr}{c:Nat}(hH:H.get r=some (.map es c)):∃L ES,ρ r 0=some L/\mv=.map (some L.c)/\w.heap[L.c]?=some (.map ES c)/\az ρ es ES.toList:=by
 simp only[ag]at hx
 obtain⟨L,hL,rfl⟩:=hx
 obtain⟨x,o,g1,g2,g3⟩:=R.obj _ _ _ hL
 rw[hH]at g1
 simp only[sJ]at g1
 subst g1
 simp only[dy]at g3
 obtain⟨_,ES,rfl,hE⟩:=g3
 exact⟨L,ES,hL,rfl,g2,hE⟩
theorem jW(R:Rel Prot w0 ρ H w){r:Nat}{L:Loc}(hL:ρ r 0=some L){es:List gr}{c:Nat}(hH:H.get r=some (.map es c)){es':List gr}{c':Nat}{ES':Array MapEntry}(hE:az ρ es' ES'.toList) :
  Rel Prot w0 ρ (H.set r (.map es' c')) { w with heap:=w.heap.setIfInBounds L.c (.map ES' c') }:=by
 have hlt:L.c<w.heap.size:=(R.dom _ _ _ hL).2
 refine R.turn (w':={ w with heap:=w.heap.setIfInBounds L.c (.map ES' c') }) (y:=.map es' c') hL hH rfl ⟨rfl,rfl,rfl,by simp,fun i hi=>by simp[Array.getElem?_setIfInBounds,Ne.symm hi]⟩ rfl fun l' L' h'=>?_
 obtain⟨x,o,k1,k2,k3⟩:=R.obj _ _ _ h'
 rw[hH]at k1
 simp only[sJ]at k1
 subst k1
 simp only[dy]at k3
 obtain⟨rfl,_⟩:=k3
 rw[hL]at h'
 simp only[sJ]at h'
 subst h'
 exact⟨.map ES' c',by simp[hlt],by simp only[dy]; exact⟨trivial,ES',rfl,hE⟩⟩
theorem FI(R:Rel Prot w0 ρ H w)(t:TypeId){y:af}(h:Aw H []=some (y,H')):dF P Prot w0 ρ w (Instr.makeMap t none) y H':=by
 simp only[Aw,sJ,pJ]at h
 obtain⟨rfl,rfl⟩:=h
 obtain⟨h1,h2⟩:=R.push' (w':=w.alloc (.map #[] 0)) rfl rfl rfl (Array.size_push _) (fun i hi=>by rw[World.alloc,Array.getElem?_push,if_neg (Nat.ne_of_lt hi)])
  (x:=.map [] 0) (o:=.map #[] 0) (lim:=0) (n:=0) (cl:=false) (by rw[World.alloc,Array.getElem?_push,if_pos rfl]) (by simp only[dy]; exact⟨trivial,#[],rfl,by simp[az]⟩) rfl
 refine⟨_,_,_,h1,RowKit.run_makeMap t w,h2,?_⟩
 simp only[ag]
 exact⟨_,fN _ _ _ _,rfl⟩
theorem yO(ok:Bool){x:af}{v:Value}(h:ag ρ x v)(b:Bool):ag ρ (mF ok x b) (if ok=true then .tuple #[v,.bool b] else v):=by
 cases ok with
 | false=>simpa[mF] using h
 | true=>simp[mF,ag,ah,h]
theorem FO(R:Rel Prot w0 ρ H w){t kt el:TypeId}{kc:KC}(hm:P.underlying t=some (.map kt el))(hk:qe P kt=some kc){z:af}(hz:pw P el=some z){ok:Bool}{m k y:af}{mv kv:Value}(hx:ag ρ m mv)(hy:ag ρ k kv)
  (h:rc kc ok z H [m,k]=some (y,H')):dF P Prot w0 ρ w (Instr.lookup t mv kv ok) y H':=by
 obtain⟨zv,hz1,hz2⟩:=pv hz
 unfold rc at h
 split at h <;> first | (simp at h; done) | skip
 ·rename_i k' heq
  simp only[List.cons.injEq,and_true]at heq
  obtain⟨rfl,rfl⟩:=heq
  cases hi:rI kc k with
  | false=>rw[hi]at h; simp at h
  | true=>
   rw[hi]at h
   simp only[cond_true,sJ,pJ]at h
   obtain⟨rfl,rfl⟩:=h
   simp only[ag]at hx
   subst hx
   obtain⟨r',q1,q2⟩:=eE (w:=w) hk hy (es:=[]) (ES:=[]) (r:=none) (by simp[az]) rfl
   simp only[la]at q2
   subst q2
   refine dF.pure R (v:=if ok=true then .tuple #[zv,.bool false] else zv) ?_ (yO ok (hz2 ρ) false)
   simp[Instr.lookup,run_underlying hm,dT (w:=w) hk hy hi,q1,hz1,Result.andThen]
 ·rename_i r k' heq
  simp only[List.cons.injEq,and_true]at heq
  obtain⟨rfl,rfl⟩:=heq
  split at h <;> first | (simp at h; done) | skip
  rename_i es c hH
  obtain⟨L,ES,hL,rfl,hb,hE⟩:=lC R hx hH
  split at h <;> first | (simp at h; done) | skip
  rename_i v hv
  simp only[sJ,pJ]at h
  obtain⟨rfl,rfl⟩:=h
  unfold vy at hv
  cases hi:rI kc k with
  | false=>rw[hi]at hv; simp at hv
  | true=>
   rw[hi]at hv
   simp only[cond_true]at hv
   split at hv <;> first | (simp at hv; done) | skip
   ·rename_i j e hf
    simp only[sJ]at hv
    subst hv
    obtain⟨r',q1,q2⟩:=eE (w:=w) hk hy hE hf
    obtain⟨_,E,rfl,_,_,⟨_,he2,_⟩,_⟩:=q2
    refine dF.pure R (v:=if ok=true then .tuple #[E.val,.bool true] else E.val) ?_ (yO ok he2 true)
    simp[Instr.lookup,run_underlying hm,MapKept.run_getObj_map hb,dT (w:=w) hk hy hi,q1,Result.andThen]
   ·rename_i hf
    simp only[sJ]at hv
    subst hv
    obtain⟨r',q1,q2⟩:=eE (w:=w) hk hy hE hf
    simp only[la]at q2
    subst q2
    refine dF.pure R (v:=if ok=true then .tuple #[zv,.bool false] else zv) ?_ (yO ok (hz2 ρ) false)
    simp[Instr.lookup,run_underlying hm,MapKept.run_getObj_map hb,dT (w:=w) hk hy hi,q1,hz1,Result.andThen]
theorem tO:∀{l:List af},IF l=true->∀{vs:List Value},ah ρ l vs->∀n,((vs.zip vs).all fun (x,y)=>Instr.sameBits n x y)=true
 | [],_,vs,h,n=>by simp only[ah]at h; subst h; rfl
 | .int k a::l,hi,vs,h,n=>by
  simp only[ah,ag]at h
  obtain⟨v,r,rfl,rfl,h⟩:=h
  have:=tO (l:=l) hi h n
  simp only[List.zip_cons_cons,List.all_cons,this,Bool.and_true]
  cases n <;> simp[Instr.sameBits]
theorem vZ{kc:KC}{x:af}{v:Value}(hx:ag ρ x v)(hi:rI kc x=true):(Instr.keyThatStays v v).run P w=.ok v w:=by
 have:Instr.sameBits 10000 v v=true:=by
  cases kc with
  | int=>cases x <;> simp only[rI,PD]at hi; simp only[ag]at hx; subst hx; show Instr.sameBits (9999+1) _ _=true; simp[Instr.sameBits]
  | str=>cases x <;> simp only[rI,PD]at hi; simp only[ag]at hx; subst hx; show Instr.sameBits (9999+1) _ _=true; rw[Instr.sameBits]; exact (MapKept.bytes_beq _ _).2 rfl
  | arr n=>
   cases x <;> simp only[rI,PD]at hi
   simp only[Pu]at hi
   simp only[ag]at hx
   obtain⟨xs,rfl,hxs⟩:=hx
   show Instr.sameBits (9999+1) _ _=true
   have:=tO hi.2 hxs 9999
   simp only[Instr.sameBits,beq_self_eq_true,Bool.true_and]
   exact this
 simp[Instr.keyThatStays,this]
theorem BU(n:Nat):∀(es:List gr) (ES:List MapEntry) (i j:Nat) (e:gr),az ρ es ES->sY n es i=some (j,e)->i<=j/\es[j-i]?=some e/\∃E,ES[j-i]?=some E/\jj ρ e E/\ES.findIdx? (fun e=>(e.born:Int)==(n:Int))=some (j-i)
 | [],ES,i,j,e,_,h=>by simp[sY]at h
 | x::es,ES,i,j,e,hE,h=>by
  simp only[az]at hE
  obtain⟨E,ES',rfl,hEE,hE⟩:=hE
  simp only[sY]at h
  have hb:((E.born:Int)==(n:Int))=Nat.beq x.2.2 n:=by
   rw[hEE.2.2,dM]
   by_cases e:x.2.2=n
   ·simp[e]
   ·have:¬((x.2.2:Int)=(n:Int)):=om
    simp[e,this]
  cases hc:Nat.beq x.2.2 n with
  | true=>
   rw[hc]at h hb
   simp only[cond_true,sJ,pJ]at h
   obtain⟨rfl,rfl⟩:=h
   refine⟨Nat.le_refl _,by simp,E,by simp,hEE,?_⟩
   simp[List.findIdx?_cons,hb]
  | false=>
   rw[hc]at h hb
   simp only[cond_false]at h
   obtain⟨h1,h2,E',h3,h4,h5⟩:=BU n es ES' (i+1) j e hE h
   have e1:j-i=(j-(i+1))+1:=om
   refine⟨om,by rw[e1]; simpa using h2,E',by rw[e1]; simpa using h3,h4,?_⟩
   rw[List.findIdx?_cons,hb]
   simp only[PD,if_false,h5,Option.map_some]
   congr 1; omega
theorem CV(R:Rel Prot w0 ρ H w){t kt el:TypeId}{kc:KC}(hm:P.underlying t=some (.map kt el))(hk:qe P kt=some kc){z:af}(hz:pw P el=some z){m k y:af}{mv kv:Value}(hx:ag ρ m mv)(hy:ag ρ k kv)
  (h:HG (.entry kc z) H [m,k]=some (y,H')):dF P Prot w0 ρ w (Instr.mapEntry t mv kv) y H':=by
 obtain⟨zv,hz1,hz2⟩:=pv hz
 unfold HG at h
 split at h <;> first | (simp at h; done) | skip
 rename_i r l heq
 simp only[List.cons.injEq]at heq
 obtain⟨rfl,rfl⟩:=heq
 split at h <;> first | (simp at h; done) | skip
 rename_i es c hH
 obtain⟨L,ES,hL,rfl,hb,hE⟩:=lC R hx hH
 split at h <;> first | (simp at h; done) | skip
 rename_i v es' c' hv
 simp only[sJ,pJ]at h
 obtain⟨rfl,rfl⟩:=h
 simp only[LS]at hv
 cases hi:rI kc k with
 | false=>rw[hi]at hv; simp at hv
 | true=>
  rw[hi]at hv
  simp only[cond_true]at hv
  split at hv <;> first | (simp at hv; done) | skip
  ·rename_i j e hf
   simp only[sJ,pJ]at hv
   obtain⟨rfl,rfl,rfl⟩:=hv
   obtain⟨r',q1,q2⟩:=eE (w:=w) hk hy hE hf
   obtain⟨_,E,rfl,q3,q4,⟨he1,he2,he3⟩,q5⟩:=q2
   rw[Nat.sub_zero,Array.getElem?_toList]at q4
   refine⟨ρ,_,.tuple #[E.val,.int .i64 E.born],Pl.le_refl _,?_,jW R hL hH (ES':=ES.modify j fun e=>{ e with key:=kv }) (by
    rw[ly q4]
    exact hE.set j ⟨hy,he2,he3⟩),by simp[ag,ah,he2,he3]⟩
   simp[Instr.mapEntry,run_underlying hm,MapKept.run_getObj_map hb,dT (w:=w) hk hy hi,q1,q4,q5,vZ (w:=w) hy hi,MapKept.run_setObj_map _ hb,Result.andThen,goInt]
  ·rename_i hf
   simp only[sJ,pJ]at hv
   obtain⟨rfl,rfl,rfl⟩:=hv
   obtain⟨r',q1,q2⟩:=eE (w:=w) hk hy hE hf
   simp only[la]at q2
   subst q2
   refine⟨ρ,_,.tuple #[zv,.int .i64 c],Pl.le_refl _,?_,jW R hL hH (ES':=ES.push { key:=kv,val:=zv,born:=c }) (by
    rw[Array.toList_push]
    refine hE.append ?_
    simp only[az]
    exact⟨_,_,rfl,⟨hy,hz2 ρ,rfl⟩,rfl⟩),by simp[ag,ah,hz2 ρ]⟩
   simp[Instr.mapEntry,run_underlying hm,MapKept.run_getObj_map hb,dT (w:=w) hk hy hi,q1,hz1,MapKept.run_setObj_map _ hb,Result.andThen,goInt]
theorem DJ(es:List gr)(c:Nat)(n x:af):LS .store es c [n,x]=match n with
  | .int .i64 (.ofNat b)=>match sY b es 0 with
   | some (i,e)=>some (.tuple [],jY es i (e.1,x,e.2.2),c)
   | none=>none
  | _=>none:=by
 cases n with
 | int k z=>cases k <;> cases z <;> rfl
 | _=>rfl
theorem CU(R:Rel Prot w0 ρ H w)(t:TypeId){m n x y:af}{mv nv xv:Value}(hx:ag ρ m mv)(hn:ag ρ n nv)(hy:ag ρ x xv)
  (h:HG .store H [m,n,x]=some (y,H')):y=.tuple []/\∃w',(Instr.entryStore t mv nv xv).run P w=.ok () w'/\Rel Prot w0 ρ H' w':=by
 unfold HG at h
 split at h <;> first | (simp at h; done) | skip
 rename_i r l heq
 simp only[List.cons.injEq]at heq
 obtain⟨rfl,rfl⟩:=heq
 split at h <;> first | (simp at h; done) | skip
 rename_i es c hH
 obtain⟨L,ES,hL,rfl,hb,hE⟩:=lC R hx hH
 split at h <;> first | (simp at h; done) | skip
 rename_i v es' c' hv
 simp only[sJ,pJ]at h
 obtain⟨rfl,rfl⟩:=h
 rw[DJ]at hv
 split at hv <;> first | (simp at hv; done) | skip
 ·rename_i b
  split at hv <;> first | (simp at hv; done) | skip
  rename_i j e hf
  simp only[sJ,pJ]at hv
  obtain⟨rfl,rfl,rfl⟩:=hv
  obtain⟨_,q3,E,q4,⟨he1,he2,he3⟩,q5⟩:=BU b es ES.toList 0 j e hE hf
  rw[Nat.sub_zero]at q3 q4 q5
  rw[Array.getElem?_toList]at q4
  simp only[ag]at hn
  subst hn
  have hidx:ES.findIdx? (fun e=>(e.born:Int)==(b:Int))=some j:=by
   rw[<- q5]; exact (List.findIdx?_toArray _ ES.toList)
  refine⟨rfl,_,?_,jW R hL hH (ES':=ES.modify j fun e=>{ e with val:=xv }) (by
   rw[ly q4]
   exact hE.set j ⟨he1,hy,he3⟩)⟩
  simp[Instr.entryStore,MapKept.run_getObj_map hb,asInt,asIntOf,hidx,MapKept.run_setObj_map _ hb,Result.andThen]
theorem Bq(R:Rel Prot w0 ρ H w){t kt el:TypeId}{kc:KC}(hm:P.underlying t=some (.map kt el))(hk:qe P kt=some kc){m k x y:af}{mv kv xv:Value}(hx:ag ρ m mv)(hy:ag ρ k kv)(hv0:ag ρ x xv)
  (h:HG (.upd kc) H [m,k,x]=some (y,H')):y=.tuple []/\∃w',(Instr.mapUpdate t mv kv xv).run P w=.ok () w'/\Rel Prot w0 ρ H' w':=by
 unfold HG at h
 split at h <;> first | (simp at h; done) | skip
 rename_i r l heq
 simp only[List.cons.injEq]at heq
 obtain⟨rfl,rfl⟩:=heq
 split at h <;> first | (simp at h; done) | skip
 rename_i es c hH
 obtain⟨L,ES,hL,rfl,hb,hE⟩:=lC R hx hH
 split at h <;> first | (simp at h; done) | skip
 rename_i v es' c' hv
 simp only[sJ,pJ]at h
 obtain⟨rfl,rfl⟩:=h
 simp only[LS]at hv
 cases hi:rI kc k with
 | false=>rw[hi]at hv; simp at hv
 | true=>
  rw[hi]at hv
  simp only[cond_true]at hv
  split at hv <;> first | (simp at hv; done) | skip
  ·rename_i j e hf
   simp only[sJ,pJ]at hv
   obtain⟨rfl,rfl,rfl⟩:=hv
   obtain⟨r',q1,q2⟩:=eE (w:=w) hk hy hE hf
   obtain⟨_,E,rfl,q3,q4,⟨he1,he2,he3⟩,q5⟩:=q2
   rw[Nat.sub_zero,Array.getElem?_toList]at q4
   refine⟨rfl,_,?_,jW R hL hH (ES':=ES.modify j fun e=>{ e with key:=kv,val:=xv }) (by
    rw[ly q4]
    exact hE.set j ⟨hy,hv0,he3⟩)⟩
   simp[Instr.mapUpdate,run_underlying hm,MapKept.run_getObj_map hb,dT (w:=w) hk hy hi,q1,q4,q5,vZ (w:=w) hy hi,MapKept.run_setObj_map _ hb,Result.andThen]
  ·rename_i hf
   simp only[sJ,pJ]at hv
   obtain⟨rfl,rfl,rfl⟩:=hv
   obtain⟨r',q1,q2⟩:=eE (w:=w) hk hy hE hf
   simp only[la]at q2
   subst q2
   refine⟨rfl,_,?_,jW R hL hH (ES':=ES.push { key:=kv,val:=xv,born:=c }) (by
    rw[Array.toList_push]
    refine hE.append ?_
    simp only[az]
    exact⟨_,_,rfl,⟨hy,hv0,rfl⟩,rfl⟩)⟩
   simp[Instr.mapUpdate,run_underlying hm,MapKept.run_getObj_map hb,dT (w:=w) hk hy hi,q1,MapKept.run_setObj_map _ hb,Result.andThen]
def J3(P:Program)(t:TypeId):Option (List (Nat×FK)):=match P.underlying t with
 | some (.array n e)=>match P.underlying e,ez P e with
  | some (.int _),some (false,1)=>bif P.eqGuardType P.depth t then none else some ((List.range' 0 n).map fun i=>(i,FK.int))
  | _,_=>none
 | _=>none
def OS(o:Nat)(ks:List (Nat×FK)):List (Nat×FK):=ks.map fun p=>(o+p.1,p.2)
def Gu(P:Program)(rec:TypeId->Option (List (Nat×FK))):List Field->Option (List (Nat×FK))
 | []=>some []
 | f::r => bif f.name == "_" then none else match Gu P rec r with
  | none=>none
  | some l=>match Dn P f.type with
   | some k=>match ez P f.type with
    | some (false,_)=>some ((f.offset,k)::l)
    | _=>none
   | none=>match rec f.type,ez P f.type with
    | some ks,some (true,n)=>bif ks.all (fun p=>Nat.blt p.1 n) then some (OS f.offset ks++l) else none
    | _,_=>none
def Dq(P:Program):Nat->TypeId->Option (List (Nat×FK))
 | 0,_=>none
 | d+1,t=>match P.underlying t with
  | some (.struct fs)=>bif P.stoodInHeld t then none else Gu P (Dq P d) fs.toList
  | _=>none
def J1(P:Program)(t:TypeId):Option (List (Nat×FK)):=bif P.eqGuardType P.depth t then none else Dq P 8 t
theorem tZ(l m:List af):∀(a b:List (Nat×FK)),cV (a++b) l m=match cV a l m with
  | some true=>cV b l m
  | some false=>some false
  | none=>none
 | [],b=>rfl
 | (o,k)::a,b=>by
  simp only[PM,cV]
  cases l[o]? with
  | none=>rfl
  | some x=>
   cases m[o]? with
   | none=>rfl
   | some y=>
    simp only
    cases HB k x y with
    | none=>rfl
    | some q=>cases q with
     | true=>exact tZ l m a b
     | false=>rfl
theorem ym{n o:Nat}(l m:List af):∀(ks:List (Nat×FK)),ks.all (fun p=>Nat.blt p.1 n)=true->cV (OS o ks) l m=cV ks ((l.drop o).take n) ((m.drop o).take n)
 | [],_=>rfl
 | (i,k)::r,h=>by
  rw[List.all_cons,Pu]at h
  have hi:i<n:=by have:=h.1; simpa[Nat.blt_eq] using this
  have ih:=ym (n:=n) (o:=o) l m r h.2
  show cV ((o+i,k)::OS o r) l m=_
  simp only[cV,List.getElem?_take_of_lt hi,List.getElem?_drop,ih]
theorem uW{rec:TypeId->Option (List (Nat×FK))}{d:Nat}
  (hr:∀{t:TypeId} {ks:List (Nat×FK)},rec t=some ks->∀{l m:List af} {xs ys:Array Value},ah ρ l xs.toList->ah ρ m ys.toList->∀{b:Bool},cV ks l m=some b->(Op.equalIn (d+1) t (.agg xs) (.agg ys)).run P w=.ok b w) :
  ∀{fs:List Field} {ks:List (Nat×FK)},Gu P rec fs=some ks->∀{l m:List af} {xs ys:Array Value},ah ρ l xs.toList->ah ρ m ys.toList->∀{b:Bool},cV ks l m=some b->(Op.eqFields (d+1) xs ys fs).run P w=.ok b w
 | [],ks,hk,l,m,xs,ys,hx,hy,b,h=>by
  simp only[Gu,sJ]at hk
  subst hk
  simp only[cV,sJ]at h
  subst h
  rfl
 | f::fs,ks,hk,l,m,xs,ys,hx,hy,b,h=>by
  simp only[Gu]at hk
  cases hn : (f.name == "_") with
  | true=>rw[hn]at hk; simp at hk
  | false=>
   rw[hn]at hk
   simp only[cond_false]at hk
   have hne : f.name ≠ "_" := by simpa using hn
   split at hk <;> first | (simp at hk; done) | skip
   rename_i ks' h3
   split at hk
   ·rename_i k h1
    split at hk <;> first | (simp at hk; done) | skip
    rename_i n h2
    simp only[sJ]at hk
    subst hk
    simp only[cV]at h
    split at h
    ·rename_i x y gx gy
     have p1:fU false n f.offset l=some x:=by simpa[fU] using gx
     have p2:fU false n f.offset m=some y:=by simpa[fU] using gy
     obtain⟨u,u1,u2⟩:=dX (P:=P) (w:=w) (cQ h2) hx p1
     obtain⟨v,v1,v2⟩:=dX (P:=P) (w:=w) (cQ h2) hy p2
     simp only[Op.eqFields,hne,ne_eq,not_false_eq_true,if_true,Sem.run_bind,u1,v1,Result.andThen_ok]
     split at h
     ·rename_i hb
      rw[nN h1 u2 v2 hb d]
      simp only[Result.andThen_ok,Bool.not_true,PD,if_false]
      exact uW hr h3 hx hy h
     ·rename_i hb
      simp only[sJ]at h
      subst h
      rw[nN h1 u2 v2 hb d]
      simp
     ·simp at h
    ·simp at h
   ·split at hk <;> first | (simp at hk; done) | skip
    rename_i kk n h1 h2
    cases ha:kk.all (fun p=>Nat.blt p.1 n) with
    | false=>rw[ha]at hk; simp at hk
    | true=>
     rw[ha]at hk
     simp only[cond_true,sJ]at hk
     subst hk
     rw[tZ,ym l m kk ha]at h
     obtain⟨u,u1,u2⟩:=dX (P:=P) (w:=w) (cQ h2) hx (off:=f.offset) (y:=.agg ((l.drop f.offset).take n)) rfl
     obtain⟨v,v1,v2⟩:=dX (P:=P) (w:=w) (cQ h2) hy (off:=f.offset) (y:=.agg ((m.drop f.offset).take n)) rfl
     simp only[ag]at u2 v2
     obtain⟨us,rfl,u2⟩:=u2
     obtain⟨vs,rfl,v2⟩:=v2
     simp only[Op.eqFields,hne,ne_eq,not_false_eq_true,if_true,Sem.run_bind,u1,v1,Result.andThen_ok]
     split at h
     ·rename_i hb
      rw[hr h1 u2 v2 hb]
      simp only[Result.andThen_ok,Bool.not_true,PD,if_false]
      exact uW hr h3 hx hy h
     ·rename_i hb
      simp only[sJ]at h
      subst h
      rw[hr h1 u2 v2 hb]
      simp
     ·simp at h
theorem BJ:∀(e d:Nat) {t:TypeId} {ks:List (Nat×FK)},Dq P e t=some ks->∀{l m:List af} {xs ys:Array Value},ah ρ l xs.toList->ah ρ m ys.toList->∀{b:Bool},cV ks l m=some b->(Op.equalIn (d+e+1) t (.agg xs) (.agg ys)).run P w=.ok b w
 | 0,d,t,ks,hk,l,m,xs,ys,hx,hy,b,h=>by simp[Dq]at hk
 | e+1,d,t,ks,hk,l,m,xs,ys,hx,hy,b,h=>by
  simp only[Dq]at hk
  split at hk <;> first | (simp at hk; done) | skip
  rename_i fs hu
  cases hs:P.stoodInHeld t with
  | true=>rw[hs]at hk; simp at hk
  | false=>
   rw[hs]at hk
   simp only[cond_false]at hk
   have hfo:P.fieldsOf t=fs:=by simp[Program.fieldsOf,hu]
   have:=run_equalIn_struct (P:=P) w (d+e+1) t xs ys (by rw[hfo]; exact hu) hs
   rw[hfo]at this
   rw[show d+(e+1)+1=d+e+1+1 by omega,this]
   exact uW (rec:=Dq P e) (d:=d+e) (fun h1 _ _ _ _ hx hy _ h=>BJ e d h1 hx hy h) hk hx hy h
def uV(P:Program)(t:TypeId):Option (List (Nat×FK)):=match Gs P t with
 | some x=>some x
 | none=>match J3 P t with
  | some x=>some x
  | none=>J1 P t
theorem Gt{e:TypeId}{kk:IntKind}(he:P.underlying e=some (.int kk))(T:Ty P e false 1){L M:List af}{xs ys:Array Value}(hL:ah ρ L xs.toList)(hM:ah ρ M ys.toList)(d:Nat) :
  ∀(k o:Nat) (b:Bool),cV ((List.range' o k).map fun i=>(i,FK.int)) L M=some b->(Op.eqItems (d+1) e 1 xs ys (List.range' o k)).run P w=.ok b w:=by
 intro k
 induction k with
 | zero=>
  intro o b h
  simp only[List.range'_zero,List.map_nil,cV,sJ]at h
  subst h
  simp[Op.eqItems]
 | succ k ih=>
  intro o b h
  rw[List.range'_succ,List.map_cons]at h
  simp only[cV]at h
  split at h
  ·rename_i x y gx gy
   obtain⟨u,u1,u2⟩:=dX (P:=P) (w:=w) T hL (off:=o) (y:=x) (by simpa[fU] using gx)
   obtain⟨v,v1,v2⟩:=dX (P:=P) (w:=w) T hM (off:=o) (y:=y) (by simpa[fU] using gy)
   have hk:Dn P e=some .int:=by simp[Dn,he]
   rw[List.range'_succ]
   simp only[Op.eqItems,Nat.mul_one,Sem.run_bind,u1,v1,Result.andThen_ok]
   split at h
   ·rename_i hb
    rw[nN hk u2 v2 hb d]
    simp only[Result.andThen_ok,Bool.not_true,PD,if_false]
    exact ih (o+1) b h
   ·rename_i hb
    simp only[sJ]at h
    subst h
    rw[nN hk u2 v2 hb d]
    simp
   ·simp at h
  ·simp at h
theorem BH{op:BinOp}(ho:op=.eql∨op=.neq){t:TypeId}{x y:Operand}{ks:List (Nat×FK)}(hk:uV P t=some ks){l m:List af}{u v:Value}(hp:ag ρ (.agg l) u)(hq:ag ρ (.agg m) v){b:Bool}(h:cV ks l m=some b) :
  (do eqGuard op t x y u v; binOp op t u v:Sem Value).run P w=.ok (.bool (match op with | .eql=>b | _=>!b)) w:=by
 unfold uV at hk
 split at hk
 ·rename_i z hz
  simp only[sJ]at hk
  subst hk
  exact Ll ho hz hp hq h
 split at hk
 ·rename_i hA
  simp only[sJ]at hk
  subst hk
  have hk:=hA
  unfold J3 at hk
  split at hk
  ·rename_i n e hu
   split at hk
   ·rename_i kk he hT
    cases hg:P.eqGuardType P.depth t with
    | true=>rw[hg]at hk; simp at hk
    | false=>
     rw[hg]at hk
     simp only[cond_false,sJ]at hk
     subst hk
     simp only[ag]at hp hq
     obtain⟨xs,rfl,hx⟩:=hp
     obtain⟨ys,rfl,hy⟩:=hq
     obtain⟨hc1,i0,hi0⟩:=xB hT
     have heq:(Op.equalIn 10000 t (.agg xs) (.agg ys)).run P w=.ok b w:=by
      show (Op.equalIn (9998+1+1) t (.agg xs) (.agg ys)).run P w=_
      rw[run_equalIn_array w (9998+1) xs ys hu hi0,hc1,List.range_eq_range']
      exact Gt he (cQ hT) hx hy 9998 n 0 b h
     rcases ho with rfl | rfl
     ·simp only[Sem.run_bind,run_eqGuard_agg w _ t x y xs ys hg,Result.andThen_ok,run_eql_struct,heq]
     ·simp only[Sem.run_bind,run_eqGuard_agg w _ t x y xs ys hg,Result.andThen_ok,run_neq_struct,heq]
   ·simp at hk
  ·simp at hk
 ·unfold J1 at hk
  cases hg:P.eqGuardType P.depth t with
  | true=>rw[hg]at hk; simp at hk
  | false=>
   rw[hg]at hk
   simp only[cond_false]at hk
   simp only[ag]at hp hq
   obtain⟨xs,rfl,hx⟩:=hp
   obtain⟨ys,rfl,hy⟩:=hq
   have heq:(Op.equalIn 10000 t (.agg xs) (.agg ys)).run P w=.ok b w:=BJ 8 9991 hk hx hy h
   rcases ho with rfl | rfl
   ·simp only[Sem.run_bind,run_eqGuard_agg w _ t x y xs ys hg,Result.andThen_ok,run_eql_struct,heq]
   ·simp only[Sem.run_bind,run_eqGuard_agg w _ t x y xs ys hg,Result.andThen_ok,run_neq_struct,heq]
theorem Lt(R:Rel Prot w0 ρ H w){t e:TypeId}(hu:P.underlying t=some (.slice e)){z:List af}(hz:cB P e=some z){ty:TypeId}{x y:af}{v:Value}(hx:ag ρ x v)(h:LY z H [x]=some (y,H')) :
  dF P Prot w0 ρ w (Builtin.clear_ #[t] ty #[v]) y H':=by
 unfold LY at h
 split at h <;> first | (simp at h; done) | skip
 ·rename_i n r heq
  simp only[List.cons.injEq,and_true]at heq
  subst heq
  simp only[sJ,pJ]at h
  obtain⟨rfl,rfl⟩:=h
  simp only[ag]at hx
  obtain⟨_,_,rfl⟩:=hx
  refine dF.pure R (v:=.tuple #[]) ?_ (by simp[ag,ah])
  simp[Builtin.clear_,run_underlying hu]
 ·rename_i a n r heq
  simp only[List.cons.injEq,and_true]at heq
  subst heq
  obtain⟨L,off,c,hL,hsh,rfl,hlen,hoff⟩:=ci hx
  cases hn:Nat.beq n 0 with
  | true=>
   rw[hn]at h
   simp only[cond_true,sJ,pJ]at h
   obtain⟨rfl,rfl⟩:=h
   have:=Py hn
   subst this
   refine dF.pure R (v:=.tuple #[]) ?_ (by simp[ag,ah])
   simp[Builtin.clear_,run_underlying hu]
  | false=>
   rw[hn]at h
   simp only[cond_false]at h
   split at h
   ·rename_i H2 hw
    simp only[sJ,pJ]at h
    obtain⟨rfl,rfl⟩:=h
    have hn0:n≠0:=fun e=>by rw[e]at hn; simp at hn
    rw[hoff om]
    obtain⟨zv,hzr,hzl⟩:=ge hz
    have hl:=ah.len (hzl ρ)
    simp only[Array.length_toList]at hl
    have hm:=jX (hzl ρ) n
    obtain⟨w',h1,h2⟩:=px (P:=P) R hw hL hsh hm
    refine⟨ρ,w',.tuple #[],Pl.le_refl _,?_,h2,by simp[ag,ah]⟩
    have hzc:Builtin.zeroCells zv.cells n=cJ zv.cells (n*z.length):=by
     rw[hl]; rfl
    simp only[Builtin.clear_,List.getElem?_toArray,PA,Sem.run_bind,run_underlying hu,Result.andThen_ok,hzr,hzc]
    rw[h1]
    rfl
   ·simp at h
theorem Lp(R:Rel Prot w0 ρ H w){t t2 e:TypeId}(hu:P.underlying t=some (.slice e)){g:Bool}{n:Nat}(T:Ty P e g n){ty:TypeId}{s x y:af}{u v:Value}(hs:ag ρ s u)(hx:ag ρ x v)(h:LX n H [s,x]=some (y,H')) :
  dF P Prot w0 ρ w (Builtin.copy_ #[t,t2] ty #[u,v]) y H':=by
 unfold LX at h
 split at h <;> first | (simp at h; done) | skip
 rename_i so sl sr xo xl xr heq
 simp only[List.cons.injEq,and_true]at heq
 obtain⟨rfl,rfl⟩:=heq
 have hshape:∀{o:Option Ad} {m:Nat} {r:rR} {z:Value},ag ρ (.slice o m r) z->∃b c,z=.slice b m c:=by
  intro o m r z hz
  cases o with
  | none=>
   simp only[ag]at hz
   obtain⟨h1,h2,rfl⟩:=hz
   exact⟨none,0,by rw[h1]⟩
  | some a=>
   obtain⟨L,off,c,_,_,rfl,_,_⟩:=ci hz
   exact⟨_,_,rfl⟩
 obtain⟨sb,sc,rfl⟩:=hshape hs
 obtain⟨xb,xc,rfl⟩:=hshape hx
 cases hn:Nat.beq (Nat.min xl sl) 0 with
 | true=>
  rw[hn]at h
  simp only[cond_true,sJ,pJ]at h
  obtain⟨rfl,rfl⟩:=h
  have h0:=Py hn
  refine dF.pure R (v:=.int .i64 0) ?_ (by simp[ag])
  have hf:(Builtin.firstCells n 0 (.slice xb xl xc)).run P w=.ok #[] w:=by
   cases xb with
   | none=>rfl
   | some a=>simp only[Builtin.firstCells,loadCells,Nat.zero_mul]; rfl
  simp only[Builtin.copy_,List.getElem?_toArray,PA,PC,Sem.run_bind,run_underlying hu,Result.andThen_ok,Builtin.lenOf,Sem.run_pure,T.size,h0,hf]
  cases sb <;> rfl
 | false=>
  rw[hn]at h
  simp only[cond_false]at h
  have hn0:Nat.min xl sl≠0:=fun e=>by rw[e]at hn; simp at hn
  have hmx:Nat.min xl sl<=xl:=Nat.min_le_left _ _
  have hms:Nat.min xl sl<=sl:=Nat.min_le_right _ _
  cases so with
  | none=>simp at h
  | some a=>
  cases xo with
  | none=>simp at h
  | some b=>
  simp only at h
  split at h <;> first | (simp at h; done) | skip
  rename_i l hl
  split at h <;> first | (simp at h; done) | skip
  rename_i H2 hw
  simp only[sJ,pJ]at h
  obtain⟨rfl,rfl⟩:=h
  obtain⟨L,off,c,hL,hsh,e1,hlen,hoff⟩:=ci hs
  obtain⟨M,moff,mc,hM,msh,e2,mlen,mo⟩:=ci hx
  simp only[Value.slice.injEq,true_and]at e1 e2
  obtain⟨rfl,rfl⟩:=e1
  obtain⟨rfl,rfl⟩:=e2
  have ho:=hoff om
  have hm:=mo om
  subst ho hm
  obtain⟨vs,q1,q2,q3⟩:=lq (P:=P) R hl hM msh
  obtain⟨w',h1,h2⟩:=px (P:=P) R hw hL hsh q2
  refine⟨ρ,w',.int .i64 (Nat.min xl sl:Nat),Pl.le_refl _,?_,h2,by simp[ag]⟩
  have hf:(Builtin.firstCells n (Nat.min xl sl) (.slice (some ⟨M.c,b.o-M.sh,none⟩) xl xc)).run P w=.ok vs w:=q1
  simp only[Builtin.copy_,List.getElem?_toArray,PA,PC,Sem.run_bind,run_underlying hu,Result.andThen_ok,Builtin.lenOf,Sem.run_pure,T.size,hf]
  rw[h1]
  rfl
end
end Go.Abs
