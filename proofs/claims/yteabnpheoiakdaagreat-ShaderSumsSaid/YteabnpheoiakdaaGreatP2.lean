/- Part of a proof (A7 A8 A8b A8c A8d A8e); no condition. -/
import Derived.Laws.BytesString
import Derived.Lib.ConvBytes
import Derived.Lib.Bytealg
import Derived.Laws.Externs
import Derived.Laws.Small
import Derived.Laws.StructEq
import Derived.Lib.OthersKept
import Derived.Test.YteabnpheoiakdaaGreatP1
set_option linter.unusedSimpArgs false
set_option linter.unusedVariables false
set_option linter.unnecessarySimpa false
namespace Go.Abs
section
variable {P:Program} {Prot:Gh} {w0:World} {ρ:Pl} {H H':ae} {w:World}
def nd(l:List aa)(off:Nat)(xs:List aa):List aa:=l.take off++(xs++l.drop (off+xs.length))
def js:List aa->List (Nat×Nat×aa)->Option (List aa)
 | cells,[]=>some cells
 | cells,(off,size,v)::r=>bif Nat.beq v.cells.length size&&Nat.ble (off+size) cells.length then js (nd cells off v.cells) r else none
theorem FF(off:Nat):∀(l:List Value) (k:Nat) (C:Array Value),off+k+l.length<=C.size ->
  ((l.zipIdx k).foldl (fun (cs:Array Value) (p:Value×Nat)=>cs.setIfInBounds (off+p.2) p.1) C).size=C.size /\
  ∀j,((l.zipIdx k).foldl (fun (cs:Array Value) (p:Value×Nat)=>cs.setIfInBounds (off+p.2) p.1) C)[j]?=if off+k<=j/\j<off+k+l.length then l[j-(off+k)]? else C[j]?:=by
 intro l
 induction l with
 | nil=>intro k C _; refine⟨rfl,fun j=>?_⟩; rw[if_neg (by simp only[SG]; omega)]; rfl
 | cons v l ih=>
  intro k C hb
  simp only[SF]at hb
  simp only[List.zipIdx_cons,List.foldl_cons]
  obtain⟨h1,h2⟩:=ih (k+1) (C.setIfInBounds (off+k) v) (by rw[Array.size_setIfInBounds]; omega)
  refine⟨by rw[h1,Array.size_setIfInBounds],fun j=>?_⟩
  rw[h2 j]
  simp only[SF]
  by_cases c1:off+(k+1)<=j/\j<off+(k+1)+l.length
  ·rw[if_pos c1,if_pos om,show j-(off+k)=(j-(off+(k+1)))+1 by omega]
   simp
  ·rw[if_neg c1]
   by_cases c2:j=off+k
   ·subst c2
    rw[if_pos om]
    have:off+k<C.size:=om
    simp[this]
   ·rw[if_neg om,Array.getElem?_setIfInBounds_ne om]
theorem AX{l xs:List aa}{C:Array Value}{vs:Array Value}{off:Nat}(hl:aq ρ l C.toList)(hv:aq ρ xs vs.toList)(hb:off+xs.length<=l.length) :
  aq ρ (nd l off xs) (vs.zipIdx.foldl (fun (cs:Array Value) (p:Value×Nat)=>cs.setIfInBounds (off+p.2) p.1) C).toList:=by
 have e1:=aq.len hl
 have e2:=aq.len hv
 simp only[Array.length_toList]at e1 e2
 have hf:vs.zipIdx.foldl (fun (cs:Array Value) (p:Value×Nat)=>cs.setIfInBounds (off+p.2) p.1) C=(vs.toList.zipIdx 0).foldl (fun (cs:Array Value) (p:Value×Nat)=>cs.setIfInBounds (off+p.2) p.1) C:=by
  rw[<- Array.foldl_toList,Array.toList_zipIdx]
 rw[hf]
 obtain⟨h1,h2⟩:=FF off vs.toList 0 C (by simp; omega)
 refine aq.of_nth _ _ (by simp only[Array.length_toList,h1,nd,lA,SZ,SY]; omega) fun i x hx=>?_
 rw[Array.getElem?_toList,h2 i]
 simp only[Array.length_toList]
 unfold nd at hx
 by_cases c1:off+0<=i/\i<off+0+vs.size
 ·rw[if_pos c1]
  rw[SU (by simp; omega),SS (by simp; omega)]at hx
  have:i-(l.take off).length=i-(off+0):=by simp; omega
  rw[this]at hx
  exact hv.nth _ _ hx
 ·rw[if_neg c1,<- Array.getElem?_toList]
  refine hl.nth _ _ ?_
  rw[<- hx]
  by_cases c2:i<off
  ·rw[SS (by simp; omega),List.getElem?_take,if_pos c2]
  ·rw[SU (by simp; omega),SU (by simp; omega),List.getElem?_drop]
   congr 1
   simp
   omega
def eT(ρ:Pl)(place:Nat->Option (Nat×Nat)):List (Nat×Nat×aa)->List (Nat×Value)->Prop
 | [],ps=>ps=[]
 | (off,size,x)::l,ps=>∃i v r,ps=(i,v)::r/\place i=some (off,size)/\ah ρ x v/\eT ρ place l r
theorem rH{place:Nat->Option (Nat×Nat)}:∀{ps:List (Nat×Nat×aa)} {qs:List (Nat×Value)} {cells out:List aa} {C:Array Value},eT ρ place ps qs->aq ρ cells C.toList ->
  js cells ps=some out->∃C',Instr.fill place C qs=some C'/\aq ρ out C'.toList:=by
 intro ps
 induction ps with
 | nil=>
  intro qs cells out C hp hc h
  simp only[eT]at hp
  subst hp
  simp only[js,sJ]at h
  subst h
  exact⟨C,rfl,hc⟩
 | cons p ps ih=>
  intro qs cells out C hp hc h
  obtain⟨off,size,x⟩:=p
  simp only[eT]at hp
  obtain⟨i,v,r,rfl,hpl,hx,hr⟩:=hp
  simp only[js]at h
  cases hg:(Nat.beq x.cells.length size&&Nat.ble (off+size) cells.length) with
  | false=>rw[hg]at h; simp at h
  | true=>
   rw[hg]at h
   simp only[SE,Nat.ble_eq]at hg
   obtain⟨g1,g2⟩:=hg
   have g1:=SI g1
   simp only[cond_true]at h
   have hxc:=hx.cells
   have e1:=aq.len hxc
   have e2:=aq.len hc
   simp only[Array.length_toList]at e1 e2
   obtain⟨C',q1,q2⟩:=ih hr (AX hc hxc om) h
   refine⟨C',?_,q2⟩
   simp only[Instr.fill,hpl]
   rw[if_neg (by simp; omega)]
   exact q1
def LK:Value->Option aa
 | .bool b=>some (.bool b)
 | .int k n=>some (.int k n)
 | .string s=>some (.str s.data.toList)
 | .pointer none=>some (.ptr none)
 | .slice none 0 0=>some (.slice none 0 (.known 0))
 | .map none=>some (.map none)
 | .nilFunc=>some .nilFunc
 | .nilIface=>some .nilIface
 | _=>none
def um:List Value->Option (List aa)
 | []=>some []
 | v::r=>match LK v,um r with
  | some x,some l=>some (x::l)
  | _,_=>none
def LL:Value->Option aa
 | .agg cs=>match um cs.toList with
  | some l=>some (.agg l)
  | none=>none
 | .tuple cs=>match um cs.toList with
  | some l=>some (.tuple l)
  | none=>none
 | v=>LK v
theorem Ed{v:Value}{x:aa}(h:LK v=some x):ah ρ x v:=by
 unfold LK at h
 split at h <;> simp only[sJ,reduceCtorEq]at h <;> subst h <;> first
  | rfl
  | (simp[ah]; done)
theorem ul:∀{vs:List Value} {l:List aa},um vs=some l->aq ρ l vs:=by
 intro vs
 induction vs with
 | nil=>intro l h; simp only[um,sJ]at h; subst h; simp[aq]
 | cons v r ih=>
  intro l h
  simp only[um]at h
  split at h
  ·rename_i x l' h1 h2
   simp only[sJ]at h
   subst h
   simp only[aq]
   exact⟨v,r,rfl,Ed h1,ih h2⟩
  ·simp at h
theorem Ee{v:Value}{x:aa}(h:LL v=some x):ah ρ x v:=by
 unfold LL at h
 split at h
 ·split at h
  ·rename_i l hl
   simp only[sJ]at h
   subst h
   simp only[ah]
   exact⟨_,rfl,ul hl⟩
  ·simp at h
 ·split at h
  ·rename_i l hl
   simp only[sJ]at h
   subst h
   simp only[ah]
   exact⟨_,rfl,ul hl⟩
  ·simp at h
 ·exact Ed h
def dH(P:Program)(t:TypeId):Option (List aa):=
 match P.info? t with
 | some i=>match i.zero with
  | some z=>um z.cells.toList
  | none=>none
 | none=>none
theorem ii{t:TypeId}{l:List aa}(h:dH P t=some l):∃z,(∀W,(zeroValue t).run P W=.ok z W)/\∀ρ,aq ρ l z.cells.toList:=by
 unfold dH at h
 split at h
 ·rename_i i hi
  split at h
  ·rename_i z hz
   exact⟨z,fun W=>by simp[zeroValue,run_typeInfo W hi,hz],fun ρ=>ul h⟩
  ·simp at h
 ·simp at h
theorem Jt(R:bF Prot w0 ρ H w){t:TypeId}{l:List aa}(h:dH P t=some l):dG P Prot w0 ρ w (Instr.alloc t true (.tuple #[])) (fS H l).1 (fS H l).2:=by
 obtain⟨z,h1,h2⟩:=ii h
 obtain⟨ρ',w',q1,q2,q3,q4⟩:=mz (P:=P) R t (h2 ρ)
 refine⟨ρ',w',.pointer (some ⟨w.heap.size,0,none⟩),q1,?_,q3,?_⟩
 ·simp only[Instr.alloc,Sem.run_bind,h1,Result.andThen_ok,newVar,q2]; rfl
 ·simp only[fS,ah]; exact⟨_,q4,Nat.zero_le _,rfl⟩
def rD(z:List aa):Nat->List aa
 | 0=>[]
 | n+1=>z++rD z n
theorem xk(z:List aa):∀n,(rD z n).length=n*z.length
 | 0=>by simp[rD]
 | n+1=>by simp only[rD,lA,xk z n,Nat.add_mul]; omega
theorem CF(z:List aa):∀(n i:Nat),i<n*z.length->(rD z n)[i]?=z[i % z.length]?
 | 0,i,h=>om
 | n+1,i,h=>by
  simp only[rD]
  by_cases hi:i<z.length
  ·rw[SS hi,Nat.mod_eq_of_lt hi]
  ·have hle:z.length<=i:=om
   rw[SU hle,CF z n _ (by rw[Nat.add_mul]at h; omega),Nat.mod_eq_sub_mod hle]
def dw(z:Array Value)(n:Nat):Array Value:=(Array.range n).map (z[· % z.size]!)
theorem lq{z:List aa}{Z:Array Value}(h:aq ρ z Z.toList)(c:Nat):aq ρ (rD z c) (dw Z (c*z.length)).toList:=by
 have hl:=aq.len h
 simp only[Array.length_toList]at hl
 refine aq.of_nth _ _ (by simp[xk,dw]) fun i x hx=>?_
 have hi:i<c*z.length:=by
  have:=(SC.1 hx).1
  rwa [xk]at this
 rw[CF _ _ _ hi]at hx
 obtain⟨v,h1,h2⟩:=h.nth _ _ hx
 refine⟨v,?_,h2⟩
 rw[Array.getElem?_toList]at h1
 have hz:0<Z.size:=by
  rcases Nat.eq_zero_or_pos z.length with e | e
  ·rw[e]at hi; omega
  ·omega
 have hm:i % Z.size<Z.size:=Nat.mod_lt _ hz
 rw[hl,Array.getElem?_eq_getElem hm]at h1
 simp only[sJ]at h1
 simp only[dw,Array.getElem?_toList,Array.getElem?_map]
 rw[Array.getElem?_range,if_pos hi]
 simp only[Option.map_some,sJ]
 rw[getElem!_pos Z _ hm]
 exact h1
def kz:aa->Option Nat
 | .int .i64 (Int.ofNat n)=>bif Nat.ble n 9223372036854775807 then some n else none
 | _=>none
theorem oJ{x:aa}{n:Nat}(h:kz x=some n):x=.int .i64 (n:Int)/\n<=9223372036854775807:=by
 unfold kz at h
 split at h
 ·rename_i m
  cases hb:Nat.ble m 9223372036854775807 with
  | false=>rw[hb]at h; simp at h
  | true=>
   rw[hb]at h
   simp only[cond_true,sJ]at h
   subst h
   exact⟨rfl,SH hb⟩
 ·simp at h
theorem gM{n:Nat}(h:n<=9223372036854775807):IntKind.i64.wrap (n:Int)=n:=by
 simp[IntKind.wrap,IntKind.signed,IntKind.bits]; omega
def wP(bytes:Nat)(z:List aa)(H:ae)(l c:aa):Option (aa×ae):=
 match kz l,kz c with
 | some l,some c=>
  bif Nat.ble l c&&Nat.ble (bytes*c) 281474976710656 then some (.slice (some ⟨H.next,(rD z c).length,0⟩) l (.known c),H.push (.cells (rD z c) 0 false)) else none
 | _,_=>none
theorem KZ(R:bF Prot w0 ρ H w){sT elem:TypeId}{size bytes:Nat}{z:List aa}(hu:P.underlying sT=some (.slice elem))(E:JQ P elem size bytes)(hz:dH P elem=some z)
  {l c y:aa} {lv cv:Value} (hl:ah ρ l lv) (hc:ah ρ c cv) (h:wP bytes z H l c=some (y,H')):dG P Prot w0 ρ w (Instr.makeSlice sT lv cv) y H':=by
 unfold wP at h
 split at h
 ·rename_i ln cn hln hcn
  obtain⟨rfl,b1⟩:=oJ hln
  obtain⟨rfl,b2⟩:=oJ hcn
  cases hg:(Nat.ble ln cn&&Nat.ble (bytes*cn) 281474976710656) with
  | false=>rw[hg]at h; simp at h
  | true=>
   rw[hg]at h
   simp only[SE,Nat.ble_eq]at hg
   simp only[cond_true,sJ,pJ]at h
   obtain⟨rfl,rfl⟩:=h
   simp only[ah]at hl hc
   subst hl hc
   obtain⟨i,zv,hi,rfl,rfl,hzero,hzs⟩:=E.ex
   obtain⟨zv',hzr,hzl⟩:=ii hz
   have hzv:zv'=zv:=by
    have:=hzr w
    simp[zeroValue,run_typeInfo w hi,hzero]at this
    exact this.symm
   subst hzv
   have hlen:=aq.len (hzl ρ)
   simp only[Array.length_toList,hzs]at hlen
   obtain⟨ρ',w',q1,q2,q3,q4⟩:=mz (P:=P) R elem (lq (hzl ρ) cn)
   have hnb:¬((281474976710656:Int)<(i.bytes:Int)*(cn:Int)):=by
    have:(i.bytes*cn:Nat)<=281474976710656:=hg.2
    rw[<- Int.natCast_mul]; omega
   have hcells:dw zv'.cells (cn*i.size)=dw zv'.cells (cn*z.length):=by rw[hlen]
   refine⟨ρ',w',.slice (some ⟨w.heap.size,0,none⟩) ln cn,q1,?_,q3,?_⟩
   ·have hsz:∀W,(sizeOf elem).run P W=.ok i.size W:=fun W=>by simp[sizeOf,run_typeInfo W hi]
    have e1:¬((cn:Int)<0):=om
    have e2:¬((ln:Int)<0):=om
    have e3:¬((cn:Int)<(ln:Int)):=om
    by_cases hn:cn*i.size=0
    ·have hm:dw zv'.cells (cn*z.length)=#[]:=by rw[<- hcells,hn]; simp[dw]
     rw[hm]at q2
     simp only[Instr.makeSlice,Sem.run_bind,run_underlying hu,Result.andThen_ok,asInt,asIntOf,Sem.run_pure,run_typeInfo _ hi,gM b1,gM b2]
     simp[e1,e2,e3,hnb,hsz,hn,show Array.range 0=#[] by simp,q2]
    ·simp only[Instr.makeSlice,Sem.run_bind,run_underlying hu,Result.andThen_ok,asInt,asIntOf,Sem.run_pure,run_typeInfo _ hi,gM b1,gM b2]
     rw[<- hcells]at q2
     unfold dw at q2
     simp[e1,e2,e3,hnb,hsz,hn,hzr,q2]
   ·simp only[ah]
    exact⟨_,q4,Nat.zero_le _,hg.1,rfl⟩
 ·simp at h
def cA(len:Nat)(z:List aa)(H:ae)(parts:List (Nat×Nat×aa)):Option (aa×ae):=
 match js (rD z len) parts with
 | some xs=>some (.slice (some ⟨H.next,xs.length,0⟩) len (.known len),H.push (.cells xs 0 false))
 | none=>none
theorem BU(R:bF Prot w0 ρ H w){sT elem:TypeId}{size:Nat}{agg:Bool}{z:List aa}(hu:P.underlying sT=some (.slice elem))(T:Ty P elem agg size)(hz:dH P elem=some z)
  (hzl:z.length=size) {len:Nat} (hsm:len*size<=16777216) {ps:List (Nat×Nat×aa)} {qs:Array (Nat×Value)} (hp:eT ρ (fun i=>some (i*size,size)) ps qs.toList) {y:aa}
  (h:cA len z H ps=some (y,H')):dG P Prot w0 ρ w (Instr.buildSlice sT len qs) y H':=by
 unfold cA at h
 split at h
 ·rename_i xs hxs
  simp only[sJ,pJ]at h
  obtain⟨rfl,rfl⟩:=h
  obtain⟨zv,hzr,hzl'⟩:=ii hz
  have hlen:=aq.len (hzl' ρ)
  simp only[Array.length_toList]at hlen
  obtain⟨C,f1,f2⟩:=rH hp (lq (hzl' ρ) len) hxs
  rw[hzl]at f1
  obtain⟨ρ',w',q1,q2,q3,q4⟩:=mz (P:=P) R elem f2
  have hsm':¬16777216<len*size:=om
  refine⟨ρ',w',.slice (some ⟨w.heap.size,0,none⟩) len len,q1,?_,q3,?_⟩
  ·by_cases hn:len*size=0
   ·have hm:dw zv.cells (len*size)=#[]:=by rw[hn]; simp[dw]
    rw[hm]at f1
    simp only[Instr.buildSlice,Sem.run_bind,run_underlying hu,Result.andThen_ok,T.size]
    simp[hn,show Array.range 0=#[] by simp,f1,q2]
   ·unfold dw at f1
    simp only[Instr.buildSlice,Sem.run_bind,run_underlying hu,Result.andThen_ok,T.size]
    simp[hsm',hn,hzr,f1,q2]
  ·simp only[ah]
   exact⟨_,q4,Nat.zero_le _,Nat.le_refl _,rfl⟩
 ·simp at h
def aL(z:List aa)(parts:List (Nat×Nat×aa)):Option aa:=
 match js z parts with
 | some xs=>some (.agg xs)
 | none=>none
theorem Ac{t elem:TypeId}{n size:Nat}{agg:Bool}{z:List aa}(hu:P.underlying t=some (.array n elem))(T:Ty P elem agg size)(hz:dH P t=some z)
  {ps:List (Nat×Nat×aa)} {qs:Array (Nat×Value)} (hp:eT ρ (fun i=>some (i*size,size)) ps qs.toList) {y:aa}
  (h:aL z ps=some y):∃u,(Instr.build t qs).run P w=.ok u w/\ah ρ y u:=by
 unfold aL at h
 split at h
 ·rename_i xs hxs
  simp only[sJ]at h
  subst h
  obtain⟨zv,hzr,hzl'⟩:=ii hz
  obtain⟨C,f1,f2⟩:=rH hp (hzl' ρ) hxs
  refine⟨.agg C,?_,by simp only[ah]; exact⟨C,rfl,f2⟩⟩
  simp only[Instr.build,Sem.run_bind,hzr,Result.andThen_ok,run_underlying hu,T.size]
  simp[f1]
 ·simp at h
def jI(P:Program):List Field->Option (List (Nat×Nat))
 | []=>some []
 | f::r=>match ep P f.type,jI P r with
  | some (_,n),some l=>some ((f.offset,n)::l)
  | _,_=>none
theorem Bc:∀{fs:List Field} {l:List (Nat×Nat)},jI P fs=some l->∀W,(fs.mapM (fun f=>do pure (f.offset,<- sizeOf f.type)):Sem (List (Nat×Nat))).run P W=.ok l W:=by
 intro fs
 induction fs with
 | nil=>intro l h W; simp only[jI,sJ]at h; subst h; rfl
 | cons f r ih=>
  intro l h W
  simp only[jI]at h
  split at h
  ·rename_i a n l' h1 h2
   simp only[sJ]at h
   subst h
   simp only[List.mapM_cons,Sem.run_bind,(dl h1).size,Result.andThen_ok,Sem.run_pure,ih h2]
  ·simp at h
theorem Ab{t:TypeId}{fields:Array Field}{pl:List (Nat×Nat)}{z:List aa}(hu:P.underlying t=some (.struct fields))(hpl:jI P fields.toList=some pl)(hz:dH P t=some z)
  {ps:List (Nat×Nat×aa)} {qs:Array (Nat×Value)} (hp:eT ρ (fun i=>pl[i]?) ps qs.toList) {y:aa}
  (h:aL z ps=some y):∃u,(Instr.build t qs).run P w=.ok u w/\ah ρ y u:=by
 unfold aL at h
 split at h
 ·rename_i xs hxs
  simp only[sJ]at h
  subst h
  obtain⟨zv,hzr,hzl'⟩:=ii hz
  obtain⟨C,f1,f2⟩:=rH hp (hzl' ρ) hxs
  refine⟨.agg C,?_,by simp only[ah]; exact⟨C,rfl,f2⟩⟩
  have hm:(fields.mapM (fun f=>do pure (f.offset,<- sizeOf f.type)):Sem (Array (Nat×Nat))).run P w=.ok pl.toArray w:=by
   rw[Array.mapM_eq_mapM_toList]
   simp only[Sem.run_map,Bc hpl,Result.andThen_ok]
  simp only[Instr.build,Sem.run_bind,hzr,Result.andThen_ok,run_underlying hu,hm]
  simp only[List.getElem?_toArray]
  simp[f1]
 ·simp at h
def B5:aa->Option aa
 | .str s=>some (.int .i64 s.length)
 | .slice _ n _=>some (.int .i64 n)
 | .val (.slice _ n _)=>some (.int .i64 n)
 | _=>none
theorem Bn{T:TypeId}{t:TypeId}(_:JH P T){x y:aa}{v:Value}(hx:ah ρ x v)(h:B5 x=some y)(hk:(∃s,x=.str s/\P.underlying T=some .string)∨(∃a n r e,x=.slice a n r/\P.underlying T=some (.slice e))∨(∃a n c e,x=.val (.slice a n c)/\P.underlying T=some (.slice e))) :
  ∃u,(Builtin.len_ #[T] t #[v]).run P w=.ok u w/\ah ρ y u:=by
 rcases hk with⟨s,rfl,hu⟩ | ⟨a,n,r,e,rfl,hu⟩ | ⟨a,n,c,e,rfl,hu⟩
 ·simp only[B5,sJ]at h
  subst h
  simp only[ah]at hx
  subst hx
  have e2:(aP s).size=s.length:=by simp[aP,ByteArray.size]
  exact⟨.int .i64 s.length,by simp[Builtin.len_,run_underlying hu,goInt,e2],rfl⟩
 ·simp only[B5,sJ]at h
  subst h
  have key:∃base c,v=.slice base n c:=by
   cases a with
   | none=>simp only[ah]at hx; obtain⟨rfl,_,rfl⟩:=hx; exact⟨none,0,rfl⟩
   | some a=>obtain⟨L,off,c,_,_,rfl,h3,_⟩:=cT hx; exact⟨_,c,rfl⟩
  obtain⟨base,c,rfl⟩:=key
  exact⟨.int .i64 n,by simp[Builtin.len_,run_underlying hu,goInt],rfl⟩
 ·simp only[B5,sJ]at h
  subst h
  simp only[ah]at hx
  obtain⟨rfl,_⟩:=hx
  exact⟨.int .i64 n,by simp[Builtin.len_,run_underlying hu,goInt],rfl⟩
end
end Go.Abs
namespace Go.Abs
section
variable {P:Program} {Prot:Gh} {w0:World} {ρ:Pl} {H H':ae} {w:World}
def qU(k:IntKind):aa->Option aa
 | .int _ n=>some (.int k (JV k n))
 | _=>none
theorem Lx{src dst:TypeId}{k:IntKind}{d:TypeDesc}(hs:P.underlying src=some d)(hu:P.underlying dst=some (.int k)){x y:aa}{v:Value}(hx:ah ρ x v)(h:qU k x=some y)(w:World) :
  ∃u,(convert src dst v).run P w=.ok u w/\ah ρ y u:=by
 unfold qU at h
 simp only[mZ]at h
 split at h
 ·rename_i k' n
  simp only[sJ]at h
  subst h
  simp only[ah]at hx
  subst hx
  exact⟨.int k (k.wrap n),by cases d <;> simp[convert,run_underlying hs,run_underlying hu,Conv.intToInt],rfl⟩
 ·simp at h
def OQ(H:ae):aa->Option (aa×ae)
 | .str s=>some (.slice (some ⟨H.next,s.length,0⟩) s.length (.open_ 1),H.push (.cells (s.map fun b=>.int .u8 b.toNat) 0 false true))
 | _=>none
theorem Pz(R:bF Prot w0 ρ H w){src dst e:TypeId}{d:TypeDesc}(hs:P.underlying src=some d)(hd:P.underlying dst=some (.slice e))(he:P.underlying e=some (.int .u8))
  {x y:aa} {v:Value} (hx:ah ρ x v) (h:OQ H x=some (y,H')):dG P Prot w0 ρ w (convert src dst v) y H':=by
 unfold OQ at h
 split at h
 ·rename_i s
  simp only[sJ,pJ]at h
  obtain⟨rfl,rfl⟩:=h
  simp only[ah]at hx
  subst hx
  have hrun:=Lib.run_convert_string_bytes (P:=P) w src dst e (aP s) hs hd he
  have e2:(aP s).size=s.length:=by simp[aP,ByteArray.size]
  rw[e2]at hrun
  have hcap:s.length<=grownCap w s.length 0 e:=by simp only[grownCap,Question.cut]; omega
  have hsz:(Lib.bytesCells w e (aP s)).size=grownCap w s.length 0 e:=by
   have:(aP s).data.size=s.length:=e2
   simp only[Lib.bytesCells,Array.size_append,Array.size_map,this,e2,Array.size_replicate]
   omega
  have hlen:(s.map fun b=>(aa.int .u8 b.toNat)).length=s.length:=by simp
  obtain⟨h1,h2⟩:=R.push' (w':=Lib.bytesWorld w e (aP s)) rfl rfl rfl (Lib.bytesWorld_size _ _ _) (fun i hi=>Lib.bytesWorld_at_old _ _ _ _ hi)
   (x:=.cells (s.map fun b=>.int .u8 b.toNat) 0 false true) (o:=.cells (Lib.bytesCells w e (aP s)) e ((Lib.bytesCells w e (aP s)).size,(Lib.bytesCells w e (aP s)).size+1))
   (lim:=s.length) (n:=grownCap w s.length 0 e) (cl:=false) (Lib.bytesWorld_at_new _ _ _) (by
    simp only[er]
    refine⟨_,_,_,_,rfl,hsz,fun _=>⟨fun i hi=>om,by simp,by simp⟩,by simp,fun _ i i1 i2=>?_⟩
    simp only at i1
    have hb:s[i]?=some s[i]:=SB i2
    refine⟨.int .u8 (s[i]).toNat,.int .u8 (s[i]).toNat,by simp[hb],?_,rfl⟩
    simp only[Lib.bytesCells]
    rw[Array.getElem?_append_left (by simp[aP]; omega)]
    simp[aP,hb]) rfl
  refine⟨_,_,_,h1,hrun,h2,?_⟩
  simp only[ah]
  refine⟨_,fU _ _ _ _,Nat.zero_le _,?_⟩
  exact⟨grownCap w s.length 0 e,0,rfl,hcap,om,.inl ⟨by simp,by simp only; omega,by simp only; omega⟩⟩
 ·simp at h
def oW:List aa->Option (List UInt8)
 | []=>some []
 | .int .u8 n::r=>match oW r with
  | some l=>some (UInt8.ofNat n.toNat::l)
  | none=>none
 | _::_=>none
theorem BS:∀{xs:List aa} {vs:List Value} {l:List UInt8},aq ρ xs vs->oW xs=some l->∃ns:List Int,vs=ns.map (Value.int .u8)/\l=ns.map fun n=>UInt8.ofNat n.toNat:=by
 intro xs
 induction xs with
 | nil=>intro vs l h1 h2; simp only[aq]at h1; subst h1; simp only[oW,sJ]at h2; subst h2; exact⟨[],rfl,rfl⟩
 | cons x xs ih=>
  intro vs l h1 h2
  simp only[aq]at h1
  obtain⟨v,r,rfl,hv,hr⟩:=h1
  unfold oW at h2
  split at h2
  ·rename_i heq; simp at heq
  ·rename_i n r' heq
   simp only[List.cons.injEq]at heq
   obtain⟨rfl,rfl⟩:=heq
   split at h2
   ·rename_i l' hl'
    simp only[sJ]at h2
    subst h2
    obtain⟨ns,rfl,rfl⟩:=ih hr hl'
    simp only[ah]at hv
    subst hv
    exact⟨n::ns,rfl,rfl⟩
   ·simp at h2
  ·simp at h2
theorem Bz(ns:List Int):∀s:ByteArray,(ns.foldl (fun r n=>r.push (UInt8.ofNat n.toNat)) s).data.toList=s.data.toList++ns.map fun n=>UInt8.ofNat n.toNat:=by
 induction ns with
 | nil=>intro s; simp
 | cons n ns ih=>intro s; simp only[List.foldl_cons,ih,List.map_cons]; simp[ByteArray.push]
def OR(H:ae):aa->Option aa
 | .slice none _ _=>some (.str [])
 | .val (.slice (some _) 0 0)=>some (.str [])
 | .slice (some a) n _=>match bE H a n with
  | some xs=>match oW xs with
   | some l=>some (.str l)
   | none=>none
  | none=>none
 | _=>none
theorem Qt(R:bF Prot w0 ρ H w){src dst e:TypeId}(hs:P.underlying src=some (.slice e))(he:P.underlying e=some (.int .u8))(hd:P.underlying dst=some .string)
  {x y:aa} {v:Value} (hx:ah ρ x v) (h:OR H x=some y):∃u,(convert src dst v).run P w=.ok u w/\ah ρ y u:=by
 unfold OR at h
 split at h
 ·simp only[sJ]at h
  subst h
  simp only[ah]at hx
  obtain⟨_,_,rfl⟩:=hx
  refine⟨.string ByteArray.empty,?_,by simp only[ah]; rfl⟩
  rw[run_convert_bytes_string w src dst e none 0 0 hs he hd]
  rfl
 ·simp only[sJ]at h
  subst h
  simp only[ah]at hx
  obtain⟨rfl,_⟩:=hx
  refine⟨.string ByteArray.empty,?_,by simp only[ah]; rfl⟩
  rw[run_convert_bytes_string w src dst e _ 0 0 hs he hd]
  exact run_bytesToString w _ 0 0 [] rfl
 ·rename_i a n r
  split at h
  ·rename_i xs hxs
   split at h
   ·rename_i l hl
    simp only[sJ]at h
    subst h
    obtain⟨L,off,c,h1,h2,rfl,h3,h4⟩:=cT hx
    obtain⟨vs,q1,q2,q3⟩:=np (P:=P) R hxs h1 h2
    obtain⟨ns,e1,rfl⟩:=BS q2 hl
    have hvs:vs=(ns.map (Value.int .u8)).toArray:=by rw[<- e1]
    refine⟨.string (ns.foldl (fun r n=>r.push (UInt8.ofNat n.toNat)) ByteArray.empty),?_,?_⟩
    ·rw[run_convert_bytes_string w src dst e _ _ _ hs he hd]
     refine run_bytesToString w _ n c ns ?_
     by_cases hn:n=0
     ·subst hn
      have:vs=#[]:=by simpa using q3
      rw[<- hvs,this]
      rfl
     ·have:=h4 om
      subst this
      rw[<- hvs]
      exact q1
    ·simp only[ah]
     congr 1
     have:=Bz ns ByteArray.empty
     unfold aP
     cases hx:ns.foldl (fun r n=>r.push (UInt8.ofNat n.toNat)) ByteArray.empty with | mk d=>
     rw[hx]at this
     congr 1
     exact Array.toList_inj.1 (by simpa using this)
   ·simp at h
  ·simp at h
 ·simp at h
def LN(op:UnOp):aa->Option aa
 | .int k n=>match op with
  | .neg=>some (.int k (JV k (0-n)))
  | .xor=>some (.int k (k.wrap (BitVec.ofInt k.bits (if k.signed then -1 else k.max) ^^^ BitVec.ofInt k.bits n).toNat))
  | _=>none
 | .bool b=>match op with
  | .not=>some (.bool (!b))
  | _=>none
 | _=>none
theorem Pv{op:UnOp}{x y:aa}{v:Value}(hx:ah ρ x v)(h:LN op x=some y)(w:World):∃u,(Op.unary op v).run P w=.ok u w/\ah ρ y u:=by
 unfold LN at h
 simp only[mZ]at h
 split at h
 ·simp only[ah]at hx
  subst hx
  split at h <;> simp only[sJ,reduceCtorEq]at h
  all_goals
   subst h
   exact⟨_,by simp[Op.unary,Op.intArith,Op.intBits],rfl⟩
 ·simp only[ah]at hx
  subst hx
  split at h <;> simp only[sJ,reduceCtorEq]at h
  subst h
  exact⟨_,rfl,rfl⟩
 ·simp at h
end
end Go.Abs
namespace Go.Abs
section
variable {P:Program} {ρ:Pl} {w:World}
inductive LV where
 | bool | ptr | slice | map | func | iface (const:Bool)
def fg:LV->aa->aa->Option Bool
 | .bool,.bool a,.bool b=>some (a==b)
 | .ptr,.ptr none,.ptr none=>some true
 | .ptr,.ptr none,.ptr (some _)=>some false
 | .ptr,.ptr (some _),.ptr none=>some false
 | .ptr,.ptr (some a),.ptr (some b)=>bif Nat.beq a.b b.b&&Nat.beq a.lim b.lim then some (Nat.beq a.o b.o) else none
 | .slice,.slice none _ _,.slice none _ _=>some true
 | .slice,.slice none _ _,.slice (some _) _ _=>some false
 | .slice,.slice (some _) _ _,.slice none _ _=>some false
 | .map,.map none,.map none=>some true
 | .map,.map none,.map (some _)=>some false
 | .map,.map (some _),.map none=>some false
 | .func,.nilFunc,.nilFunc=>some true
 | .func,.nilFunc,.func _ _ _=>some false
 | .func,.func _ _ _,.nilFunc=>some false
 | .iface _,.nilIface,.iface _ _=>some false
 | .iface _,.iface _ _,.nilIface=>some false
 | .iface c,.nilIface,.nilIface=>bif c then some true else none
 | _,_,_=>none
def NM:Operand->Bool
 | .const _=>true
 | _=>false
def qP(P:Program)(t:TypeId)(x y:Operand):Option LV:=
 match P.underlying t with
 | some .bool=>some .bool
 | some (.pointer e)=>match ep P e with
  | some (_,n)=>bif Nat.beq n 0 then none else some .ptr
  | none=>none
 | some (.slice _)=>some .slice
 | some (.map _ _)=>some .map
 | some (.func _ _ _)=>some .func
 | some (.interface _)=>some (.iface (NM x||NM y))
 | _=>none
theorem ja{a:Option Ad}{n:Nat}{r:uy}{v:Value}(h:ah ρ (.slice a n r) v):∃b m c,v=.slice b m c/\b.isNone=a.isNone:=by
 cases a with
 | none=>simp only[ah]at h; exact⟨none,0,0,h.2.2,rfl⟩
 | some a=>obtain⟨_,_,_,_,_,h3,_⟩:=cT h; exact⟨_,_,_,h3,rfl⟩
theorem BD{t:TypeId}{x y:Operand}{k:LV}(hk:qP P t x y=some k){p q:aa}{u v:Value}(hp:ah ρ p u)(hq:ah ρ q v){b:Bool}(h:fg k p q=some b)(d:Nat):(Op.equalIn (d+1) t u v).run P w=.ok b w:=by
 unfold qP at hk
 split at hk
 ·rename_i hu
  simp only[sJ]at hk; subst hk
  cases p <;> cases q <;> simp only[fg,sJ,reduceCtorEq]at h
  simp only[ah]at hp hq
  subst hp hq h
  simp[Op.equalIn,run_underlying hu]
 ·rename_i e hu
  split at hk
  ·rename_i g n hn
   cases hb:Nat.beq n 0 with
   | true=>rw[hb]at hk; simp at hk
   | false=>
    rw[hb]at hk
    simp only[cond_false,sJ]at hk; subst hk
    have hn0:n≠0:=fun e=>by rw[e]at hb; simp at hb
    have hs:=(dl hn).size
    cases p <;> cases q <;> simp only[fg,sJ,reduceCtorEq]at h
    rename_i a c
    cases a with
    | none=>
     simp only[ah]at hp
     subst hp
     cases c with
     | none=>simp only[ah]at hq; subst hq; simp only[fg,sJ]at h; subst h; simp[Op.equalIn,run_underlying hu]
     | some c=>simp only[ah]at hq; obtain⟨L,_,_,rfl⟩:=hq; simp only[fg,sJ]at h; subst h; simp[Op.equalIn,run_underlying hu]
    | some a=>
     simp only[ah]at hp
     obtain⟨L,l1,l2,rfl⟩:=hp
     cases c with
     | none=>simp only[ah]at hq; subst hq; simp only[fg,sJ]at h; subst h; simp[Op.equalIn,run_underlying hu]
     | some c=>
      simp only[ah]at hq
      obtain⟨M,m1,m2,rfl⟩:=hq
      simp only[fg]at h
      cases hg:(Nat.beq a.b c.b&&Nat.beq a.lim c.lim) with
      | false=>rw[hg]at h; simp at h
      | true=>
       rw[hg]at h
       simp only[SE]at hg
       simp only[cond_true,sJ]at h
       subst h
       rw[SI hg.1,SI hg.2,m1]at l1
       obtain rfl:=(sJ _ _).mp l1
       have e:((⟨M.c,a.o-M.sh,none⟩:Addr)==⟨M.c,c.o-M.sh,none⟩)=Nat.beq a.o c.o:=by
        rw[cE]
        have:((⟨M.c,a.o-M.sh,none⟩:Addr)==⟨M.c,c.o-M.sh,none⟩)=decide ((⟨M.c,a.o-M.sh,none⟩:Addr)=⟨M.c,c.o-M.sh,none⟩):=by
         by_cases h:(⟨M.c,a.o-M.sh,none⟩:Addr)=⟨M.c,c.o-M.sh,none⟩ <;> simp[h]
        rw[this]
        congr 1
        simp only[Addr.mk.injEq,true_and,and_true,eq_iff_iff]
        omega
       simp[Op.equalIn,run_underlying hu,hs,hn0,sameAddr,e]
  ·simp at hk
 ·rename_i e hu
  simp only[sJ]at hk; subst hk
  cases p <;> cases q <;> simp only[fg,sJ,reduceCtorEq]at h
  rename_i a n r c m s
  obtain⟨b1,m1,c1,rfl,e1⟩:=ja hp
  obtain⟨b2,m2,c2,rfl,e2⟩:=ja hq
  cases a <;> cases c <;> cases b1 <;> cases b2 <;> simp only[Option.isNone_none,Option.isNone_some,reduceCtorEq,SO,Bool.true_eq_false]at e1 e2 <;>
   simp only[fg,sJ,reduceCtorEq]at h <;> subst h <;> simp[Op.equalIn,run_underlying hu]
 ·rename_i e1 e2 hu
  simp only[sJ]at hk; subst hk
  cases p <;> cases q <;> simp only[fg,sJ,reduceCtorEq]at h
  rename_i a c
  cases a <;> cases c <;> simp only[ah]at hp hq <;> simp only[fg,sJ,reduceCtorEq]at h
  ·subst hp hq h; simp[Op.equalIn,run_underlying hu]
  ·obtain⟨_,_,rfl⟩:=hq; subst hp h; simp[Op.equalIn,run_underlying hu]
  ·obtain⟨_,_,rfl⟩:=hp; subst hq h; simp[Op.equalIn,run_underlying hu]
 ·rename_i e1 e2 e3 hu
  simp only[sJ]at hk; subst hk
  cases p <;> cases q <;> simp only[fg,sJ,reduceCtorEq]at h <;> simp only[ah]at hp hq
  ·obtain⟨_,_,rfl,_⟩:=hp; subst hq h; simp[Op.equalIn,run_underlying hu]
  ·obtain⟨_,_,rfl,_⟩:=hq; subst hp h; simp[Op.equalIn,run_underlying hu]
  ·subst hp hq h; simp[Op.equalIn,run_underlying hu]
 ·rename_i e hu
  simp only[sJ]at hk; subst hk
  cases p <;> cases q <;> simp only[fg,sJ,reduceCtorEq]at h <;> simp only[ah]at hp hq
  ·obtain⟨_,rfl,_⟩:=hp; subst hq h; simp[Op.equalIn,run_underlying hu]
  ·obtain⟨_,rfl,_⟩:=hq; subst hp h; simp[Op.equalIn,run_underlying hu]
  ·subst hp hq
   cases hc:(NM x||NM y) with
   | false=>rw[hc]at h; simp[fg]at h
   | true=>
    rw[hc]at h
    simp only[fg,cond_true,sJ]at h
    subst h
    simp[Op.equalIn,run_underlying hu]
 ·simp at hk
theorem IP{t:TypeId}{x y:Operand}{k:LV}(hk:qP P t x y=some k){p q:aa}{u v:Value}(hp:ah ρ p u)(hq:ah ρ q v){b:Bool}(h:fg k p q=some b):(Op.equal t u v).run P w=.ok b w:=
 BD hk hp hq h 9999
theorem Lu{k:LV}{p q:aa}{u v:Value}(hp:ah ρ p u)(hq:ah ρ q v){b:Bool}(h:fg k p q=some b)(t:TypeId) :
  binOp .eql t u v=(do pure (.bool (<- Op.equal t u v)))/\binOp .neq t u v=(do pure (.bool (!(<- Op.equal t u v)))):=by
 cases p with
 | bool a=>simp only[ah]at hp; subst hp; cases v <;> exact⟨rfl,rfl⟩
 | int=>cases k <;> simp[fg]at h
 | str=>cases k <;> simp[fg]at h
 | agg=>cases k <;> simp[fg]at h
 | tuple=>cases k <;> simp[fg]at h
 | val=>cases k <;> simp[fg]at h
 | ptr a=>cases a <;> simp only[ah]at hp <;> first | (subst hp; cases v <;> exact⟨rfl,rfl⟩) | (obtain⟨_,_,_,rfl⟩:=hp; cases v <;> exact⟨rfl,rfl⟩)
 | slice a n r=>obtain⟨_,_,_,rfl,_⟩:=ja hp; cases v <;> exact⟨rfl,rfl⟩
 | map a=>cases a <;> simp only[ah]at hp <;> first | (subst hp; cases v <;> exact⟨rfl,rfl⟩) | (obtain⟨_,_,rfl⟩:=hp; cases v <;> exact⟨rfl,rfl⟩)
 | func=>simp only[ah]at hp; obtain⟨_,_,rfl,_⟩:=hp; cases v <;> exact⟨rfl,rfl⟩
 | nilFunc=>simp only[ah]at hp; subst hp; cases v <;> exact⟨rfl,rfl⟩
 | iface=>simp only[ah]at hp; obtain⟨_,rfl,_⟩:=hp; cases v <;> exact⟨rfl,rfl⟩
 | nilIface=>simp only[ah]at hp; subst hp; cases v <;> exact⟨rfl,rfl⟩
theorem wh{k:LV}{p q:aa}{u v:Value}{x y:Operand}{t:TypeId}(hk:qP P t x y=some k)(hp:ah ρ p u)(hq:ah ρ q v){b:Bool}(h:fg k p q=some b)(op:BinOp) :
  (eqGuard op t x y u v).run P w=.ok () w:=by
 cases p with
 | bool a=>simp only[ah]at hp; subst hp; cases op <;> rfl
 | int=>cases k <;> simp[fg]at h
 | str=>cases k <;> simp[fg]at h
 | agg=>cases k <;> simp[fg]at h
 | tuple=>cases k <;> simp[fg]at h
 | val=>cases k <;> simp[fg]at h
 | ptr a=>cases a <;> simp only[ah]at hp <;> first | (subst hp; cases op <;> rfl) | (obtain⟨_,_,_,rfl⟩:=hp; cases op <;> rfl)
 | slice a n r=>obtain⟨_,_,_,rfl,_⟩:=ja hp; cases op <;> rfl
 | map a=>cases a <;> simp only[ah]at hp <;> first | (subst hp; cases op <;> rfl) | (obtain⟨_,_,rfl⟩:=hp; cases op <;> rfl)
 | func=>simp only[ah]at hp; obtain⟨_,_,rfl,_⟩:=hp; cases op <;> rfl
 | nilFunc=>simp only[ah]at hp; subst hp; cases op <;> rfl
 | iface=>simp only[ah]at hp; obtain⟨_,rfl,_⟩:=hp; cases op <;> rfl
 | nilIface=>
  simp only[ah]at hp
  subst hp
  cases q with
  | nilIface=>
   simp only[ah]at hq
   subst hq
   cases k with
   | iface c=>
    cases c with
    | false=>simp[fg]at h
    | true=>
     have hc:(NM x||NM y)=true:=by
      unfold qP at hk
      split at hk <;> first | (simp at hk; done) | skip
      ·split at hk <;> first | (simp at hk; done) | skip
       rename_i n _
       cases hb:Nat.beq n 0 <;> rw[hb]at hk <;> simp at hk
      ·simpa using hk
     clear hk
     cases op <;> first | rfl | (cases x <;> cases y <;> first | rfl | (simp[NM]at hc))
   | _=>simp[fg]at h
  | iface=>simp only[ah]at hq; obtain⟨_,rfl,_⟩:=hq; cases op <;> rfl
  | _=>cases k <;> simp[fg]at h
theorem IM{op:BinOp}(ho:op=.eql∨op=.neq){t:TypeId}{x y:Operand}{k:LV}(hk:qP P t x y=some k){p q:aa}{u v:Value}(hp:ah ρ p u)(hq:ah ρ q v){b:Bool}(h:fg k p q=some b) :
  (do eqGuard op t x y u v; binOp op t u v:Sem Value).run P w=.ok (.bool (match op with | .eql=>b | _=>!b)) w:=by
 have he:=IP (w:=w) hk hp hq h
 obtain⟨e1,e2⟩:=Lu hp hq h t
 rcases ho with rfl | rfl
 ·simp only[Sem.run_bind,wh hk hp hq h,Result.andThen_ok,e1,he]; rfl
 ·simp only[Sem.run_bind,wh hk hp hq h,Result.andThen_ok,e2,he]; rfl
end
end Go.Abs
namespace Go.Abs
section
variable {P:Program} {ρ:Pl} {w:World}
inductive FK where
 | int | str | bool
def Lt:aa->aa->Option Bool
 | .int k a,.int k' b=>if k=k' then some (IU a b) else none
 | _,_=>none
def P0:aa->aa->Option Bool
 | .str a,.str b=>some (a==b)
 | _,_=>none
def P1:aa->aa->Option Bool
 | .bool a,.bool b=>some (a==b)
 | _,_=>none
def OM:FK->aa->aa->Option Bool
 | .int,x,y=>Lt x y
 | .str,x,y=>P0 x y
 | .bool,x,y=>P1 x y
def ef:List (Nat×FK)->List aa->List aa->Option Bool
 | [],_,_=>some true
 | (o,k)::r,l,m=>match l[o]?,m[o]? with
  | some x,some y=>match OM k x y with
   | some true=>ef r l m
   | some false=>some false
   | none=>none
  | _,_=>none
def FG(P:Program)(t:TypeId):Option FK:=
 match P.underlying t with
 | some (.int _)=>some .int
 | some .string=>some .str
 | some .bool=>some .bool
 | _=>none
def tM(P:Program):List Field->Option (List (Nat×FK))
 | []=>some []
 | f::r => bif f.name == "_" then none else match FG P f.type, ep P f.type, tM P r with
  | some k,some (false,_),some l=>some ((f.offset,k)::l)
  | _,_,_=>none
def IQ(P:Program)(t:TypeId):Option (List (Nat×FK)):=
 match P.underlying t with
 | some (.struct fs)=>bif P.stoodInHeld t||P.eqGuardType P.depth t then none else tM P fs.toList
 | _=>none
theorem pH(a b:List UInt8):(aP a==aP b)=(a==b):=by
 have:(aP a==aP b)=(a.toArray==b.toArray):=rfl
 rw[this]
 by_cases h:a=b
 ·subst h; simp
 ·have:a.toArray≠b.toArray:=fun e=>h (by simpa using congrArg Array.toList e)
  simp[h]
theorem pW{t:TypeId}{k:FK}(hk:FG P t=some k){x y:aa}{u v:Value}(hx:ah ρ x u)(hy:ah ρ y v){b:Bool}(h:OM k x y=some b)(d:Nat):(Op.equalIn (d+1) t u v).run P w=.ok b w:=by
 unfold FG at hk
 split at hk <;> simp only[sJ,reduceCtorEq]at hk <;> subst hk <;> rename_i hu <;> simp only[OM]at h
 ·unfold Lt at h
  split at h
  ·rename_i k' a k'' b'
   split at h
   ·rename_i hkk
    simp only[sJ]at h
    simp only[ah]at hx hy
    subst hx hy h hkk
    simp[Op.equalIn,run_underlying hu,fD]
   ·simp at h
  ·simp at h
 ·unfold P0 at h
  split at h
  ·simp only[sJ]at h
   simp only[ah]at hx hy
   subst hx hy h
   simp[Op.equalIn,run_underlying hu,pH]
  ·simp at h
 ·unfold P1 at h
  split at h
  ·simp only[sJ]at h
   simp only[ah]at hx hy
   subst hx hy h
   simp[Op.equalIn,run_underlying hu]
  ·simp at h
theorem Df:∀{fs:List Field} {ks:List (Nat×FK)},tM P fs=some ks->∀{l m:List aa} {xs ys:Array Value},aq ρ l xs.toList->aq ρ m ys.toList->∀{b:Bool},ef ks l m=some b->∀d,(Op.eqFields (d+1) xs ys fs).run P w=.ok b w
 | [],ks,hk,l,m,xs,ys,hx,hy,b,h,d=>by
  simp only[tM,sJ]at hk
  subst hk
  simp only[ef,sJ]at h
  subst h
  rfl
 | f::fs,ks,hk,l,m,xs,ys,hx,hy,b,h,d=>by
  simp only[tM]at hk
  cases hn : (f.name == "_") with
  | true=>rw[hn]at hk; simp at hk
  | false=>
   rw[hn]at hk
   simp only[cond_false]at hk
   split at hk
   ·rename_i k n ks' h1 h2 h3
    simp only[sJ]at hk
    subst hk
    simp only[ef]at h
    have hne : f.name ≠ "_" := by simpa using hn
    split at h
    ·rename_i x y gx gy
     have p1:hJ false n f.offset l=some x:=by simpa[hJ] using gx
     have p2:hJ false n f.offset m=some y:=by simpa[hJ] using gy
     obtain⟨u,u1,u2⟩:=eW (P:=P) (w:=w) (dl h2) hx p1
     obtain⟨v,v1,v2⟩:=eW (P:=P) (w:=w) (dl h2) hy p2
     simp only[Op.eqFields,hne,ne_eq,not_false_eq_true,if_true,Sem.run_bind,u1,v1,Result.andThen_ok]
     split at h
     ·rename_i hb
      rw[pW h1 u2 v2 hb d]
      simp only[Result.andThen_ok,Bool.not_true,SO,if_false]
      exact Df h3 hx hy h d
     ·rename_i hb
      simp only[sJ]at h
      subst h
      rw[pW h1 u2 v2 hb d]
      simp
     ·simp at h
    ·simp at h
   ·simp at hk
theorem N1{op:BinOp}(ho:op=.eql∨op=.neq){t:TypeId}{x y:Operand}{ks:List (Nat×FK)}(hk:IQ P t=some ks){l m:List aa}{u v:Value}(hp:ah ρ (.agg l) u)(hq:ah ρ (.agg m) v){b:Bool}(h:ef ks l m=some b) :
  (do eqGuard op t x y u v; binOp op t u v:Sem Value).run P w=.ok (.bool (match op with | .eql=>b | _=>!b)) w:=by
 unfold IQ at hk
 split at hk
 ·rename_i fs hu
  cases hg:(P.stoodInHeld t||P.eqGuardType P.depth t) with
  | true=>rw[hg]at hk; simp at hk
  | false=>
   rw[hg]at hk
   simp only[cond_false]at hk
   rw[Bool.or_eq_false_iff]at hg
   simp only[ah]at hp hq
   obtain⟨xs,rfl,hx⟩:=hp
   obtain⟨ys,rfl,hy⟩:=hq
   have hfo:P.fieldsOf t=fs:=by simp[Program.fieldsOf,hu]
   have he:(Op.equalIn 10000 t (.agg xs) (.agg ys)).run P w=.ok b w:=by
    have:=run_equalIn_struct (P:=P) w 9999 t xs ys (by rw[hfo]; exact hu) hg.1
    rw[this,hfo]
    exact Df hk hx hy h 9998
   rcases ho with rfl | rfl
   ·simp only[Sem.run_bind,run_eqGuard_agg w _ t x y xs ys hg.2,Result.andThen_ok,run_eql_struct,he]
   ·simp only[Sem.run_bind,run_eqGuard_agg w _ t x y xs ys hg.2,Result.andThen_ok,run_neq_struct,he]
 ·simp at hk
inductive PF where
 | eqv (neg:Bool) (k:LV)
 | eqS (neg:Bool) (fs:List (Nat×FK))
 | mm (great:Bool)
 | ibs
 | cbs
 | s2a (n:Nat)
 | isP
 | mkP
 | unP
 | isU
 | capt (i:Nat)
 | tup
 | dset
 | isF (g k:Nat)
 | tAss (t:Nat) (ok:Bool) (z:aa)
 | apart
def JC(great:Bool):aa->aa->Option aa
 | .int k x,.int _ y=>some (.int k (bif (bif great then MA x y else MA y x) then y else x))
 | _,_=>none
def Ot(great:Bool):aa->List aa->Option aa
 | x,[]=>some x
 | x,y::r=>match JC great x y with
  | some z=>Ot great z r
  | none=>none
def yl(c:UInt8):List UInt8->Nat->Int
 | [],_=>.negSucc 0
 | b::r,n=>bif Nat.beq b.toNat c.toNat then .ofNat n else yl c r (n+1)
def Ov:List aa->Option aa
 | [.str s,.int .u8 (.ofNat c)]=>some (.int .i64 (yl c.toUInt8 s 0))
 | _=>none
def J0(c:Nat):List UInt8->Nat->Nat
 | [],n=>n
 | b::r,n=>bif Nat.beq b.toNat c then J0 c r (n+1) else J0 c r n
def Oz:List aa->Option aa
 | [.str s,.int .u8 (.ofNat c)]=>bif Nat.ble c 255 then some (.int .i64 (.ofNat (J0 c s 0))) else none
 | _=>none
theorem BP(c:UInt8):∀(l:List UInt8) (n:Nat),J0 c.toNat l n=n+l.count c
 | [],n=>by simp[J0]
 | b::r,n=>by
  simp only[J0,List.count_cons]
  have e:Nat.beq b.toNat c.toNat=(b==c):=by
   rw[cE,Bool.eq_iff_iff,SP,beq_iff_eq]
   exact UInt8.toNat_inj
  rw[e]
  cases h:b==c with
  | true=>rw[cond_true,BP c r]; simp; omega
  | false=>rw[cond_false,BP c r]; simp
def Ow(neg:Bool)(k:LV):List aa->Option aa
 | [x,y]=>match fg k x y with
  | some b=>some (.bool (bif neg then !b else b))
  | none=>none
 | _=>none
def JB(g:Bool):List aa->Option aa
 | x::r=>Ot g x r
 | []=>none
def Ay(neg:Bool)(fs:List (Nat×FK)):List aa->Option aa
 | [.agg l,.agg m]=>match ef fs l m with
  | some b=>some (.bool (bif neg then !b else b))
  | none=>none
 | _=>none
def Oq(n:Nat):List aa->Option aa
 | [.slice (some a) len _]=>bif Nat.ble n len&&Nat.blt 0 n then some (.ptr (some a)) else none
 | _=>none
def kX(x:aa):aa:=.func (.func 0) [.val (.bool false)] [x]
def fY:aa->Bool
 | .func (.func 0) [.val (.bool false)] [_]=>true
 | _=>false
def Ou:List aa->Option aa
 | [x]=>some (.bool (fY x))
 | _=>none
def Qz:List aa->Option aa
 | [.iface t x]=>some (kX (.iface t x))
 | _=>none
def LM:List aa->Option aa
 | [.tuple []]=>some .nilIface
 | [.func (.func 0) [.val (.bool false)] [x]]=>some x
 | _=>none
def isU:aa->Bool
 | .tuple []=>true
 | _=>false
def LQ:List aa->Option aa
 | [x]=>some (.bool (isU x))
 | _=>none
def Nb(i:Nat):List aa->Option aa
 | [.func _ [] l]=>l[i]?
 | _=>none
def JD(g k:Nat):List aa->Option aa
 | [.func (.func f) [] l]=>bif Nat.beq f g&&Nat.beq l.length k then some (.bool true) else none
 | _=>none
def M6(t:Nat)(ok:Bool)(z:aa):List aa->Option aa
 | [.nilIface]=>bif ok then some (.tuple [z,.bool false]) else none
 | [.iface u v]=>bif Nat.beq u t then (bif ok then some (.tuple [v,.bool true]) else some v) else bif ok then some (.tuple [z,.bool false]) else none
 | _=>none
def Pw:List aa->aa
 | [x]=>x
 | l=>.tuple l
def Na:List aa->Option aa
 | [.tuple [],.func (.func f) a b]=>some (.func (.func f) a b)
 | _=>none
def du:aa->Option Nat
 | .ptr (some a)=>some a.b
 | .slice (some a) _ _=>some a.b
 | .map (some r)=>some r
 | _=>none
def Gd(x y:aa):Bool:=match du x,du y with
 | some b,some c=>!Nat.beq b c
 | _,_=>true
def JF:List aa->Option aa
 | [x,y]=>bif Gd x y then some (.bool true) else none
 | _=>none
def gJ:PF->List aa->Option aa
 | .apart,l=>JF l
 | .isP,l=>Ou l
 | .mkP,l=>Qz l
 | .unP,l=>LM l
 | .isU,l=>LQ l
 | .capt i,l=>Nb i l
 | .isF g k,l=>JD g k l
 | .tAss t ok z,l=>M6 t ok z l
 | .tup,l=>some (Pw l)
 | .dset,l=>Na l
 | .s2a n,l=>Oq n l
 | .eqv neg k,l=>Ow neg k l
 | .eqS neg fs,l=>Ay neg fs l
 | .mm g,l=>JB g l
 | .ibs,l=>Ov l
 | .cbs,l=>Oz l
theorem NE{g:Bool}{x y z:aa}{u v:Value}(hx:ah ρ x u)(hy:ah ρ y v)(h:JC g x y=some z) :
  ∃q,ah ρ z q/\(if g then Builtin.max2 u v else Builtin.min2 u v)=pure q:=by
 unfold JC at h
 split at h
 ·rename_i k a k' b
  simp only[sJ]at h
  subst h
  simp only[ah]at hx hy
  subst hx hy
  cases g
  ·refine⟨.int k (if b<a then b else a),?_,rfl⟩
   simp only[cond_false,tq,ah]
   by_cases hh:b<a <;> simp[hh]
  ·refine⟨.int k (if b > a then b else a),?_,rfl⟩
   simp only[cond_true,tq,ah]
   by_cases hh:a<b <;> simp[hh]
 ·simp at h
theorem HY{g:Bool}:∀{l:List aa} {x z:aa} {u:Value} {vs:List Value},ah ρ x u->aq ρ l vs->Ot g x l=some z ->
  ∃q,ah ρ z q/\(vs.foldlM (if g then Builtin.max2 else Builtin.min2) u).run P w=.ok q w
 | [],x,z,u,vs,hx,hl,h=>by
  simp only[aq]at hl; subst hl
  simp only[Ot,sJ]at h; subst h
  exact⟨u,hx,rfl⟩
 | y::l,x,z,u,vs,hx,hl,h=>by
  simp only[aq]at hl
  obtain⟨v,r,rfl,hy,hr⟩:=hl
  simp only[Ot]at h
  split at h
  ·rename_i m hm
   obtain⟨q,hq,e⟩:=NE hx hy hm
   obtain⟨q',hq',e'⟩:=HY hq hr h
   refine⟨q',hq',?_⟩
   rw[List.foldlM_cons]
   have:(if g then Builtin.max2 else Builtin.min2) u v=pure q:=by rw[<- e]; cases g <;> rfl
   rw[this]
   simpa using e'
  ·simp at h
theorem It(c:UInt8):∀(s:List UInt8) (n:Nat),yl c s n=if Lib.indexByte s c=-1 then -1 else Lib.indexByte s c+n
 | [],n=>rfl
 | b::s,n=>by
  have hb:Nat.beq b.toNat c.toNat=(b==c):=by
   rw[cE]
   by_cases h:b=c
   ·subst h; simp
   ·have:b.toNat≠c.toNat:=fun e=>h (UInt8.toNat_inj.1 e)
    simp[h,this]
  simp only[yl,Lib.indexByte,hb]
  by_cases hc:(b==c)=true
  ·simp[hc]
  ·have hge:=Lib.indexByte_ge s c
   rw[Bool.not_eq_true]at hc
   simp only[hc,cond_false,It c s (n+1),SO,if_false,beq_iff_eq]
   by_cases h:Lib.indexByte s c=-1
   ·simp[h]
   ·simp only[h,if_false]
    rw[if_neg om]
    omega
def C0(P:Program)(f:FuncId):Bool:=
 match P.funcs[f]? with
 | some fn => fn.body.isNone && (fn.name == "internal/bytealg.IndexByteString") && (Extern.findNext fn).isNone
 | none=>false
theorem IE {fn : Func} (h : fn.name = "internal/bytealg.IndexByteString") : Extern.find fn = some Extern.BytealgIndexByte.indexByte := by
 unfold Extern.find
 rw[h]
 kernel_rfl
theorem NP{f:FuncId}(hf:C0 P f=true){l:List aa}{z:aa}(h:Ov l=some z){vs:Array Value}(hv:aq ρ l vs.toList) :
  ∃q,ah ρ z q/\(callFunc f vs).run P w=.ok (.value q) w:=by
 unfold C0 at hf
 split at hf
 ·rename_i fn hfn
  simp only[SE,beq_iff_eq]at hf
  obtain⟨⟨h1,h2⟩,h3⟩:=hf
  unfold Ov at h
  split at h <;> first | (simp at h; done) | skip
  rename_i s c
  simp only[sJ]at h
  subst h
  simp only[aq]at hv
  obtain⟨v1,r1,e1,hv1,v2,r2,rfl,hv2,rfl⟩:=hv
  simp only[ah]at hv1 hv2
  subst hv1 hv2
  have ha:vs=#[.string (aP s),.int .u8 (.ofNat c)]:=Array.toList_inj.1 (by simpa using e1)
  subst ha
  refine⟨_,?_,by rw[run_callFunc_extern hfn (by rw[h2]; rfl) h1 (by simpa using h3) (IE h2),Lib.run_indexByteString]; rfl⟩
  simp only[ah,It,aP]
  by_cases hh:Lib.indexByte s c.toUInt8=-1
  ·simp[hh]
  ·simp[hh]
 ·simp at hf
def C3(P:Program)(f:FuncId):Bool:=
 match P.funcs[f]? with
 | some fn => fn.body.isNone && (fn.name == "internal/bytealg.CountString") && (Extern.findNext fn).isNone
 | none=>false
theorem IF {fn : Func} (h : fn.name = "internal/bytealg.CountString") : Extern.find fn = some Extern.BytealgCount.count := by
 unfold Extern.find
 rw[h]
 kernel_rfl
theorem N7{f:FuncId}(hf:C3 P f=true){l:List aa}{z:aa}(h:Oz l=some z){vs:Array Value}(hv:aq ρ l vs.toList) :
  ∃q,ah ρ z q/\(callFunc f vs).run P w=.ok (.value q) w:=by
 unfold C3 at hf
 split at hf
 ·rename_i fn hfn
  simp only[SE,beq_iff_eq]at hf
  obtain⟨⟨h1,h2⟩,h3⟩:=hf
  unfold Oz at h
  split at h <;> first | (simp at h; done) | skip
  rename_i s c
  cases hc:Nat.ble c 255 with
  | false=>rw[hc]at h; simp at h
  | true=>
   rw[hc]at h
   simp only[cond_true,sJ]at h
   subst h
   simp only[aq]at hv
   obtain⟨v1,r1,e1,hv1,v2,r2,rfl,hv2,rfl⟩:=hv
   simp only[ah]at hv1 hv2
   subst hv1 hv2
   have ha:vs=#[.string (aP s),.int .u8 (.ofNat c)]:=Array.toList_inj.1 (by simpa using e1)
   subst ha
   have hcc:c.toUInt8.toNat=c:=by
    have:=SH hc
    show (UInt8.ofNat c).toNat=c
    rw[UInt8.toNat_ofNat']; omega
   refine⟨_,?_,by rw[run_callFunc_extern hfn (by rw[h2]; rfl) h1 (by simpa using h3) (IF h2),Lib.run_countString]; rfl⟩
   have:=BP c.toUInt8 s 0
   rw[hcc]at this
   simp only[ah,aP,this,Lib.countByte]
   simp
 ·simp at hf
def nR(n size:Nat)(x:aa)(lo hi mx:Option aa):Option aa:=
 match x with
 | .ptr (some a)=>
  match ur n n lo hi mx with
  | some (l,h,m)=>bif Nat.beq (m.getD n) l then some (.slice (some a) (h-l) (.known (m.getD n-l))) else some (.slice (some ⟨a.b,a.lim,a.o+l*size⟩) (h-l) (.known (m.getD n-l)))
  | none=>none
 | _=>none
theorem Ho{t elem:TypeId}{agg:Bool}{n size:Nat}(hu:P.underlying t=some (.array n elem))(T:Ty P elem agg size){x y:aa}{v:Value}{lo hi mx:Option aa}{lv hv mv:Option Value}
  (hx:ah ρ x v) (hl:ge ρ lo lv) (hh:ge ρ hi hv) (hm:ge ρ mx mv) (h:nR n size x lo hi mx=some y):∃u,(Instr.sliceAt t v lv hv mv).run P w=.ok u w/\ah ρ y u:=by
 unfold nR at h
 split at h
 ·rename_i a
  split at h
  ·rename_i l hn m hb
   simp only[ah]at hx
   obtain⟨L,h1,h2,rfl⟩:=hx
   obtain⟨q1,q2,q3,q4⟩:=qd (P:=P) (w:=w) (isSlice:=false) (Nat.le_refl n) hl hh hm hb
   have q5:hn<=m.getD n:=by
    cases m with
    | none=>simp; omega
    | some q=>simpa using (q4 q rfl).1
   cases hb:Nat.beq (m.getD n) l with
   | true=>
    rw[hb]at h
    simp only[cond_true,sJ]at h
    subst h
    have:=SI hb
    refine⟨.slice (some ⟨L.c,a.o-L.sh,none⟩) (hn-l) (m.getD n-l),?_,?_⟩
    ·simp only[Instr.sliceAt,Sem.run_bind,run_underlying hu,Result.andThen_ok,q1,T.size,this,if_true,Sem.run_pure,asAddr,Instr.sureAddr]
    ·simp only[ah]
     exact⟨L,h1,h2,om,rfl⟩
   | false=>
    rw[hb]at h
    simp only[cond_false,sJ]at h
    subst h
    have hne:¬m.getD n=l:=fun e=>by rw[e,Nat.beq_refl]at hb; simp at hb
    refine⟨.slice (some ⟨L.c,a.o-L.sh+l*size,none⟩) (hn-l) (m.getD n-l),?_,?_⟩
    ·simp only[Instr.sliceAt,Sem.run_bind,run_underlying hu,Result.andThen_ok,q1,T.size,if_neg hne,Sem.run_pure,Option.map_some,ee,asAddr,Instr.sureAddr]
    ·simp only[ah]
     refine⟨L,h1,by first | omega | (simp only; omega),?_⟩
     simp only[bU]
     refine⟨om,?_⟩
     congr 3
     omega
  ·simp at h
 ·simp at h
theorem Nw{t e:TypeId}{n:Nat}(hu:P.underlying t=some (.array n e)){x y:aa}{v:Value}(hx:ah ρ x v)(h:Oq n [x]=some y):∃u,(Instr.arrayAt t v).run P w=.ok u w/\ah ρ y u:=by
 unfold Oq at h
 split at h <;> first | (simp at h; done) | skip
 rename_i a len r heq
 simp only[List.cons.injEq,and_true]at heq
 subst heq
 cases hb:(Nat.ble n len&&Nat.blt 0 n) with
 | false=>rw[hb]at h; simp at h
 | true=>
  rw[hb]at h
  simp only[cond_true,sJ]at h
  subst h
  simp only[SE]at hb
  have h1:=SH hb.1
  have h2:0<n:=SH hb.2
  obtain⟨L,off,c,hL,hsh,rfl,h3,h4⟩:=cT hx
  have h4:=h4 om
  subst h4
  refine⟨.pointer (some ⟨L.c,a.o-L.sh,none⟩),?_,?_⟩
  ·have:¬len<n:=om
   simp[Instr.arrayAt,run_underlying hu,this]
  ·simp only[ah]
   exact⟨L,hL,hsh,rfl⟩
end
end Go.Abs
namespace Go.Abs
section
variable {P:Program} {Prot:Gh} {w0:World} {ρ:Pl} {H H':ae} {w:World}
def Fh:List UInt8->Nat->Option UInt8
 | [],_=>none
 | b::_,0=>some b
 | _::r,n+1=>Fh r n
theorem xB:∀(l:List UInt8) (n:Nat),Fh l n=l[n]?
 | [],n=>by simp[Fh]
 | b::l,0=>by simp[Fh]
 | b::l,n+1=>by simp[Fh,xB l n]
inductive KC where
 | int
 | str
 | arr (n:Nat)
inductive MF where
 | entry (kc:KC) (z:aa)
 | store
 | upd (kc:KC)
abbrev ip:=aa×aa×Nat
def zH:List aa->List aa->Option Bool
 | [],[]=>some true
 | .int k a::l,.int k' b::m=>if k=k' then (bif IU a b then zH l m else some false) else none
 | _,_=>none
def Bp:KC->aa->aa->Option Bool
 | .int,.int k a,.int k' b=>if k=k' then some (IU a b) else none
 | .str,.str a,.str b=>some (a==b)
 | .arr n,.agg l,.agg m=>bif Nat.beq l.length n&&Nat.beq m.length n then zH l m else none
 | _,_,_=>none
def Ln:List aa->Bool
 | []=>true
 | .int _ _::l=>Ln l
 | _::_=>false
def xM:KC->aa->Bool
 | .int,.int _ _=>true
 | .str,.str _=>true
 | .arr n,.agg l=>Nat.beq l.length n&&Ln l
 | _,_=>false
def gj(kc:KC)(k:aa):List ip->Nat->Option (Option (Nat×ip))
 | [],_=>some none
 | e::r,i=>match Bp kc k e.1 with
  | some true=>some (some (i,e))
  | some false=>gj kc k r (i+1)
  | none=>none
def nB:List ip->Nat->ip->List ip
 | [],_,_=>[]
 | _::r,0,e=>e::r
 | x::r,i+1,e=>x::nB r i e
def uR(ok:Bool)(v:aa)(b:Bool):aa:=bif ok then .tuple [v,.bool b] else v
def yh(kc:KC)(ok:Bool)(z:aa)(es:List ip)(k:aa):Option aa:=bif xM kc k then
  match gj kc k es 0 with
  | some (some (_,e))=>some (uR ok e.2.1 true)
  | some none=>some (uR ok z false)
  | none=>none
 else none
def vT(n:Nat):List ip->Nat->Option (Nat×ip)
 | [],_=>none
 | e::r,i=>bif Nat.beq e.2.2 n then some (i,e) else vT n r (i+1)
def QA:MF->List ip->Nat->List aa->Option (aa×List ip×Nat)
 | .entry kc z,es,c,[k]=>bif xM kc k then
   match gj kc k es 0 with
   | some (some (i,e))=>some (.tuple [e.2.1,.int .i64 (.ofNat e.2.2)],nB es i (k,e.2),c)
   | some none=>some (.tuple [z,.int .i64 (.ofNat c)],es++[(k,z,c)],c+1)
   | none=>none
  else none
 | .store,es,c,[.int .i64 (.ofNat n),x]=>match vT n es 0 with
   | some (i,e)=>some (.tuple [],nB es i (e.1,x,e.2.2),c)
   | none=>none
 | .upd kc,es,c,[k,x]=>bif xM kc k then
   match gj kc k es 0 with
   | some (some (i,e))=>some (.tuple [],nB es i (k,x,e.2.2),c)
   | some none=>some (.tuple [],es++[(k,x,c)],c+1)
   | none=>none
  else none
 | _,_,_,_=>none
def HN(g:Nat->Option cJ)(a c:Ad):Option Bool:=
 bif Nat.beq a.b c.b then (bif Nat.beq a.lim c.lim then some (Nat.beq a.o c.o) else none)
 else match g a.b,g c.b with
  | some (.cells _ _ false false),some (.cells _ _ false false)=>some false
  | _,_=>none
inductive gp where
 | p
 | i
 | s
def yX(g:Nat->Option cJ):gp->aa->aa->Option Bool
 | .p,.ptr (some a),.ptr (some c)=>HN g a c
 | .i,.int k n,.int k' m=>if k=k' then some (IU n m) else none
 | .s,.str x,.str y=>some (x==y)
 | _,_,_=>none
def QI:gp->aa->Bool
 | .p,.ptr (some _)=>true
 | .i,.int _ _=>true
 | .s,.str _=>true
 | _,_=>false
def EZ(g:Nat->Option cJ)(ks:gp×gp):aa->aa->Option Bool
 | .agg [x,y],.agg [x',y']=>match yX g ks.1 x x' with
  | some true=>yX g ks.2 y y'
  | some false=>some false
  | none=>none
 | _,_=>none
def tC(ks:gp×gp):aa->Bool
 | .agg [x,y]=>QI ks.1 x&&QI ks.2 y
 | _=>false
def jg(g:Nat->Option cJ)(ks:gp×gp)(k:aa):List ip->Nat->Option (Option (Nat×ip))
 | [],_=>some none
 | e::r,i=>match EZ g ks k e.1 with
  | some true=>some (some (i,e))
  | some false=>jg g ks k r (i+1)
  | none=>none
inductive jR where
 | lit (len:Nat) (z:List aa) (ofs:List (Nat×Nat))
 | map
 | mk (by_:Nat) (z:List aa)
 | new (z:List aa)
inductive HF where
 | mkMap
 | pLook (ks:gp×gp) (ok:Bool) (z:aa)
 | pUpd (ks:gp×gp)
 | pDel (ks:gp×gp)
 | mLook (kc:KC) (ok:Bool) (z:aa)
 | mf (f:MF)
 | clr (z:List aa)
 | cpy (size:Nat)
 | strRange
 | strNext
 | mark
 | gIdx (g m n:Nat)
 | gLd (g:Nat) (agg:Bool) (n:Nat)
 | gFld (g off:Nat)
 | fill (b:Nat) (k:jR)
def B3(H:ae):List aa->Option (aa×ae)
 | [.str s]=>some (.ptr (some ⟨H.next,0,0⟩),H.push (.iter s 0))
 | _=>none
def Jz(H:ae):List aa->Option (aa×ae)
 | [.ptr (some ⟨b,0,0⟩)]=>match H.get b with
  | some (.iter s pos)=>match Fh s pos with
   | none=>some (.tuple [.bool false],H)
   | some c=>bif Nat.ble 128 c.toNat then
     match Utf8.decode (aP s) pos with
     | (r,n)=>some (.tuple [.bool true,.int .i64 (.ofNat pos),.int .i32 (.ofNat r)],H.set b (.iter s (pos+n)))
    else some (.tuple [.bool true,.int .i64 (.ofNat pos),.int .i32 (.ofNat c.toNat)],H.set b (.iter s (pos+1)))
  | _=>none
 | _=>none
def JA(H:ae):List aa->Option (aa×ae)
 | [.slice (some a) n r]=>match H.get a.b with
  | some (.cells l low false _)=>some (.slice (some a) n r,H.set a.b (.cells l low false true))
  | _=>none
 | _=>none
def Iz(H:ae)(g:Nat):Option aa:=match H.get g with
 | some (.cells l _ true)=>some (.ptr (some ⟨g,l.length,0⟩))
 | _=>none
def M8(g m n:Nat)(H:ae):List aa->Option (aa×ae)
 | [i]=>match Iz H g with
  | some p=>match fw m n p i with
   | some v=>some (v,H)
   | none=>none
  | none=>none
 | _=>none
def QB(g:Nat)(agg:Bool)(n:Nat)(H:ae):List aa->Option (aa×ae)
 | []=>match Iz H g with
  | some p=>match au agg n H p with
   | some v=>some (v,H)
   | none=>none
  | none=>none
 | _=>none
def M9(g off:Nat)(H:ae):List aa->Option (aa×ae)
 | []=>match Iz H g with
  | some p=>match ic off p with
   | some v=>some (v,H)
   | none=>none
  | none=>none
 | _=>none
def B4(H:ae):List aa->Option (aa×ae)
 | []=>some (.map (some H.next),H.push (.map [] 0))
 | _=>none
def uo(kc:KC)(ok:Bool)(z:aa)(H:ae):List aa->Option (aa×ae)
 | [.map none,k]=>bif xM kc k then some (uR ok z false,H) else none
 | [.map (some r),k]=>match H.get r with
  | some (.map es _)=>match yh kc ok z es k with
   | some v=>some (v,H)
   | none=>none
  | _=>none
 | _=>none
def rR(g:Nat->Option cJ)(ks:gp×gp)(ok:Bool)(z:aa)(es:List ip)(k:aa):Option aa:=bif tC ks k then
  match jg g ks k es 0 with
  | some (some (_,e))=>some (uR ok e.2.1 true)
  | some none=>some (uR ok z false)
  | none=>none
 else none
def nT(ks:gp×gp)(ok:Bool)(z:aa)(H:ae):List aa->Option (aa×ae)
 | [.map (some r),k]=>match H.get r with
  | some (.map es _)=>match rR H.get ks ok z es k with
   | some v=>some (v,H)
   | none=>none
  | _=>none
 | _=>none
def yg(g:Nat->Option cJ)(ks:gp×gp)(es:List ip)(c:Nat)(k x:aa):Option (List ip×Nat):=bif tC ks k then
  match jg g ks k es 0 with
  | some (some (i,e))=>some (nB es i (k,x,e.2.2),c)
  | some none=>some (es++[(k,x,c)],c+1)
  | none=>none
 else none
def wO(ks:gp×gp)(H:ae):List aa->Option (aa×ae)
 | [.map (some r),k,x]=>match H.get r with
  | some (.map es c)=>match yg H.get ks es c k x with
   | some (es',c')=>some (.tuple [],H.set r (.map es' c'))
   | none=>none
  | _=>none
 | _=>none
def Jx(g:Nat->Option cJ)(ks:gp×gp)(es:List ip)(c:Nat)(k:aa):Option (List ip×Nat):=bif tC ks k then
  match jg g ks k es 0 with
  | some (some (i,_))=>some (es.eraseIdx i,c)
  | some none=>some (es,c)
  | none=>none
 else none
def Jy(ks:gp×gp)(H:ae):List aa->Option (aa×ae)
 | [.map (some r),k]=>match H.get r with
  | some (.map es c)=>match Jx H.get ks es c k with
   | some (es',c')=>some (.tuple [],H.set r (.map es' c'))
   | none=>none
  | _=>none
 | _=>none
def M7(f:MF)(H:ae):List aa->Option (aa×ae)
 | .map (some r)::l=>match H.get r with
  | some (.map es c)=>match QA f es c l with
   | some (v,es',c')=>some (v,H.set r (.map es' c'))
   | none=>none
  | _=>none
 | _=>none
def Oy(z:List aa)(H:ae):List aa->Option (aa×ae)
 | [.slice none _ _]=>some (.tuple [],H)
 | [.slice (some a) n _]=>bif Nat.beq n 0 then some (.tuple [],H) else match dX H a (rD z n) with
  | some H'=>some (.tuple [],H')
  | none=>none
 | _=>none
def Ox(size:Nat)(H:ae):List aa->Option (aa×ae)
 | [.slice so sl _,.slice xo xl _]=>
  bif Nat.beq (Nat.min xl sl) 0 then some (.int .i64 (.ofNat 0),H) else match so,xo with
  | some a,some b=>match bE H b (Nat.min xl sl*size) with
   | some l=>match dX H a l with
    | some H'=>some (.int .i64 (.ofNat (Nat.min xl sl)),H')
    | none=>none
   | none=>none
  | _,_=>none
 | _=>none
def Em:List (Nat×Nat)->List aa->List (Nat×Nat×aa)
 | (o,n)::r,x::l=>(o,n,x)::Em r l
 | _,_=>[]
def lG(k:jR)(b:Nat)(l:List aa):Option (aa×cJ):=match k with
 | .lit len z ofs=>match js (rD z len) (Em ofs l) with
  | some xs=>some (.slice (some ⟨b,xs.length,0⟩) len (.known len),.cells xs 0 false)
  | none=>none
 | .map=>match l with
  | []=>some (.map (some b),.map [] 0)
  | _=>none
 | .mk by_ z=>match l with
  | [x,y]=>match kz x,kz y with
   | some l,some c=>bif Nat.ble l c&&Nat.ble (by_*c) 281474976710656 then some (.slice (some ⟨b,(rD z c).length,0⟩) l (.known c),.cells (rD z c) 0 false) else none
   | _,_=>none
  | _=>none
 | .new z=>match l with
  | []=>some (.ptr (some ⟨b,z.length,0⟩),.cells z 0 false)
  | _=>none
def gG(k:jR)(b:Nat)(H:ae)(l:List aa):Option (aa×ae):=
 match H.get b with
 | some (.cells _ 0 false)=>match lG k b l with
  | some p=>some (p.1,H.set b p.2)
  | none=>none
 | _=>none
def mV:HF->ae->List aa->Option (aa×ae)
 | .fill b k,H,l=>gG k b H l
 | .mkMap,H,l=>B4 H l
 | .pLook ks ok z,H,l=>nT ks ok z H l
 | .pUpd ks,H,l=>wO ks H l
 | .pDel ks,H,l=>Jy ks H l
 | .mLook kc ok z,H,l=>uo kc ok z H l
 | .mf f,H,l=>M7 f H l
 | .clr z,H,l=>Oy z H l
 | .cpy n,H,l=>Ox n H l
 | .strRange,H,l=>B3 H l
 | .strNext,H,l=>Jz H l
 | .mark,H,l=>JA H l
 | .gIdx g m n,H,l=>M8 g m n H l
 | .gLd g a n,H,l=>QB g a n H l
 | .gFld g o,H,l=>M9 g o H l
theorem Fy(w:World)(s:ByteArray):(w.iter s 0).heap.size=w.heap.size+1:=by
 show (w.heap.push _).size=_
 simp
theorem Io(w:World)(s:ByteArray){i:Nat}(h:i<w.heap.size):(w.iter s 0).heap[i]?=w.heap[i]?:=by
 show (w.heap.push _)[i]?=_
 simp[Array.getElem?_push,Nat.ne_of_lt h]
theorem HE(R:bF Prot w0 ρ H w){t:TypeId}(hu:P.underlying t=some .string){x y:aa}{v:Value}(hx:ah ρ x v)(h:B3 H [x]=some (y,H')):dG P Prot w0 ρ w (Instr.range t v) y H':=by
 unfold B3 at h
 split at h <;> first | (simp at h; done) | skip
 rename_i s heq
 simp only[List.cons.injEq,and_true]at heq
 subst heq
 simp only[sJ,pJ]at h
 obtain⟨rfl,rfl⟩:=h
 simp only[ah]at hx
 subst hx
 have hrun:=run_range_string (P:=P) w t (aP s) hu
 obtain⟨h1,h2⟩:=R.push' (w':=w.iter (aP s) 0) rfl rfl rfl (Fy w (aP s)) (fun i hi=>Io w (aP s) hi)
  (x:=.iter s 0) (o:=.stringIter (aP s) 0) (lim:=0) (n:=0) (cl:=false) (World.iter_heap w (aP s) 0) (by simp only[er]; exact⟨trivial,trivial⟩) rfl
 refine⟨_,_,_,h1,hrun,h2,?_⟩
 simp only[ah]
 exact⟨_,fU _ _ _ _,Nat.zero_le _,rfl⟩
theorem KR(R:bF Prot w0 ρ H w){t:TypeId}{x y:aa}{v:Value}(hx:ah ρ x v)(h:Jz H [x]=some (y,H')):dG P Prot w0 ρ w (Instr.next v true t) y H':=by
 unfold Jz at h
 split at h <;> first | (simp at h; done) | skip
 rename_i b heq
 simp only[List.cons.injEq,and_true]at heq
 subst heq
 simp only[ah]at hx
 obtain⟨L,hL,hsh,rfl⟩:=hx
 have e0:0-L.sh=0:=om
 rw[e0]
 split at h <;> first | (simp at h; done) | skip
 rename_i s pos hH
 obtain⟨x,o,g1,g2,g3⟩:=R.obj _ _ _ hL
 rw[hH]at g1
 simp only[sJ]at g1
 subst g1
 simp only[er]at g3
 obtain⟨_,rfl⟩:=g3
 have turn:∀p,bF Prot w0 ρ (H.set b (.iter s p)) (w.iterAt L.c (aP s) p):=fun p=>by
  have hlt:L.c<w.heap.size:=(R.dom _ _ _ hL).2
  refine R.turn (w':=w.iterAt L.c (aP s) p) (y:=.iter s p) hL hH rfl ⟨rfl,rfl,rfl,by simp[World.iterAt],fun i hi=>by simp[World.iterAt,Array.getElem?_setIfInBounds,Ne.symm hi]⟩ rfl fun l' L' h'=>?_
  obtain⟨x,o,k1,k2,k3⟩:=R.obj _ _ _ h'
  rw[hH]at k1
  simp only[sJ]at k1
  subst k1
  simp only[er]at k3
  obtain⟨rfl,rfl⟩:=k3
  rw[hL]at h'
  simp only[sJ]at h'
  subst h'
  exact⟨.stringIter (aP s) p,by simp[World.iterAt,hlt],by simp only[er]; exact⟨trivial,trivial⟩⟩
 have hsz:(aP s).size=s.length:=by simp[aP,ByteArray.size]
 split at h
 ·rename_i hn
  rw[xB,List.getElem?_eq_none_iff]at hn
  simp only[sJ,pJ]at h
  obtain⟨rfl,rfl⟩:=h
  refine dG.pure R (v:=.tuple #[.bool false]) ?_ (by simp[ah,aq])
  have:¬pos<(aP s).size:=om
  simp[Instr.next,getObj,Sem.run,g2,this]
 ·rename_i c hn
  rw[xB]at hn
  have hp:pos<s.length:=by
   rcases Nat.lt_or_ge pos s.length with h | h
   ·exact h
   ·rw[SV h]at hn; simp at hn
  have hp':pos<(aP s).size:=om
  have hrun:=Lib.run_next_any_at (P:=P) w L.c (aP s) pos t g2 hp'
  cases hc:Nat.ble 128 c.toNat with
  | true=>
   rw[hc]at h
   simp only[cond_true,sJ,pJ]at h
   obtain⟨rfl,rfl⟩:=h
   exact⟨ρ,_,_,Pl.le_refl _,hrun,turn _,by simp[ah,aq]⟩
  | false=>
   rw[hc]at h
   simp only[cond_false,sJ,pJ]at h
   obtain⟨rfl,rfl⟩:=h
   have hb:(aP s)[pos]'hp'=c:=by
    rw[SB hp]at hn
    simp only[sJ]at hn
    rw[<- hn]
    rfl
   have ha:((aP s)[pos]'hp').toNat<128:=by
    rw[hb]
    have:¬128<=c.toNat:=fun e=>by rw[SD e]at hc; simp at hc
    omega
   rw[decode_ascii _ _ hp' ha,hb]at hrun
   exact⟨ρ,_,_,Pl.le_refl _,hrun,turn _,by simp[ah,aq]⟩
theorem zM(w:World){c n lo hi:Nat}{C:Array Value}{e:TypeId}(h:w.heap[c]?=some (.cells C e (lo,hi))) :
  (w.freeze ⟨c,n,none⟩ 1).heap[c]?=some (.cells C e (if lo==hi then (n,n+1) else (min lo n,max hi (n+1))))/\JR w (w.freeze ⟨c,n,none⟩ 1) c:=by
 constructor
 ·simp[World.freeze,Array.getElem?_modify,h]
 ·refine⟨rfl,rfl,rfl,by simp[World.freeze],fun i hi=>?_⟩
  simp only[World.freeze,Nat.one_ne_zero,if_false,Array.getElem?_modify]
  rw[if_neg (by simpa using fun e=>hi e.symm)]
theorem KY(R:bF Prot w0 ρ H w){t e:TypeId}(hu:P.underlying t=some (.slice e))(he:P.underlying e=some (.int .u8)){x y:aa}{v:Value}(hx:ah ρ x v)(h:JA H [x]=some (y,H')):dG P Prot w0 ρ w (convert t t v) y H':=by
 unfold JA at h
 split at h <;> first | (simp at h; done) | skip
 rename_i a n r heq
 simp only[List.cons.injEq,and_true]at heq
 subst heq
 split at h <;> first | (simp at h; done) | skip
 rename_i l low mk hH
 simp only[sJ,pJ]at h
 obtain⟨rfl,rfl⟩:=h
 obtain⟨L,off,c,hL,hsh,rfl,hlen,_⟩:=cT hx
 obtain⟨x,o,g1,g2,g3⟩:=R.obj _ _ _ hL
 rw[hH]at g1
 simp only[sJ]at g1
 subst g1
 simp only[er]at g3
 obtain⟨C,el,lo,hi,rfl,_,hfz,_,_⟩:=g3
 obtain⟨hf1,hf2,_⟩:=hfz trivial
 obtain⟨q1,q2⟩:=zM w (n:=C.size) g2
 have hrun:(convert t t (.slice (some ⟨L.c,off,none⟩) n c)).run P w=.ok (.slice (some ⟨L.c,off,none⟩) n c) (w.freeze ⟨L.c,C.size,none⟩ 1):=by
  simp[convert,run_underlying hu,run_underlying he,markStringish,World.shape?,g2,Result.andThen]
 refine⟨ρ,_,_,Pl.le_refl _,hrun,?_,hx⟩
 refine R.turn hL hH rfl q2 rfl fun l' L' h'=>?_
 obtain⟨x,o,k1,k2,k3⟩:=R.obj _ _ _ h'
 rw[hH]at k1
 simp only[sJ]at k1
 subst k1
 simp only[er]at k3 ⊢
 obtain⟨C',e',lo',hi',rfl,k4,k5,k6,k7⟩:=k3
 by_cases hcc:L'.c=L.c
 ·rw[hcc]at k2 ⊢
  rw[g2]at k2
  simp only[sJ,Obj.cells.injEq,pJ]at k2
  obtain⟨rfl,rfl,rfl,rfl⟩:=k2
  obtain⟨p,hp⟩:∃p:Nat×Nat,(if lo==hi then (C.size,C.size+1) else (min lo C.size,max hi (C.size+1)))=p:=⟨_,rfl⟩
  rw[hp]at q1
  obtain⟨p1,p2⟩:=p
  refine⟨_,q1,C,el,p1,p2,rfl,k4,?_,k6,k7⟩
  have hl:lo=hi∨C.size<=lo:=by
   rcases Nat.lt_or_ge lo C.size with h | h
   ·refine .inl ?_
    have:=hf1 lo h
    omega
   ·exact .inr h
  have hpp:C.size<=p1/\p1<=p2:=by
   split at hp
   ·simp only[pJ]at hp; omega
   ·rename_i hne
    simp only[beq_iff_eq]at hne
    simp only[pJ]at hp
    omega
  exact fun _=>⟨fun i hi=>om,hpp.2,fun e=>by simp at e⟩
 ·exact⟨_,(q2.rest _ hcc).trans k2,C',e',lo',hi',rfl,k4,fun h=>(k5 h).up,k6,k7⟩
theorem tG(R:bF Prot w0 ρ H w){g:Nat}{p:aa}(h:Iz H g=some p):ah ρ p (.pointer (some ⟨g,0,none⟩)):=by
 unfold Iz at h
 split at h
 ·rename_i l low hg
  simp only[sJ]at h
  subst h
  obtain⟨L,h1,h2,h3,_⟩:=R.glob _ _ _ hg
  simp only[ah]
  exact⟨L,h1,om,by rw[h2,h3]⟩
 ·simp at h
end
end Go.Abs
namespace Go.Abs
mutual
def aeq:aa->aa->Bool
 | .bool a,.bool b=>a==b
 | .int k a,.int k' b=>decide (k=k')&&IU a b
 | .str a,.str b=>a==b
 | .ptr none,.ptr none=>true
 | .ptr (some a),.ptr (some b)=>Nat.beq a.b b.b&&(Nat.beq a.lim b.lim&&Nat.beq a.o b.o)
 | .slice none n (.known c),.slice none m (.known d)=>Nat.beq n m&&Nat.beq c d
 | .slice (some a) n (.known c),.slice (some b) m (.known d)=>Nat.beq a.b b.b&&(Nat.beq a.lim b.lim&&(Nat.beq a.o b.o&&(Nat.beq n m&&Nat.beq c d)))
 | .slice (some a) n (.open_ c),.slice (some b) m (.open_ d)=>Nat.beq a.b b.b&&(Nat.beq a.lim b.lim&&(Nat.beq a.o b.o&&(Nat.beq n m&&Nat.beq c d)))
 | .map none,.map none=>true
 | .map (some a),.map (some b)=>Nat.beq a b
 | .nilFunc,.nilFunc=>true
 | .func (.func f) a b,.func (.func g) c d=>Nat.beq f g&&(aeqs a c&&aeqs b d)
 | .nilIface,.nilIface=>true
 | .iface t v,.iface u x=>Nat.beq t u&&aeq v x
 | .agg l,.agg m=>aeqs l m
 | .tuple l,.tuple m=>aeqs l m
 | .val (.slice (some a) n c),.val (.slice (some b) m d)=>decide (a=b)&&(Nat.beq n m&&Nat.beq c d)
 | _,_=>false
def aeqs:List aa->List aa->Bool
 | [],[]=>true
 | x::l,y::m=>aeq x y&&aeqs l m
 | _,_=>false
end
theorem nb{a b:Nat}(h:Nat.beq a b=true):a=b:=SI h
mutual
theorem B1:∀(x y:aa),aeq x y=true->x=y:=by
 intro x y h
 unfold aeq at h
 split at h
 all_goals (try (simp only[SO]at h; done))
 ·simp at h; rw[h]
 ·simp only[SE,SP,fD,beq_iff_eq]at h; rw[h.1,h.2]
 ·simp at h; rw[h]
 ·rfl
 ·rename_i a b; obtain⟨a1,a2,a3⟩:=a; obtain⟨b1,b2,b3⟩:=b; simp only[SE]at h; obtain⟨h1,h2,h3⟩:=h; have:=nb h1; have:=nb h2; have:=nb h3; simp_all
 ·simp only[SE]at h; rw[nb h.1,nb h.2]
 ·rename_i a n c b m d; obtain⟨a1,a2,a3⟩:=a; obtain⟨b1,b2,b3⟩:=b; simp only[SE]at h; obtain⟨h1,h2,h3,h4,h5⟩:=h; have:=nb h1; have:=nb h2; have:=nb h3; have:=nb h4; have:=nb h5; simp_all
 ·rename_i a n c b m d; obtain⟨a1,a2,a3⟩:=a; obtain⟨b1,b2,b3⟩:=b; simp only[SE]at h; obtain⟨h1,h2,h3,h4,h5⟩:=h; have:=nb h1; have:=nb h2; have:=nb h3; have:=nb h4; have:=nb h5; simp_all
 ·rfl
 ·rw[nb h]
 ·rfl
 ·simp only[SE]at h; rw[nb h.1,mH _ _ h.2.1,mH _ _ h.2.2]
 ·rfl
 ·simp only[SE]at h; rw[nb h.1,B1 _ _ h.2]
 ·rw[mH _ _ h]
 ·rw[mH _ _ h]
 ·simp only[SE,SP]at h; rw[h.1,nb h.2.1,nb h.2.2]
theorem mH:∀(l m:List aa),aeqs l m=true->l=m:=by
 intro l m h
 unfold aeqs at h
 split at h
 ·rfl
 ·simp only[SE]at h; rw[B1 _ _ h.1,mH _ _ h.2]
 ·simp at h
end
def uU:Option (Nat×Nat)->Bool
 | some (1,0)=>true
 | _=>false
def P3(b:Nat)(z:List aa):Option (Nat×Nat)->aa
 | none=>.ptr (some ⟨b,z.length,0⟩)
 | some (l,c)=>bif uU (some (l,c)) then .map (some b) else .slice (some ⟨b,z.length,0⟩) l (.known c)
def sY(z:List aa)(s:Option (Nat×Nat)):cJ:=bif uU s then .map [] 0 else .cells z 0 false
theorem Mx{l c:Nat}(h:l<=c):uU (some (l,c))=false:=by
 unfold uU
 split
 ·rename_i e
  simp only[sJ,pJ]at e
  omega
 ·rfl
def dy(H:ae)(b:Nat)(z:List aa)(s:Option (Nat×Nat)):Option aa:=
 match H.get b with
 | some (.cells l 0 false)=>bif aeqs l z&&!uU s then some (P3 b z s) else none
 | some (.map [] 0)=>bif uU s then some (P3 b z s) else none
 | _=>none
theorem BN{H:ae}{b:Nat}{z:List aa}{s:Option (Nat×Nat)}{v:aa}(h:dy H b z s=some v):H.get b=some (sY z s)/\v=P3 b z s:=by
 unfold dy at h
 split at h
 ·rename_i l hl
  cases he:aeqs l z with
  | false=>rw[he]at h; simp at h
  | true=>
   cases hm:uU s with
   | true=>rw[he,hm]at h; simp at h
   | false=>
    rw[he,hm]at h
    simp only[Bool.not_false,Bool.and_self,cond_true,sJ]at h
    exact⟨by rw[hl,mH _ _ he,sY,hm]; rfl,h.symm⟩
 ·rename_i hl
  cases hm:uU s with
  | false=>rw[hm]at h; simp at h
  | true=>
   rw[hm]at h
   simp only[cond_true,sJ]at h
   exact⟨by rw[hl,sY,hm]; rfl,h.symm⟩
 ·simp at h
end Go.Abs
