/- Part of a proof (A1 A2 A3 A4 A5 A6); no condition. -/
import Derived.WalkKit
import Derived.Below
import Derived.ChangeKeysEq
import Derived.Lib.Strings
set_option linter.unusedSimpArgs false
set_option linter.unusedVariables false
set_option linter.defProp false
set_option linter.unnecessarySimpa false
namespace Go.Abs
theorem tt{p:Prop}(h:p:=by first | with_reducible rfl | trivial | rfl | assumption):p:=h
theorem om{p:Prop}(h:p:=by omega):p:=h
theorem sJ{α:Type _}(a b:α):(some a=some b)=(a=b):=Option.some.injEq a b
theorem pJ{α:Type _}{β:Type _}(a:α)(b:β)(c:α)(d:β):((a,b)=(c,d))=(a=c∧b=d):=Prod.mk.injEq a b c d
theorem lA{α:Type _}{a b:List α}:(a++b).length=a.length+b.length:=List.length_append
theorem rL{n:Nat}:n≤n:=Nat.le_refl n
theorem dD{p:Prop}(h:p:=by decide):p:=h
theorem w64{a b:Int}(h:IntKind.i64.wrap a=b:=by rw[IntKind.wrap_i64]; omega):IntKind.i64.wrap a=b:=h
inductive Tr(α:Type) where
 | e
 | n (l:Tr α) (v:Option α) (r:Tr α)
def Tr.get{α:Type}:Tr α→Nat→Option α
 | .e,_=>none
 | .n l v r,k=>bif Nat.beq k 0 then v else bif Nat.beq (k % 2) 1 then l.get (k / 2) else r.get (k / 2-1)
def Tr.setF{α:Type}(v:α):Nat→Tr α→Nat→Tr α
 | 0,t,_=>t
 | f+1,.e,k=>bif Nat.beq k 0 then .n .e (some v) .e else bif Nat.beq (k % 2) 1 then .n (Tr.setF v f .e (k / 2)) none .e else .n .e none (Tr.setF v f .e (k / 2-1))
 | f+1,.n l o r,k=>bif Nat.beq k 0 then .n l (some v) r else bif Nat.beq (k % 2) 1 then .n (Tr.setF v f l (k / 2)) o r else .n l o (Tr.setF v f r (k / 2-1))
def Tr.set{α:Type}(t:Tr α)(k:Nat)(v:α):Tr α:=Tr.setF v (k+1) t k
theorem Tr.get_setF{α:Type}(v:α):∀(f:Nat) (t:Tr α) (k j:Nat),k<f→(Tr.setF v f t k).get j=if j=k then some v else t.get j:=by
 intro f
 induction f with
 | zero=>intro t k j h; omega
 | succ f ih=>
  intro t k j h
  have hb:∀a b:Nat,Nat.beq a b=decide (a=b):=fun a b=>by
   by_cases h:a=b
   ·subst h; simp
   ·rw[decide_eq_false h]; exact Bool.eq_false_iff.2 (fun e=>h (Nat.eq_of_beq_eq_true e))
  cases t with
  | e=>
   simp only[Tr.setF,hb]
   by_cases k0:k=0
   ·subst k0
    by_cases j0:j=0 <;> simp[Tr.get,hb,j0]
   ·by_cases k1:k % 2=1
    ·simp only[k0,k1,decide_false,decide_true,cond_false,cond_true,Tr.get,hb]
     rw[ih _ _ _ om]
     by_cases j0:j=0
     ·subst j0; simp; omega
     ·by_cases j1:j % 2=1
      ·simp only[j0,j1,decide_false,decide_true,cond_false,cond_true,Tr.get]
       by_cases e:j=k
       ·subst e; simp
       ·rw[if_neg om,if_neg e]
      ·simp only[j0,j1,decide_false,cond_false]
       rw[if_neg om]
    ·simp only[k0,k1,decide_false,cond_false,Tr.get,hb]
     rw[ih _ _ _ om]
     by_cases j0:j=0
     ·subst j0; simp; omega
     ·by_cases j1:j % 2=1
      ·simp only[j0,j1,decide_false,decide_true,cond_false,cond_true]
       rw[if_neg om]
      ·simp only[j0,j1,decide_false,cond_false,Tr.get]
       by_cases e:j=k
       ·subst e; simp
       ·rw[if_neg om,if_neg e]
  | n l o r=>
   simp only[Tr.setF,hb]
   by_cases k0:k=0
   ·subst k0
    by_cases j0:j=0 <;> simp[Tr.get,hb,j0]
   ·by_cases k1:k % 2=1
    ·simp only[k0,k1,decide_false,decide_true,cond_false,cond_true,Tr.get,hb]
     rw[ih _ _ _ om]
     by_cases j0:j=0
     ·subst j0; simp; omega
     ·by_cases j1:j % 2=1
      ·simp only[j0,j1,decide_false,decide_true,cond_false,cond_true]
       by_cases e:j=k
       ·subst e; simp
       ·rw[if_neg om,if_neg e]
      ·simp only[j0,j1,decide_false,cond_false]
       rw[if_neg om]
    ·simp only[k0,k1,decide_false,cond_false,Tr.get,hb]
     rw[ih _ _ _ om]
     by_cases j0:j=0
     ·subst j0; simp; omega
     ·by_cases j1:j % 2=1
      ·simp only[j0,j1,decide_false,decide_true,cond_false,cond_true]
       rw[if_neg om]
      ·simp only[j0,j1,decide_false,cond_false]
       by_cases e:j=k
       ·subst e; simp
       ·rw[if_neg om,if_neg e]
theorem Tr.get_set{α:Type}(t:Tr α)(k j:Nat)(v:α):(t.set k v).get j=if j=k then some v else t.get j:=
 Tr.get_setF v (k+1) t k j om
structure Ad where
 b:Nat
 lim:Nat
 o:Nat
inductive Room where
 | known (c:Nat)
 | open_ (size:Nat)
inductive AVal where
 | bool (b:Bool)
 | int (k:IntKind) (n:Int)
 | str (s:List UInt8)
 | ptr (a:Option Ad)
 | slice (a:Option Ad) (len:Nat) (room:Room)
 | map (r:Option Nat)
 | func (fn:Fn) (first captured:List AVal)
 | nilFunc
 | iface (t:TypeId) (v:AVal)
 | nilIface
 | agg (l:List AVal)
 | tuple (l:List AVal)
 | val (v:Value)
instance:Inhabited AVal:=⟨.tuple []⟩
inductive AObj where
 | cells (l:List AVal) (low:Nat) (ro:Bool) (mk:Bool:=false)
 | map (es:List (AVal×AVal×Nat)) (clock:Nat)
 | iter (s:List UInt8) (pos:Nat)
structure AHeap where
 next:Nat
 tr:Tr AObj
def AHeap.get(h:AHeap)(b:Nat):Option AObj:=h.tr.get b
def AHeap.set(h:AHeap)(b:Nat)(o:AObj):AHeap:=⟨h.next,h.tr.set b o⟩
def AHeap.push(h:AHeap)(o:AObj):AHeap:=⟨h.next+1,h.tr.set h.next o⟩
theorem AHeap.get_set(h:AHeap)(b c:Nat)(o:AObj):(h.set b o).get c=if c=b then some o else h.get c:=Tr.get_set _ _ _ _
theorem AHeap.get_push(h:AHeap)(c:Nat)(o:AObj):(h.push o).get c=if c=h.next then some o else h.get c:=Tr.get_set _ _ _ _
structure Loc where
 c:Nat
 sh:Nat
 n:Nat
 cl:Bool
abbrev Pl:=Nat→Nat→Option Loc
def Pl.le(ρ ρ':Pl):Prop:=∀b l L,ρ b l=some L→ρ' b l=some L
theorem Pl.le_refl(ρ:Pl):ρ.le ρ:=fun _ _ _ h=>h
theorem Pl.le_trans{a b c:Pl}(h:a.le b)(h':b.le c):a.le c:=fun _ _ _ x=>h' _ _ _ (h _ _ _ x)
def strOf(s:List UInt8):ByteArray:=⟨s.toArray⟩
def SliceRel(L:Loc)(a:Ad)(len:Nat):Room→Value→Prop
 | .known c,v=>len≤c∧v=.slice (some ⟨L.c,a.o-L.sh,none⟩) len c
 | .open_ size,v=>∃c off,v=.slice (some ⟨L.c,off,none⟩) len c∧len≤c∧0<size ∧
   ((off=a.o-L.sh∧a.lim≤off+L.sh+c*size∧off+c*size≤L.n)∨(len=0∧c=0∧a.lim≤a.o))
def opq:Value→Bool
 | .bool _=>false
 | x=>x.oneCell'
theorem opq_one{x:Value}(h:opq x=true):x.oneCell'=true:=by cases x <;> first | exact h | (simp[opq]at h)
mutual
def VRel(ρ:Pl):AVal→Value→Prop
 | .bool b,v=>v=.bool b
 | .int k n,v=>v=.int k n
 | .str s,v=>v=.string (strOf s)
 | .ptr none,v=>v=.pointer none
 | .ptr (some a),v=>∃L,ρ a.b a.lim=some L∧L.sh≤a.o∧v=.pointer (some ⟨L.c,a.o-L.sh,none⟩)
 | .slice none len r,v=>len=0∧(match r with | .known c=>c=0 | _=>False)∧v=.slice none 0 0
 | .slice (some a) len r,v=>∃L,ρ a.b a.lim=some L∧L.sh≤a.o∧SliceRel L a len r v
 | .map none,v=>v=.map none
 | .map (some r),v=>∃L,ρ r 0=some L∧v=.map (some L.c)
 | .func fn first cap,v=>∃f c,v=.func fn f c∧VRels ρ first f.toList∧VRels ρ cap c.toList
 | .nilFunc,v=>v=.nilFunc
 | .iface t x,v=>∃y,v=.iface t y∧VRel ρ x y
 | .nilIface,v=>v=.nilIface
 | .agg l,v=>∃vs,v=.agg vs∧VRels ρ l vs.toList
 | .tuple l,v=>∃vs,v=.tuple vs∧VRels ρ l vs.toList
 | .val x,v=>v=x∧opq x=true
def VRels(ρ:Pl):List AVal→List Value→Prop
 | [],vs=>vs=[]
 | x::l,vs=>∃v r,vs=v::r∧VRel ρ x v∧VRels ρ l r
end
mutual
theorem VRel.mono{ρ ρ':Pl}(h:ρ.le ρ'):∀(x:AVal) (v:Value),VRel ρ x v→VRel ρ' x v
 | .bool _,_,hv=>by simpa only [VRel] using hv
 | .int _ _,_,hv=>by simpa only [VRel] using hv
 | .str _,_,hv=>by simpa only [VRel] using hv
 | .ptr none,_,hv=>by simpa only [VRel] using hv
 | .ptr (some a),_,hv=>by
  simp only[VRel]at hv ⊢
  obtain⟨L,h1,h2,h3⟩:=hv
  exact⟨L,h _ _ _ h1,h2,h3⟩
 | .slice none _ _,_,hv=>by simpa only [VRel] using hv
 | .slice (some a) _ _,_,hv=>by
  simp only[VRel]at hv ⊢
  obtain⟨L,h1,h2,h3⟩:=hv
  exact⟨L,h _ _ _ h1,h2,h3⟩
 | .map none,_,hv=>by simpa only [VRel] using hv
 | .map (some r),_,hv=>by
  simp only[VRel]at hv ⊢
  obtain⟨L,h1,h3⟩:=hv
  exact⟨L,h _ _ _ h1,h3⟩
 | .func fn first cap,_,hv=>by
  simp only[VRel]at hv ⊢
  obtain⟨f,c,h1,h2,h3⟩:=hv
  exact⟨f,c,h1,VRels.mono h first _ h2,VRels.mono h cap _ h3⟩
 | .nilFunc,_,hv=>by simpa only [VRel] using hv
 | .iface t x,_,hv=>by
  simp only[VRel]at hv ⊢
  obtain⟨y,h1,h2⟩:=hv
  exact⟨y,h1,VRel.mono h x y h2⟩
 | .nilIface,_,hv=>by simpa only [VRel] using hv
 | .agg l,_,hv=>by
  simp only[VRel]at hv ⊢
  obtain⟨vs,h1,h2⟩:=hv
  exact⟨vs,h1,VRels.mono h l _ h2⟩
 | .tuple l,_,hv=>by
  simp only[VRel]at hv ⊢
  obtain⟨vs,h1,h2⟩:=hv
  exact⟨vs,h1,VRels.mono h l _ h2⟩
 | .val _,_,hv=>by simpa only [VRel] using hv
theorem VRels.mono{ρ ρ':Pl}(h:ρ.le ρ'):∀(l:List AVal) (vs:List Value),VRels ρ l vs→VRels ρ' l vs
 | [],_,hv=>by simpa only [VRels] using hv
 | x::l,_,hv=>by
  simp only[VRels]at hv ⊢
  obtain⟨v,r,h1,h2,h3⟩:=hv
  exact⟨v,r,h1,VRel.mono h x v h2,VRels.mono h l r h3⟩
end
end Go.Abs
namespace Go.Abs
theorem VRels.len{ρ:Pl}:∀{l:List AVal} {vs:List Value},VRels ρ l vs→l.length=vs.length
 | [],_,h=>by simp only[VRels]at h; subst h; rfl
 | _::l,_,h=>by
  simp only[VRels]at h
  obtain⟨v,r,rfl,_,h2⟩:=h
  simp[VRels.len h2]
theorem VRels.nth{ρ:Pl}:∀{l:List AVal} {vs:List Value},VRels ρ l vs→∀(i:Nat) (x:AVal),l[i]?=some x→∃v,vs[i]?=some v∧VRel ρ x v
 | [],_,_,_,_,h=>by simp at h
 | y::l,_,hr,i,x,h=>by
  simp only[VRels]at hr
  obtain⟨v,r,rfl,h1,h2⟩:=hr
  cases i with
  | zero=>simp at h; subst h; exact⟨v,rfl,h1⟩
  | succ i=>simp at h; simpa using VRels.nth h2 i x h
theorem VRels.of_nth{ρ:Pl}:∀(l:List AVal) (vs:List Value),l.length=vs.length→(∀(i:Nat) (x:AVal),l[i]?=some x→∃v,vs[i]?=some v∧VRel ρ x v)→VRels ρ l vs
 | [],vs,hl,_=>by simp only[VRels]; exact List.eq_nil_of_length_eq_zero hl.symm
 | y::l,vs,hl,h=>by
  cases vs with
  | nil=>simp at hl
  | cons v r=>
   simp only[VRels]
   refine⟨v,r,rfl,?_,VRels.of_nth l r (by simpa using hl) fun i x hx=>?_⟩
   ·obtain⟨v',h1,h2⟩:=h 0 y rfl
    simp at h1; subst h1; exact h2
   ·simpa using h (i+1) x (by simpa using hx)
theorem VRels.append{ρ:Pl}:∀{l m:List AVal} {vs us:List Value},VRels ρ l vs→VRels ρ m us→VRels ρ (l++m) (vs++us)
 | [],_,_,_,h,h'=>by simp only[VRels]at h; subst h; simpa using h'
 | x::l,m,vs,us,h,h'=>by
  simp only[VRels]at h
  obtain⟨v,r,rfl,h1,h2⟩:=h
  simp only[List.cons_append,VRels]
  exact⟨v,r++us,rfl,h1,VRels.append h2 h'⟩
theorem VRels.one{ρ:Pl}{x:AVal}{v:Value}(h:VRel ρ x v):VRels ρ [x] [v]:=by
 simp only[VRels]; exact⟨v,[],rfl,h,rfl⟩
theorem VRels.take{ρ:Pl}:∀{l:List AVal} {vs:List Value} (n:Nat),VRels ρ l vs→VRels ρ (l.take n) (vs.take n)
 | [],_,_,h=>by simp only[VRels]at h; subst h; simp[VRels]
 | x::l,_,n,h=>by
  simp only[VRels]at h
  obtain⟨v,r,rfl,h1,h2⟩:=h
  cases n with
  | zero=>simp[VRels]
  | succ n=>simp only[List.take_succ_cons,VRels]; exact⟨v,_,rfl,h1,VRels.take n h2⟩
theorem VRels.drop{ρ:Pl}:∀{l:List AVal} {vs:List Value} (n:Nat),VRels ρ l vs→VRels ρ (l.drop n) (vs.drop n)
 | [],_,_,h=>by simp only[VRels]at h; subst h; simp[VRels]
 | x::l,_,n,h=>by
  cases n with
  | zero=>simpa using h
  | succ n=>
   simp only[VRels]at h
   obtain⟨v,r,rfl,h1,h2⟩:=h
   simpa using VRels.drop n h2
def AVal.one:AVal→Bool
 | .agg _ | .tuple _=>false
 | _=>true
def AVal.cells:AVal→List AVal
 | .agg l=>l
 | x=>[x]
theorem VRel.one{ρ:Pl}{x:AVal}{v:Value}(h:VRel ρ x v)(hx:x.one=true):v.oneCell'=true:=by
 cases x with
 | ptr a=>cases a <;> simp only[VRel]at h <;> first | (subst h; rfl) | (obtain⟨L,_,_,rfl⟩:=h; rfl)
 | map a=>cases a <;> simp only[VRel]at h <;> first | (subst h; rfl) | (obtain⟨L,_,rfl⟩:=h; rfl)
 | slice a n r=>
  cases a with
  | none=>simp only[VRel]at h; obtain⟨_,_,rfl⟩:=h; rfl
  | some a=>
   simp only[VRel]at h
   obtain⟨L,_,_,h⟩:=h
   cases r with
   | known c=>simp only[SliceRel]at h; obtain⟨_,rfl⟩:=h; rfl
   | open_ s=>simp only[SliceRel]at h; obtain⟨_,_,rfl,_⟩:=h; rfl
 | func f a b=>simp only[VRel]at h; obtain⟨_,_,rfl,_⟩:=h; rfl
 | iface t x=>simp only[VRel]at h; obtain⟨_,rfl,_⟩:=h; rfl
 | agg l=>simp[AVal.one]at hx
 | tuple l=>simp[AVal.one]at hx
 | val x=>simp only[VRel]at h; rw[h.1]; exact opq_one h.2
 | _=>simp only[VRel]at h; subst h; rfl
theorem VRel.cells{ρ:Pl}{x:AVal}{v:Value}(h:VRel ρ x v):VRels ρ x.cells v.cells.toList:=by
 cases x with
 | agg l=>simp only[VRel]at h; obtain⟨vs,rfl,h⟩:=h; exact h
 | tuple l=>simp only[VRel]at h; obtain⟨vs,rfl,h'⟩:=h; exact VRels.one (by simp only[VRel]; exact⟨_,rfl,h'⟩)
 | bool b=>simp only[VRel]at h; subst h; exact VRels.one rfl
 | int k n=>simp only[VRel]at h; subst h; exact VRels.one rfl
 | str s=>simp only[VRel]at h; subst h; exact VRels.one rfl
 | nilFunc=>simp only[VRel]at h; subst h; exact VRels.one rfl
 | nilIface=>simp only[VRel]at h; subst h; exact VRels.one rfl
 | ptr a=>
  have h':=h
  cases a with
  | none=>simp only[VRel]at h; subst h; exact VRels.one h'
  | some a=>simp only[VRel]at h; obtain⟨L,_,_,rfl⟩:=h; exact VRels.one h'
 | map a=>
  have h':=h
  cases a with
  | none=>simp only[VRel]at h; subst h; exact VRels.one h'
  | some a=>simp only[VRel]at h; obtain⟨L,_,rfl⟩:=h; exact VRels.one h'
 | slice a n r=>
  have h':=h
  cases a with
  | none=>simp only[VRel]at h; obtain⟨_,_,rfl⟩:=h; exact VRels.one h'
  | some a=>
   simp only[VRel]at h
   obtain⟨L,_,_,h⟩:=h
   cases r with
   | known c=>simp only[SliceRel]at h; obtain⟨_,rfl⟩:=h; exact VRels.one h'
   | open_ s=>simp only[SliceRel]at h; obtain⟨_,_,rfl,_⟩:=h; exact VRels.one h'
 | func f a b=>
  have h':=h
  simp only[VRel]at h; obtain⟨_,_,rfl,_⟩:=h; exact VRels.one h'
 | iface t x=>
  have h':=h
  simp only[VRel]at h; obtain⟨_,rfl,_⟩:=h; exact VRels.one h'
 | val x=>
  have h':=h
  simp only[VRel]at h
  have:v.cells.toList=[v]:=by
   obtain⟨h1,h2⟩:=h
   have h2:=opq_one h2
   rw[h1]
   cases x <;> first | rfl | (simp[Value.oneCell']at h2)
  rw[this]
  exact VRels.one h'
def EntryRel(ρ:Pl)(x:AVal×AVal×Nat)(e:MapEntry):Prop:=VRel ρ x.1 e.key∧VRel ρ x.2.1 e.val∧e.born=x.2.2
def EntriesRel(ρ:Pl):List (AVal×AVal×Nat)→List MapEntry→Prop
 | [],es=>es=[]
 | x::l,es=>∃e r,es=e::r∧EntryRel ρ x e∧EntriesRel ρ l r
theorem EntriesRel.mono{ρ ρ':Pl}(h:ρ.le ρ'):∀(l:List (AVal×AVal×Nat)) (es:List MapEntry),EntriesRel ρ l es→EntriesRel ρ' l es
 | [],_,hv=>by simpa only [EntriesRel] using hv
 | x::l,_,hv=>by
  simp only[EntriesRel,EntryRel]at hv ⊢
  obtain⟨e,r,h1,⟨h2,h3,h4⟩,h5⟩:=hv
  exact⟨e,r,h1,⟨VRel.mono h _ _ h2,VRel.mono h _ _ h3,h4⟩,EntriesRel.mono h l r h5⟩
def CellsRel(ρ:Pl)(L:Loc)(lim:Nat)(l:List AVal)(C:Array Value):Prop:=
 ∀i,L.sh≤i→i<lim→∃x v,l[i]?=some x∧C[i-L.sh]?=some v∧VRel ρ x v
def FzOK(mk:Bool)(n lo hi:Nat):Prop:=(∀i,i<n→¬(lo≤i∧i<hi))∧lo≤hi∧(mk=false→hi≤lo)
theorem FzOK.up{mk:Bool}{n lo hi:Nat}(h:FzOK mk n lo hi):FzOK true n lo hi:=⟨h.1,h.2.1,fun e=>by simp at e⟩
def ORel(ρ:Pl)(L:Loc)(lim:Nat):AObj→Obj→Prop
 | .cells l low ro mk,o=>∃C e lo hi,o=.cells C e (lo,hi)∧C.size=L.n∧(ro=false→FzOK mk C.size lo hi)∧lim≤l.length∧(low≤lim→CellsRel ρ L lim l C)
 | .map es clock,o=>lim=0∧∃ES,o=.map ES clock∧EntriesRel ρ es ES.toList
 | .iter s pos,o=>lim=0∧o=.stringIter (strOf s) pos
theorem ORel.mono{ρ ρ':Pl}(h:ρ.le ρ'){L:Loc}{lim:Nat}{x:AObj}{o:Obj}(hx:ORel ρ L lim x o):ORel ρ' L lim x o:=by
 cases x with
 | cells l low ro=>
  simp only[ORel]at hx ⊢
  obtain⟨C,e,lo,hi,h1,h2,h3,h5,h4⟩:=hx
  refine⟨C,e,lo,hi,h1,h2,h3,h5,fun a i hi1 hi2=>?_⟩
  obtain⟨x,v,q1,q2,q3⟩:=h4 a i hi1 hi2
  exact⟨x,v,q1,q2,VRel.mono h _ _ q3⟩
 | map es clock=>
  simp only[ORel]at hx ⊢
  obtain⟨h0,ES,h1,h2⟩:=hx
  exact⟨h0,ES,h1,EntriesRel.mono h _ _ h2⟩
 | iter s pos=>simpa only [ORel] using hx
def AObj.rw:AObj→Bool
 | .cells _ _ true _=>false
 | _=>true
structure Gh where
 prot:Nat→Prop
 dead:Nat→Prop
structure Rel(Prot:Gh)(w0:World)(ρ:Pl)(H:AHeap)(w:World):Prop where
 os:w.os=w0.os
 tape:w.tape=w0.tape
 output:w.output=w0.output
 size:w0.heap.size≤w.heap.size
 prot:∀c,Prot.prot c→c<w0.heap.size∧w.heap[c]?=w0.heap[c]?
 dom:∀b l L,ρ b l=some L→b<H.next∧L.c<w.heap.size
 obj:∀b l L,ρ b l=some L→∃x o,H.get b=some x∧w.heap[L.c]?=some o∧ORel ρ L l x o
 free:∀b l L x,ρ b l=some L→H.get b=some x→x.rw=true→¬Prot.prot L.c
 inj:∀b l L b' l' L' x,ρ b l=some L→ρ b' l'=some L'→L.c=L'.c→H.get b=some x→x.rw=true→b=b'∧L.sh=L'.sh
 dead:∀b,Prot.dead b→b<H.next∧∀l,ρ b l=none
 glob:∀b l low,H.get b=some (.cells l low true)→∃L,ρ b l.length=some L∧L.c=b∧L.sh=0∧L.n=l.length
structure But(w w':World)(c:Nat):Prop where
 os:w'.os=w.os
 tape:w'.tape=w.tape
 output:w'.output=w.output
 size:w'.heap.size=w.heap.size
 rest:∀i,i≠c→w'.heap[i]?=w.heap[i]?
theorem But.refl(w:World)(c:Nat):But w w c:=⟨rfl,rfl,rfl,rfl,fun _ _=>rfl⟩
theorem But.trans{a b d:World}{c:Nat}(h:But a b c)(k:But b d c):But a d c:=
 ⟨k.os.trans h.os,k.tape.trans h.tape,k.output.trans h.output,k.size.trans h.size,fun i hi=>(k.rest i hi).trans (h.rest i hi)⟩
theorem cell?_of{w:World}{c off:Nat}{C:Array Value}{e:TypeId}{fz:Nat×Nat}(h:w.heap[c]?=some (.cells C e fz)):w.cell? ⟨c,off,none⟩=C[off]?:=by
 unfold World.cell?; simp only[h]; rfl
theorem frozen?_of{w:World}{c off:Nat}{C:Array Value}{e:TypeId}{lo hi:Nat}(h:w.heap[c]?=some (.cells C e (lo,hi)))(hf:¬(lo≤off∧off<hi)):w.frozen? ⟨c,off,none⟩=false:=by
 unfold World.frozen?; simp only[h]
 simp; omega
theorem add_none(c off n:Nat):(⟨c,off,none⟩:Addr).add n=⟨c,off+n,none⟩:=by
 unfold Addr.add; split
 ·subst_vars; rfl
 ·rfl
theorem loadFrom_run{P:Program}{w:World}{c off:Nat}{C:Array Value}{e:TypeId}{fz:Nat×Nat}(h:w.heap[c]?=some (.cells C e fz)) :
  ∀(n i:Nat) (acc:Array Value),off+i+n≤C.size→∃vs:Array Value,(loadCellsFrom ⟨c,off,none⟩ i n acc).run P w=.ok (acc++vs) w∧vs.size=n∧∀j,j<n→vs[j]?=C[off+i+j]?:=by
 intro n
 induction n with
 | zero=>intro i acc _; exact⟨#[],by simp[loadCellsFrom],rfl,fun j hj=>om⟩
 | succ n ih=>
  intro i acc hb
  have hv:C[off+i]?=some C[off+i]:=Array.getElem?_eq_getElem om
  obtain⟨vs,h1,h2,h3⟩:=ih (i+1) (acc.push C[off+i]) om
  refine⟨#[C[off+i]]++vs,?_,by simp[h2]; omega,fun j hj=>?_⟩
  ·simp only[loadCellsFrom,add_none,Sem.run_bind,run_load,cell?_of h,hv,Result.andThen_ok,h1]
   rw[Array.push_eq_append,Array.append_assoc]
  ·cases j with
   | zero=>rw[Array.getElem?_append_left (by simp)]; simp[hv]
   | succ j=>
    rw[show off+i+(j+1)=off+(i+1)+j by omega,← h3 j om]
    rw[Array.getElem?_append_right (by simp)]
    simp
theorem loadCells_run{P:Program}{w:World}{c off:Nat}{C:Array Value}{e:TypeId}{fz:Nat×Nat}(h:w.heap[c]?=some (.cells C e fz))(n:Nat)(hb:off+n≤C.size) :
  ∃vs:Array Value,(loadCells ⟨c,off,none⟩ n).run P w=.ok vs w∧vs.size=n∧∀j,j<n→vs[j]?=C[off+j]?:=by
 obtain⟨vs,h1,h2,h3⟩:=loadFrom_run (P:=P) h n 0 #[] om
 exact⟨vs,by simpa[loadCells] using h1,h2,fun j hj=>by simpa using h3 j hj⟩
theorem store_run{P:Program}{w:World}{c off:Nat}{C:Array Value}{e:TypeId}{lo hi:Nat}(h:w.heap[c]?=some (.cells C e (lo,hi)))(ho:off<C.size)
  (hf:¬(lo≤off∧off<hi)) {v:Value} (hv:v.oneCell'=true) :
  ∃w',(store ⟨c,off,none⟩ v).run P w=.ok () w'∧But w w' c∧w'.heap[c]?=some (.cells (C.setIfInBounds off v) e (lo,hi)):=by
 refine⟨w.setCell ⟨c,off,none⟩ v,?_,⟨rfl,rfl,rfl,by simp,fun i hi=>?_⟩,?_⟩
 ·rw[run_store P w _ v _ hv,cell?_of h,Array.getElem?_eq_getElem ho]
  simp only[frozen?_of h hf]
  rfl
 ·simp only[World.setCell,Array.getElem?_modify]
  rw[if_neg (by simpa using fun e=>hi e.symm)]
 ·simp[World.setCell,Array.getElem?_modify,h]
theorem storeCells_run{P:Program}{c off:Nat}{e:TypeId}{lo hi:Nat}:∀(vs:List Value) (i:Nat) (w:World) (C:Array Value),w.heap[c]?=some (.cells C e (lo,hi)) →
  off+i+vs.length≤C.size→(∀j,j<C.size→¬(lo≤j∧j<hi))→(∀v∈vs,v.oneCell'=true) →
  ∃w' C',(storeCells ⟨c,off,none⟩ vs i).run P w=.ok () w'∧But w w' c∧w'.heap[c]?=some (.cells C' e (lo,hi))∧C'.size=C.size ∧
   ∀j,C'[j]?=if off+i≤j∧j<off+i+vs.length then vs[j-(off+i)]? else C[j]?:=by
 intro vs
 induction vs with
 | nil=>
  intro i w C h _ _ _
  exact⟨w,C,by simp[storeCells],But.refl _ _,h,rfl,fun j=>by rw[if_neg (by intro q; simp only[List.length_nil]at q; omega)]⟩
 | cons v vs ih=>
  intro i w C h hb hf hv
  simp only[List.length_cons]at hb
  obtain⟨w1,h1,h2,h3⟩:=store_run (P:=P) h (off:=off+i) om (hf _ om) (hv v (by simp))
  obtain⟨w2,C',k1,k2,k3,k4,k5⟩:=ih (i+1) w1 _ h3 (by rw[Array.size_setIfInBounds]; omega) (by simpa using hf) (fun x hx=>hv x (by simp[hx]))
  refine⟨w2,C',?_,h2.trans k2,k3,by simpa using k4,fun j=>?_⟩
  ·simp only[storeCells,add_none,Sem.run_bind,h1,Result.andThen_ok,k1]
  ·rw[k5 j]
   simp only[List.length_cons]
   by_cases c1:off+(i+1)≤j∧j<off+(i+1)+vs.length
   ·rw[if_pos c1,if_pos om,show j-(off+i)=(j-(off+(i+1)))+1 by omega]
    simp
   ·rw[if_neg c1]
    by_cases c2:j=off+i
    ·subst c2
     rw[if_pos om]
     have:off+i<C.size:=om
     simp[this]
    ·rw[if_neg om,Array.getElem?_setIfInBounds_ne om]
end Go.Abs
namespace Go.Abs
section
variable {P:Program} {Prot:Gh} {w0:World} {ρ:Pl} {H:AHeap} {w:World}
def rdCells(H:AHeap)(a:Ad)(n:Nat):Option (List AVal):=
 match H.get a.b with
 | some (.cells l low _ _)=>bif Nat.ble low a.lim&&(Nat.ble a.lim l.length&&Nat.ble (a.o+n) a.lim) then some ((l.drop a.o).take n) else none
 | _=>none
def wrCells(H:AHeap)(a:Ad)(xs:List AVal):Option AHeap:=
 match H.get a.b with
 | some (.cells l low false mk)=>
  bif Nat.ble low a.lim&&(Nat.beq a.lim l.length&&(Nat.ble (a.o+xs.length) a.lim&&xs.all AVal.one)) then
   some (H.set a.b (.cells (l.take a.o++(xs++l.drop (a.o+xs.length))) a.lim false mk)) else none
 | _=>none
theorem Rel.drew(R:Rel Prot w0 ρ H w):Rel Prot w0 ρ H w.drew:=
 ⟨R.os,R.tape,R.output,R.size,R.prot,R.dom,R.obj,R.free,R.inj,R.dead,R.glob⟩
theorem rd_spec{a:Ad}{n:Nat}{xs:List AVal}(h:rdCells H a n=some xs) :
  ∃l low ro mk,H.get a.b=some (.cells l low ro mk)∧low≤a.lim∧a.lim≤l.length∧a.o+n≤a.lim∧xs=(l.drop a.o).take n:=by
 unfold rdCells at h
 split at h
 ·rename_i l low ro mk hg
  cases hc:(Nat.ble low a.lim&&(Nat.ble a.lim l.length&&Nat.ble (a.o+n) a.lim)) with
  | false=>rw[hc]at h; simp at h
  | true=>
   rw[hc]at h
   simp only[Bool.and_eq_true,Nat.ble_eq]at hc
   simp only[cond_true,sJ]at h
   exact⟨l,low,ro,mk,hg,hc.1,hc.2.1,hc.2.2,h.symm⟩
 ·simp at h
theorem rd_run(R:Rel Prot w0 ρ H w){a:Ad}{n:Nat}{xs:List AVal}(h:rdCells H a n=some xs){L:Loc}(hL:ρ a.b a.lim=some L)(hs:L.sh≤a.o) :
  ∃vs:Array Value,(loadCells ⟨L.c,a.o-L.sh,none⟩ n).run P w=.ok vs w∧VRels ρ xs vs.toList∧vs.size=n:=by
 obtain⟨l,low,ro,mk,hg,h1,h2,h3,rfl⟩:=rd_spec h
 obtain⟨x,o,hx,ho,hr⟩:=R.obj _ _ _ hL
 rw[hg]at hx
 obtain rfl:=(sJ _ _).mp hx
 simp only[ORel]at hr
 obtain⟨C,e,lo,hi,rfl,hsz,hfz,_,hc⟩:=hr
 have hc:=hc h1
 by_cases hn:n=0
 ·subst hn
  exact⟨#[],rfl,by simp[VRels],rfl⟩
 have hb:a.o-L.sh+n≤C.size:=by
  obtain⟨x,v,_,q,_⟩:=hc (a.o+n-1) om om
  have:=(Array.getElem?_eq_some_iff.1 q).1
  omega
 obtain⟨vs,q1,q2,q3⟩:=loadCells_run (P:=P) ho n hb
 refine⟨vs,q1,VRels.of_nth _ _ (by simp[q2]; omega) fun i x hi=>?_,q2⟩
 have hlt:i<n:=by
  by_cases q:i<n
  ·exact q
  ·rw[List.getElem?_take,if_neg q]at hi; simp at hi
 rw[List.getElem?_take_of_lt hlt,List.getElem?_drop]at hi
 obtain⟨y,v,p1,p2,p3⟩:=hc (a.o+i) om om
 rw[p1]at hi
 obtain rfl:=(sJ _ _).mp hi
 refine⟨v,?_,p3⟩
 rw[Array.getElem?_toList,q3 i hlt,← p2]
 congr 1
 omega
theorem wr_spec{a:Ad}{xs:List AVal}{H':AHeap}(h:wrCells H a xs=some H') :
  ∃l low mk,H.get a.b=some (.cells l low false mk)∧low≤a.lim∧a.lim=l.length∧a.o+xs.length≤a.lim∧(∀x∈xs,x.one=true) ∧
   H'=H.set a.b (.cells (l.take a.o++(xs++l.drop (a.o+xs.length))) a.lim false mk):=by
 unfold wrCells at h
 split at h
 ·rename_i l low mk hg
  cases hc:(Nat.ble low a.lim&&(Nat.beq a.lim l.length&&(Nat.ble (a.o+xs.length) a.lim&&xs.all AVal.one))) with
  | false=>rw[hc]at h; simp at h
  | true=>
   rw[hc]at h
   simp only[Bool.and_eq_true,Nat.ble_eq,List.all_eq_true]at hc
   simp only[cond_true,sJ]at h
   exact⟨l,low,mk,hg,hc.1,Nat.eq_of_beq_eq_true hc.2.1,hc.2.2.1,hc.2.2.2,h.symm⟩
 ·simp at h
theorem Rel.turn(R:Rel Prot w0 ρ H w){b l:Nat}{L:Loc}(hL:ρ b l=some L){x:AObj}(hx:H.get b=some x)(hrw:x.rw=true){w':World}(hb:But w w' L.c)
  {y:AObj} (_hyr:y.rw=true) (hy:∀l' L',ρ b l'=some L'→∃o,w'.heap[L'.c]?=some o∧ORel ρ L' l' y o):Rel Prot w0 ρ (H.set b y) w':=by
 refine⟨hb.os.trans R.os,hb.tape.trans R.tape,hb.output.trans R.output,hb.size ▸ R.size,fun c hc=>?_,fun b' l' L' h=>?_,fun b' l' L' h=>?_,fun b' l' L' z h hz hr=>?_,fun b1 l1 L1 b2 l2 L2 z h1 h2 he hz hr=>?_,fun d hd=>?_,fun b' l' low' hg=>?_⟩
 ·obtain⟨p1,p2⟩:=R.prot c hc
  refine⟨p1,?_⟩
  rw[hb.rest c (fun e=>R.free _ _ _ _ hL hx hrw (e ▸ hc))]
  exact p2
 ·have:=R.dom _ _ _ h
  exact⟨this.1,hb.size ▸ this.2⟩
 ·by_cases e:b'=b
  ·subst e
   obtain⟨o,h1,h2⟩:=hy _ _ h
   exact⟨y,o,by rw[AHeap.get_set,if_pos rfl],h1,h2⟩
  ·obtain⟨z,o,h1,h2,h3⟩:=R.obj _ _ _ h
   refine⟨z,o,by rw[AHeap.get_set,if_neg e]; exact h1,?_,h3⟩
   rw[hb.rest _ (fun q=>e (R.inj _ _ _ _ _ _ _ hL h q.symm hx hrw).1.symm)]
   exact h2
 ·rw[AHeap.get_set]at hz
  by_cases e:b'=b
  ·subst e
   exact R.free _ _ _ _ h hx hrw
  ·rw[if_neg e]at hz
   exact R.free _ _ _ _ h hz hr
 ·rw[AHeap.get_set]at hz
  by_cases e:b1=b
  ·subst e
   exact R.inj _ _ _ _ _ _ _ h1 h2 he hx hrw
  ·rw[if_neg e]at hz
   exact R.inj _ _ _ _ _ _ _ h1 h2 he hz hr
 ·exact R.dead d hd
 ·rw[AHeap.get_set]at hg
  by_cases e:b'=b
  ·rw[if_pos e]at hg
   simp only[sJ]at hg
   subst hg
   simp[AObj.rw]at _hyr
  ·rw[if_neg e]at hg
   exact R.glob _ _ _ hg
theorem one_of{xs:List AVal}{vs:List Value}(h:VRels ρ xs vs)(ho:∀x∈xs,x.one=true):∀v∈vs,v.oneCell'=true:=by
 induction xs generalizing vs with
 | nil=>simp only[VRels]at h; subst h; simp
 | cons x xs ih=>
  simp only[VRels]at h
  obtain⟨v,r,rfl,h1,h2⟩:=h
  intro u hu
  rcases List.mem_cons.1 hu with rfl | hu
  ·exact h1.one (ho x (by simp))
  ·exact ih h2 (fun y hy=>ho y (by simp[hy])) u hu
theorem wr_run(R:Rel Prot w0 ρ H w){a:Ad}{xs:List AVal}{H':AHeap}(h:wrCells H a xs=some H'){L:Loc}(hL:ρ a.b a.lim=some L)(hs:L.sh≤a.o)
  {vs:List Value} (hv:VRels ρ xs vs):∃w',(storeCells ⟨L.c,a.o-L.sh,none⟩ vs 0).run P w=.ok () w'∧Rel Prot w0 ρ H' w':=by
 obtain⟨l,low,mk,hg,h0,h1,h2,h3,rfl⟩:=wr_spec h
 obtain⟨x,o,hx,ho,hr⟩:=R.obj _ _ _ hL
 have hlen:=VRels.len hv
 rw[hg]at hx
 obtain rfl:=(sJ _ _).mp hx
 simp only[ORel]at hr
 obtain⟨C,e,lo,hi,rfl,hsz,hfz,_,hc⟩:=hr
 have hc':=hc h0
 have hb:a.o-L.sh+vs.length≤C.size:=by
  by_cases q:L.sh<a.lim
  ·obtain⟨x,v,_,q,_⟩:=hc' (a.lim-1) om om
   have:=(Array.getElem?_eq_some_iff.1 q).1
   omega
  ·omega
 obtain⟨w',C',r1,r2,r3,r4,r5⟩:=storeCells_run (P:=P) (off:=a.o-L.sh) vs 0 w C ho om (hfz trivial).1 (one_of hv h3)
 refine⟨w',r1,R.turn hL hg rfl r2 rfl fun l' L' hL'=>?_⟩
 have hlen2:(l.take a.o++(xs++l.drop (a.o+xs.length))).length=l.length:=by simp; omega
 obtain⟨x,o,hx,ho',hr'⟩:=R.obj _ _ _ hL'
 rw[hg]at hx
 obtain rfl:=(sJ _ _).mp hx
 simp only[ORel]at hr' ⊢
 obtain⟨C2,e2,lo2,hi2,q1,q2,q3,q5,q4⟩:=hr'
 by_cases hcc:L'.c=L.c
 ·rw[hcc,ho]at ho'
  obtain rfl:=(sJ _ _).mp ho'
  simp only[Obj.cells.injEq,pJ]at q1
  obtain⟨rfl,rfl,rfl,rfl⟩:=q1
  refine⟨_,hcc ▸ r3,C',e,lo,hi,rfl,r4.trans q2,by rw[r4]; exact q3,by rw[hlen2]; exact q5,fun a1=>?_⟩
  have hll:l'=a.lim:=om
  subst hll
  obtain rfl:L'=L:=by rw[hL]at hL'; exact ((sJ _ _).mp hL').symm
  intro i i1 i2
  obtain⟨x,v,p1,p2,p3⟩:=hc' i i1 i2
  by_cases hin:a.o≤i∧i<a.o+xs.length
  ·have hx:xs[i-a.o]?=some xs[i-a.o]:=List.getElem?_eq_getElem om
   obtain⟨u,u1,u2⟩:=hv.nth _ _ hx
   refine⟨_,u,?_,?_,u2⟩
   ·rw[List.getElem?_append_right (by simp; omega),List.getElem?_append_left (by simp; omega)]
    simp only[List.length_take]
    rw[← hx]
    congr 1
    omega
   ·have q:=r5 (i-L'.sh)
    have c1:a.o-L'.sh+0≤i-L'.sh:=om
    have c2:i-L'.sh<a.o-L'.sh+0+vs.length:=om
    rw[if_pos ⟨c1,c2⟩]at q
    rw[q,← u1,show i-L'.sh-(a.o-L'.sh+0)=i-a.o by omega]
  ·refine⟨x,v,?_,?_,p3⟩
   ·rw[← p1]
    by_cases h4:i<a.o
    ·rw[List.getElem?_append_left (by simp; omega),List.getElem?_take_of_lt h4]
    ·rw[List.getElem?_append_right (by simp; omega),List.getElem?_append_right (by simp; omega),List.getElem?_drop]
     congr 1
     simp
     omega
   ·have q:=r5 (i-L'.sh)
    have hn:¬(a.o-L'.sh+0≤i-L'.sh∧i-L'.sh<a.o-L'.sh+0+vs.length):=om
    rw[if_neg hn]at q
    rw[q]
    exact p2
 ·refine⟨_,(r2.rest _ hcc).trans ho',C2,e2,lo2,hi2,q1,q2,q3,by rw[hlen2]; exact q5,fun a1=>?_⟩
  have hll:l'=a.lim:=om
  subst hll
  obtain rfl:L'=L:=by rw[hL]at hL'; exact ((sJ _ _).mp hL').symm
  exact absurd rfl hcc
def upd(ρ:Pl)(b l:Nat)(L:Loc):Pl:=fun b' l'=>if b'=b∧l'=l then some L else ρ b' l'
theorem upd_same(ρ:Pl)(b l:Nat)(L:Loc):upd ρ b l L b l=some L:=by simp[upd]
theorem upd_le{ρ:Pl}{b l:Nat}{L:Loc}(h:∀L',ρ b l=some L'→L'=L):ρ.le (upd ρ b l L):=by
 intro b' l' L' h'
 unfold upd
 split
 ·rename_i q
  obtain⟨rfl,rfl⟩:=q
  rw[h _ h']
 ·exact h'
theorem Rel.push'(R:Rel Prot w0 ρ H w){w':World}(n1:w'.os=w.os)(n2:w'.tape=w.tape)(n3:w'.output=w.output)(n4:w'.heap.size=w.heap.size+1)(n5:∀i,i<w.heap.size→w'.heap[i]?=w.heap[i]?){x:AObj}{o:Obj}{lim n:Nat}{cl:Bool}(n6:w'.heap[w.heap.size]?=some o)(hO:ORel (upd ρ H.next lim ⟨w.heap.size,0,n,cl⟩) ⟨w.heap.size,0,n,cl⟩ lim x o)(hrw:x.rw=true) :
  ρ.le (upd ρ H.next lim ⟨w.heap.size,0,n,cl⟩)∧Rel Prot w0 (upd ρ H.next lim ⟨w.heap.size,0,n,cl⟩) (H.push x) w':=by
 have hnew:∀l L,ρ H.next l=some L→False:=fun l L h=>by have:=(R.dom _ _ _ h).1; omega
 have hle:ρ.le (upd ρ H.next lim ⟨w.heap.size,0,n,cl⟩):=upd_le fun L' h'=>(hnew _ _ h').elim
 refine⟨hle,n1.trans R.os,n2.trans R.tape,n3.trans R.output,Nat.le_trans R.size om,fun c hc=>?_,fun b l L h=>?_,fun b l L hb=>?_,fun b l L z hb hz hr=>?_,fun b1 l1 L1 b2 l2 L2 z h1 h2 he hz hr=>?_,fun d hd=>?_,fun b' l' low' hg=>?_⟩
 ·obtain⟨p1,p2⟩:=R.prot c hc
  refine⟨p1,?_⟩
  rw[← p2]
  exact n5 _ (Nat.lt_of_lt_of_le p1 R.size)
 ·unfold upd at h
  split at h
  ·rename_i q
   obtain⟨rfl,rfl⟩:=q
   obtain rfl:=(sJ _ _).mp h
   exact⟨Nat.lt_succ_self _,by simp only; omega⟩
  ·have:=R.dom _ _ _ h
   exact⟨Nat.lt_succ_of_lt this.1,om⟩
 ·unfold upd at hb
  split at hb
  ·rename_i q
   obtain⟨rfl,rfl⟩:=q
   obtain rfl:=(sJ _ _).mp hb
   exact⟨x,o,by rw[AHeap.get_push,if_pos rfl],n6,hO⟩
  ·obtain⟨z,o',h1,h2,h3⟩:=R.obj _ _ _ hb
   have hd:=R.dom _ _ _ hb
   exact⟨z,o',by rw[AHeap.get_push,if_neg om]; exact h1,by rw[← h2]; exact n5 _ hd.2,h3.mono hle⟩
 ·unfold upd at hb
  split at hb
  ·obtain rfl:=(sJ _ _).mp hb
   intro hp
   have:=(R.prot _ hp).1
   have:=R.size
   simp at *
   omega
  ·have hd:=R.dom _ _ _ hb
   rw[AHeap.get_push,if_neg om]at hz
   exact R.free _ _ _ _ hb hz hr
 ·unfold upd at h1 h2
  split at h1 <;> split at h2
  ·rename_i q1 q2
   obtain rfl:=(sJ _ _).mp h1
   obtain rfl:=(sJ _ _).mp h2
   exact⟨q1.1.trans q2.1.symm,rfl⟩
  ·obtain rfl:=(sJ _ _).mp h1
   have:=(R.dom _ _ _ h2).2
   simp only at he
   omega
  ·obtain rfl:=(sJ _ _).mp h2
   have:=(R.dom _ _ _ h1).2
   simp only at he
   omega
  ·have hd:=R.dom _ _ _ h1
   rw[AHeap.get_push,if_neg om]at hz
   exact R.inj _ _ _ _ _ _ _ h1 h2 he hz hr
 ·obtain⟨q1,q2⟩:=R.dead d hd
  refine⟨Nat.lt_succ_of_lt q1,fun l=>?_⟩
  unfold upd
  rw[if_neg om]
  exact q2 l
 ·rw[AHeap.get_push]at hg
  by_cases e:b'=H.next
  ·rw[if_pos e]at hg
   simp only[sJ]at hg
   subst hg
   simp[AObj.rw]at hrw
  ·rw[if_neg e]at hg
   obtain⟨L,q1,q2⟩:=R.glob _ _ _ hg
   exact⟨L,hle _ _ _ q1,q2⟩
theorem Rel.fewer(R:Rel Prot w0 ρ H w){D:Nat→Prop}(h:∀d,D d→Prot.dead d):Rel ⟨Prot.prot,D⟩ w0 ρ H w:=
 ⟨R.os,R.tape,R.output,R.size,R.prot,R.dom,R.obj,R.free,R.inj,fun d hd=>R.dead d (h d hd),R.glob⟩
theorem Rel.reserve(R:Rel Prot w0 ρ H w)(x:AObj)(hrw:x.rw=true):Rel ⟨Prot.prot,fun d=>Prot.dead d∨d=H.next⟩ w0 ρ (H.push x) w:=by
 refine⟨R.os,R.tape,R.output,R.size,R.prot,fun b l L h=>?_,fun b l L hb=>?_,fun b l L z hb hz hr=>?_,fun b1 l1 L1 b2 l2 L2 z h1 h2 he hz hr=>?_,fun d hd=>?_,fun b' l' low' hg=>?_⟩
 ·have:=R.dom _ _ _ h
  exact⟨Nat.lt_succ_of_lt this.1,this.2⟩
 ·obtain⟨z,o',h1,h2,h3⟩:=R.obj _ _ _ hb
  have hd:=R.dom _ _ _ hb
  exact⟨z,o',by rw[AHeap.get_push,if_neg om]; exact h1,h2,h3⟩
 ·have hd:=R.dom _ _ _ hb
  rw[AHeap.get_push,if_neg om]at hz
  exact R.free _ _ _ _ hb hz hr
 ·have hd:=R.dom _ _ _ h1
  rw[AHeap.get_push,if_neg om]at hz
  exact R.inj _ _ _ _ _ _ _ h1 h2 he hz hr
 ·rcases hd with hd | hd
  ·obtain⟨q1,q2⟩:=R.dead d hd
   exact⟨Nat.lt_succ_of_lt q1,q2⟩
  ·subst hd
   refine⟨Nat.lt_succ_self _,fun l=>?_⟩
   cases hx:ρ H.next l with
   | none=>rfl
   | some L=>have:=(R.dom _ _ _ hx).1; omega
 ·rw[AHeap.get_push]at hg
  by_cases e:b'=H.next
  ·rw[if_pos e]at hg
   simp only[sJ]at hg
   subst hg
   simp[AObj.rw]at hrw
  ·rw[if_neg e]at hg
   exact R.glob _ _ _ hg
theorem Rel.claim'(R:Rel Prot w0 ρ H w){b:Nat}(hdead:Prot.dead b){w':World}(n1:w'.os=w.os)(n2:w'.tape=w.tape)(n3:w'.output=w.output)(n4:w'.heap.size=w.heap.size+1)(n5:∀i,i<w.heap.size→w'.heap[i]?=w.heap[i]?){x:AObj}(hx:H.get b=some x){o:Obj}{lim n:Nat}{cl:Bool}(n6:w'.heap[w.heap.size]?=some o)(hO:ORel (upd ρ b lim ⟨w.heap.size,0,n,cl⟩) ⟨w.heap.size,0,n,cl⟩ lim x o) :
  ρ.le (upd ρ b lim ⟨w.heap.size,0,n,cl⟩)∧Rel ⟨Prot.prot,fun d=>Prot.dead d∧d≠b⟩ w0 (upd ρ b lim ⟨w.heap.size,0,n,cl⟩) H w':=by
 obtain⟨hbn,hnone⟩:=R.dead b hdead
 have hnew:∀l L,ρ b l=some L→False:=fun l L h=>by rw[hnone]at h; simp at h
 have hle:ρ.le (upd ρ b lim ⟨w.heap.size,0,n,cl⟩):=upd_le fun L' h'=>(hnew _ _ h').elim
 refine⟨hle,n1.trans R.os,n2.trans R.tape,n3.trans R.output,Nat.le_trans R.size om,fun c hc=>?_,fun b l L h=>?_,fun b l L hb=>?_,fun b l L z hb hz hr=>?_,fun b1 l1 L1 b2 l2 L2 z h1 h2 he hz hr=>?_,fun d hd=>?_,fun b' l' low' hg=>?_⟩
 ·obtain⟨p1,p2⟩:=R.prot c hc
  refine⟨p1,?_⟩
  rw[← p2]
  exact n5 _ (Nat.lt_of_lt_of_le p1 R.size)
 ·unfold upd at h
  split at h
  ·rename_i q
   obtain⟨rfl,rfl⟩:=q
   obtain rfl:=(sJ _ _).mp h
   exact⟨hbn,by simp only; omega⟩
  ·have:=R.dom _ _ _ h
   exact⟨this.1,om⟩
 ·unfold upd at hb
  split at hb
  ·rename_i q
   obtain⟨rfl,rfl⟩:=q
   obtain rfl:=(sJ _ _).mp hb
   exact⟨x,o,hx,n6,hO⟩
  ·obtain⟨z,o',h1,h2,h3⟩:=R.obj _ _ _ hb
   have hd:=R.dom _ _ _ hb
   exact⟨z,o',h1,by rw[← h2]; exact n5 _ hd.2,h3.mono hle⟩
 ·unfold upd at hb
  split at hb
  ·obtain rfl:=(sJ _ _).mp hb
   intro hp
   have:=(R.prot _ hp).1
   have:=R.size
   simp at *
   omega
  ·exact R.free _ _ _ _ hb hz hr
 ·unfold upd at h1 h2
  split at h1 <;> split at h2
  ·rename_i q1 q2
   obtain rfl:=(sJ _ _).mp h1
   obtain rfl:=(sJ _ _).mp h2
   exact⟨q1.1.trans q2.1.symm,rfl⟩
  ·obtain rfl:=(sJ _ _).mp h1
   have:=(R.dom _ _ _ h2).2
   simp only at he
   omega
  ·obtain rfl:=(sJ _ _).mp h2
   have:=(R.dom _ _ _ h1).2
   simp only at he
   omega
  ·exact R.inj _ _ _ _ _ _ _ h1 h2 he hz hr
 ·obtain⟨hd1,hd2⟩:=hd
  obtain⟨q1,q2⟩:=R.dead d hd1
  refine⟨q1,fun l=>?_⟩
  unfold upd
  rw[if_neg (fun q=>hd2 q.1)]
  exact q2 l
 ·obtain⟨L,q1,q2⟩:=R.glob _ _ _ hg
  exact⟨L,hle _ _ _ q1,q2⟩
theorem Rel.push(R:Rel Prot w0 ρ H w){x:AObj}{o:Obj}{lim n:Nat}{cl:Bool}(hO:ORel (upd ρ H.next lim ⟨w.heap.size,0,n,cl⟩) ⟨w.heap.size,0,n,cl⟩ lim x o)(hrw:x.rw=true) :
  ρ.le (upd ρ H.next lim ⟨w.heap.size,0,n,cl⟩)∧Rel Prot w0 (upd ρ H.next lim ⟨w.heap.size,0,n,cl⟩) (H.push x) (w.alloc o):=
 R.push' (w':=w.alloc o) rfl rfl rfl (by simp) (fun i hi=>RowKit.Below.heap_alloc _ _ _ hi) (by show (w.heap.push o)[w.heap.size]?=_; simp) hO hrw
theorem new_run(R:Rel Prot w0 ρ H w){xs:List AVal}{C:Array Value}{e:TypeId}{vs:List Value}(hv:VRels ρ xs vs)(hC:∀i,i<xs.length→C[i]?=vs[i]?) :
  ∃ρ' L,ρ.le ρ'∧ρ' H.next xs.length=some L∧L=⟨w.heap.size,0,C.size,true⟩∧Rel Prot w0 ρ' (H.push (.cells xs 0 false)) (w.alloc (.cells C e)):=by
 refine⟨upd ρ H.next xs.length ⟨w.heap.size,0,C.size,true⟩,_,?_,upd_same _ _ _ _,rfl,?_⟩
 all_goals
  obtain⟨h1,h2⟩:=R.push (x:=.cells xs 0 false) (o:=.cells C e) (lim:=xs.length) (n:=C.size) (cl:=true) (by
   simp only[ORel]
   refine⟨C,e,0,0,rfl,rfl,fun _=>⟨fun i _=>om,Nat.le_refl _,fun _=>om⟩,Nat.le_refl _,fun _ i i1 i2=>?_⟩
   have hx:xs[i]?=some xs[i]:=List.getElem?_eq_getElem i2
   obtain⟨v,u1,u2⟩:=hv.nth _ _ hx
   refine⟨_,v,hx,?_,VRel.mono (upd_le fun L' h'=>by have:=(R.dom _ _ _ h').1; omega) _ _ u2⟩
   simpa[hC i i2] using u1) rfl
 ·exact h1
 ·exact h2
def growCells(H:AHeap)(a:Ad)(p:Nat)(xs:List AVal):Option AHeap:=
 match H.get a.b with
 | some (.cells l low false mk)=>
  bif Nat.ble low a.lim&&(Nat.beq a.lim l.length&&(Nat.ble p a.lim&&(Nat.ble a.o p&&(Nat.ble (a.lim+1) (p+xs.length)&&xs.all AVal.one)))) then
   some (H.set a.b (.cells (l.take p++xs) (bif Nat.beq p a.lim then low else p+xs.length) false mk)) else none
 | _=>none
theorem grow_spec{a:Ad}{p:Nat}{xs:List AVal}{H':AHeap}(h:growCells H a p xs=some H') :
  ∃l low mk,H.get a.b=some (.cells l low false mk)∧low≤a.lim∧a.lim=l.length∧p≤a.lim∧a.o≤p∧a.lim<p+xs.length∧(∀x∈xs,x.one=true) ∧
   H'=H.set a.b (.cells (l.take p++xs) (bif Nat.beq p a.lim then low else p+xs.length) false mk):=by
 unfold growCells at h
 split at h
 ·rename_i l low mk hg
  cases hc:(Nat.ble low a.lim&&(Nat.beq a.lim l.length&&(Nat.ble p a.lim&&(Nat.ble a.o p&&(Nat.ble (a.lim+1) (p+xs.length)&&xs.all AVal.one))))) with
  | false=>rw[hc]at h; simp at h
  | true=>
   rw[hc]at h
   simp only[Bool.and_eq_true,Nat.ble_eq,List.all_eq_true]at hc
   simp only[cond_true,sJ]at h
   exact⟨l,low,mk,hg,hc.1,Nat.eq_of_beq_eq_true hc.2.1,hc.2.2.1,hc.2.2.2.1,hc.2.2.2.2.1,hc.2.2.2.2.2,h.symm⟩
 ·simp at h
theorem low_of{p lim low m:Nat}{l':Nat}(h:(bif Nat.beq p lim then low else m)≤l'):(p=lim∧low≤l')∨m≤l':=by
 cases hb:Nat.beq p lim with
 | true=>rw[hb]at h; exact .inl ⟨Nat.eq_of_beq_eq_true hb,h⟩
 | false=>rw[hb]at h; exact .inr h
theorem Rel.grown(R:Rel Prot w0 ρ H w){a:Ad}{p:Nat}{xs:List AVal}{H':AHeap}(h:growCells H a p xs=some H'){L:Loc}(hL:ρ a.b a.lim=some L){w':World}{N:Loc}
  (hos:w'.os=w.os) (htape:w'.tape=w.tape) (hout:w'.output=w.output) (hsize:w.heap.size≤w'.heap.size) (hrest:∀i,i<w.heap.size→i≠L.c→w'.heap[i]?=w.heap[i]?)
  (hN:(N.c=L.c∧N.sh=L.sh)∨(w.heap.size≤N.c∧N.c<w'.heap.size))
  (hNew:∃C e lo hi,w'.heap[N.c]?=some (.cells C e (lo,hi))∧C.size=N.n ∧
   ∀l low mk,H.get a.b=some (.cells l low false mk)→FzOK mk C.size lo hi∧CellsRel ρ N (p+xs.length) (l.take p++xs) C)
  (hOld:∃C C' e lo hi,w.heap[L.c]?=some (.cells C e (lo,hi))∧w'.heap[L.c]?=some (.cells C' e (lo,hi))∧C'.size=C.size∧∀j,j+L.sh<p→C'[j]?=C[j]?) :
  ρ.le (upd ρ a.b (p+xs.length) N)∧Rel Prot w0 (upd ρ a.b (p+xs.length) N) H' w':=by
 obtain⟨l,low,mk,hg,h0,h1,h2,h3,h4,h5,rfl⟩:=grow_spec h
 have hname:∀b' l' L',ρ b' l'=some L'→b'=a.b→l'≤l.length:=by
  intro b' l' L' hL' e
  subst e
  obtain⟨x,o,hx,_,hr⟩:=R.obj _ _ _ hL'
  rw[hg]at hx
  obtain rfl:=(sJ _ _).mp hx
  simp only[ORel]at hr
  obtain⟨_,_,_,_,_,_,_,hl,_⟩:=hr
  exact hl
 have hle:ρ.le (upd ρ a.b (p+xs.length) N):=upd_le fun L' h'=>by have:=hname _ _ _ h' rfl; omega
 have hlen:(l.take p++xs).length=p+xs.length:=by simp; omega
 have hLc:=(R.dom _ _ _ hL).2
 refine⟨hle,hos.trans R.os,htape.trans R.tape,hout.trans R.output,Nat.le_trans R.size hsize,fun c hc=>?_,fun b' l' L' hb=>?_,fun b' l' L' hb=>?_,fun b' l' L' z hb hz hr=>?_,fun b1 l1 L1 b2 l2 L2 z p1 p2 he hz hr=>?_,fun d hd=>?_,fun b' l' low' hg=>?_⟩
 ·obtain⟨p1,p2⟩:=R.prot c hc
  refine⟨p1,?_⟩
  rw[hrest c (Nat.lt_of_lt_of_le p1 R.size) (fun e=>R.free _ _ _ _ hL hg rfl (e ▸ hc))]
  exact p2
 ·unfold upd at hb
  split at hb
  ·rename_i q
   obtain rfl:=(sJ _ _).mp hb
   refine⟨q.1 ▸ (R.dom _ _ _ hL).1,?_⟩
   rcases hN with⟨q,_⟩ | ⟨_,q⟩
   ·rw[q]; omega
   ·exact q
  ·have:=R.dom _ _ _ hb
   exact⟨this.1,Nat.lt_of_lt_of_le this.2 hsize⟩
 ·unfold upd at hb
  split at hb
  ·rename_i q
   obtain⟨rfl,rfl⟩:=q
   obtain rfl:=(sJ _ _).mp hb
   obtain⟨C,e,lo,hi,c1,c2,c34⟩:=hNew
   obtain⟨c3,c4⟩:=c34 l low mk hg
   refine⟨_,_,by rw[AHeap.get_set,if_pos rfl],c1,?_⟩
   simp only[ORel]
   refine⟨C,e,lo,hi,rfl,c2,fun _=>c3,Nat.le_of_eq hlen.symm,fun _ i i1 i2=>?_⟩
   obtain⟨x,v,r1,r2,r3⟩:=c4 i i1 i2
   exact⟨x,v,r1,r2,VRel.mono hle _ _ r3⟩
  ·by_cases e:b'=a.b
   ·have hnm:=hname _ _ _ hb e
    subst e
    obtain⟨x,o,hx,ho,hr⟩:=R.obj _ _ _ hb
    rw[hg]at hx
    obtain rfl:=(sJ _ _).mp hx
    simp only[ORel]at hr
    obtain⟨C,e,lo,hi,rfl,c2,c3,c4,c5⟩:=hr
    by_cases hc:L'.c=L.c
    ·have hsh:=(R.inj _ _ _ _ _ _ _ hb hL hc hg rfl).2
     obtain⟨C1,C',e1,lo1,hi1,d1,d2,d3,d4⟩:=hOld
     rw[← hc,ho]at d1
     simp only[sJ,Obj.cells.injEq,pJ]at d1
     obtain⟨rfl,rfl,rfl,rfl⟩:=d1
     refine⟨_,_,by rw[AHeap.get_set,if_pos rfl],by rw[hc]; exact d2,?_⟩
     simp only[ORel]
     refine⟨C',e,lo,hi,rfl,d3.trans c2,by rw[d3]; exact c3,by rw[hlen]; omega,fun hlow=>?_⟩
     rcases low_of hlow with⟨q1,q2⟩ | q2
     ·intro i i1 i2
      obtain⟨x,v,r1,r2,r3⟩:=c5 q2 i i1 i2
      refine⟨x,v,?_,?_,VRel.mono hle _ _ r3⟩
      ·rw[List.getElem?_append_left (by simp; omega),List.getElem?_take,if_pos om]
       exact r1
      ·rw[d4 _ om]
       exact r2
     ·omega
    ·refine⟨_,_,by rw[AHeap.get_set,if_pos rfl],by rw[hrest _ (R.dom _ _ _ hb).2 hc]; exact ho,?_⟩
     simp only[ORel]
     refine⟨C,e,lo,hi,rfl,c2,c3,by rw[hlen]; omega,fun hlow=>?_⟩
     rcases low_of hlow with⟨q1,q2⟩ | q2
     ·intro i i1 i2
      obtain⟨x,v,r1,r2,r3⟩:=c5 q2 i i1 i2
      refine⟨x,v,?_,r2,VRel.mono hle _ _ r3⟩
      rw[List.getElem?_append_left (by simp; omega),List.getElem?_take,if_pos om]
      exact r1
     ·omega
   ·obtain⟨x,o,hx,ho,hr⟩:=R.obj _ _ _ hb
    refine⟨x,o,by rw[AHeap.get_set,if_neg e]; exact hx,?_,hr.mono hle⟩
    rw[hrest _ (R.dom _ _ _ hb).2 (fun q=>e (R.inj _ _ _ _ _ _ _ hL hb q.symm hg rfl).1.symm)]
    exact ho
 ·unfold upd at hb
  split at hb
  ·obtain rfl:=(sJ _ _).mp hb
   intro hp
   rcases hN with⟨q,_⟩ | ⟨q,_⟩
   ·exact R.free _ _ _ _ hL hg rfl (q ▸ hp)
   ·have:=(R.prot _ hp).1
    have:=R.size
    omega
  ·rw[AHeap.get_set]at hz
   by_cases e:b'=a.b
   ·subst e
    exact R.free _ _ _ _ hb hg rfl
   ·rw[if_neg e]at hz
    exact R.free _ _ _ _ hb hz hr
 ·have key:∀b' l' L',ρ b' l'=some L'→L'.c=N.c→a.b=b'∧N.sh=L'.sh:=by
   intro b' l' L' hb hc
   rcases hN with⟨q1,q2⟩ | ⟨q1,q2⟩
   ·obtain⟨x1,x2⟩:=R.inj _ _ _ _ _ _ _ hL hb (q1 ▸ hc.symm) hg rfl
    exact⟨x1,q2.trans x2⟩
   ·have:=(R.dom _ _ _ hb).2
    omega
  unfold upd at p1 p2
  split at p1 <;> split at p2
  ·rename_i q1 q2
   obtain rfl:=(sJ _ _).mp p1
   obtain rfl:=(sJ _ _).mp p2
   exact⟨q1.1.trans q2.1.symm,rfl⟩
  ·rename_i q1 q2
   obtain rfl:=(sJ _ _).mp p1
   obtain⟨k1,k2⟩:=key _ _ _ p2 he.symm
   exact⟨q1.1.trans k1,k2⟩
  ·rename_i q1 q2
   obtain rfl:=(sJ _ _).mp p2
   obtain⟨k1,k2⟩:=key _ _ _ p1 he
   exact⟨k1.symm.trans q2.1.symm,k2.symm⟩
  ·rw[AHeap.get_set]at hz
   by_cases e:b1=a.b
   ·subst e
    exact R.inj _ _ _ _ _ _ _ p1 p2 he hg rfl
   ·rw[if_neg e]at hz
    exact R.inj _ _ _ _ _ _ _ p1 p2 he hz hr
 ·obtain⟨q1,q2⟩:=R.dead d hd
  refine⟨q1,fun l=>?_⟩
  unfold upd
  rw[if_neg]
  ·exact q2 l
  ·rintro ⟨rfl,_⟩
   rw[q2]at hL
   simp at hL
 ·rw[AHeap.get_set]at hg
  by_cases e:b'=a.b
  ·rw[if_pos e]at hg
   simp at hg
  ·rw[if_neg e]at hg
   obtain⟨L',q1,q2⟩:=R.glob _ _ _ hg
   exact⟨L',hle _ _ _ q1,q2⟩
end
end Go.Abs
namespace Go.Abs
section
variable {P:Program} {Prot:Gh} {w0:World} {ρ:Pl} {H H':AHeap} {w:World}
def GoodV(P:Program)(Prot:Gh)(w0:World)(ρ:Pl)(w:World)(s:Sem Value)(x:AVal)(H':AHeap):Prop:=
 ∃ρ' w' v,ρ.le ρ'∧s.run P w=.ok v w'∧Rel Prot w0 ρ' H' w'∧VRel ρ' x v
theorem GoodV.pure(R:Rel Prot w0 ρ H w){x:AVal}{v:Value}{s:Sem Value}(hr:s.run P w=.ok v w)(h:VRel ρ x v):GoodV P Prot w0 ρ w s x H:=
 ⟨ρ,w,v,Pl.le_refl _,hr,R,h⟩
structure Ty(P:Program)(t:TypeId)(agg:Bool)(size:Nat):Prop where
 agg:∀w,(isAgg t).run P w=.ok agg w
 size:∀w,(sizeOf t).run P w=.ok size w
def tyOf(P:Program)(t:TypeId):Option (Bool×Nat):=
 match P.underlying t,P.info? t with
 | some (.struct _),some i=>some (true,i.size)
 | some (.array _ _),some i=>some (true,i.size)
 | some _,some i=>some (false,i.size)
 | _,_=>none
theorem ty_of{t:TypeId}{a:Bool}{n:Nat}(h:tyOf P t=some (a,n)):Ty P t a n:=by
 unfold tyOf at h
 split at h <;> simp only[sJ,pJ,reduceCtorEq]at h
 all_goals
  obtain⟨rfl,rfl⟩:=h
  rename_i hu hi
  refine⟨fun w=>?_,fun w=>by simp[sizeOf,run_typeInfo w hi]⟩
  unfold isAgg
  simp only[Sem.run_bind,run_underlying hu,Result.andThen_ok]
 ·rfl
 ·rfl
 ·rename_i d _ q2 q1
  cases d <;> first | rfl | exact absurd rfl (q1 _) | exact absurd rfl (q2 _ _)
def oLoad(agg:Bool)(size:Nat)(H:AHeap):AVal→Option AVal
 | .ptr (some a)=>
  match rdCells H a size with
  | some xs=>bif agg then some (.agg xs) else match xs with | [x]=>some x | _=>none
  | none=>none
 | _=>none
theorem load_ok(R:Rel Prot w0 ρ H w){t:TypeId}{agg:Bool}{size:Nat}(T:Ty P t agg size){x:AVal}{v:Value}(hx:VRel ρ x v){y:AVal}(h:oLoad agg size H x=some y) :
  ∃u,(Instr.loadAt t v).run P w=.ok u w∧VRel ρ y u:=by
 unfold oLoad at h
 split at h
 ·rename_i a
  split at h
  ·rename_i xs hxs
   simp only[VRel]at hx
   obtain⟨L,hL,hs,rfl⟩:=hx
   obtain⟨vs,h1,h2,h3⟩:=rd_run (P:=P) R hxs hL hs
   cases agg with
   | true=>
    simp only[cond_true,sJ]at h
    subst h
    refine⟨.agg vs,?_,by simp only[VRel]; exact⟨vs,rfl,h2⟩⟩
    simp[Instr.loadAt,Instr.sureAddr,loadVar,T.agg,T.size,h1]
   | false=>
    simp only[cond_false]at h
    split at h
    ·rename_i xs0 z hz
     simp only[sJ]at h
     subst h
     have hl:=VRels.len h2
     have hz1:size=1:=by simp at hl; omega
     subst hz1
     simp only[VRels]at h2
     obtain⟨u,r,hu,hr,hnil⟩:=h2
     refine⟨u,?_,hr⟩
     have e:vs=#[u]:=by
      have:vs.toList=[u]:=by rw[hu,hnil]
      exact Array.toList_inj.1 (by simpa using this)
     subst e
     simp only[loadCells,loadCellsFrom,Sem.run_bind,add_none,Nat.add_zero]at h1
     simp only[Instr.loadAt,Instr.sureAddr,loadVar,T.agg,Sem.run_bind,Sem.run_pure,Result.andThen_ok,Bool.false_eq_true,if_false]
     cases hq:(Go.load (⟨L.c,a.o-L.sh,none⟩:Addr) Mode.plain).run P w with
     | ok q wq=>
      rw[hq]at h1
      simp at h1
      obtain⟨rfl,rfl⟩:=h1
      rfl
     | halt q wq=>rw[hq]at h1; simp at h1
    ·simp at h
  ·simp at h
 ·simp at h
def oStore(size:Nat)(H:AHeap)(a x:AVal):Option AHeap:=
 match a with
 | .ptr (some a)=>bif Nat.beq x.cells.length size then wrCells H a x.cells else none
 | _=>none
theorem store_ok(R:Rel Prot w0 ρ H w){t:TypeId}{agg:Bool}{size:Nat}(T:Ty P t agg size){a x:AVal}{av v:Value}(ha:VRel ρ a av)(hx:VRel ρ x v)(h:oStore size H a x=some H') :
  ∃w',(Instr.storeAt t av v).run P w=.ok () w'∧Rel Prot w0 ρ H' w':=by
 unfold oStore at h
 split at h
 ·rename_i a
  cases hb:Nat.beq x.cells.length size with
  | false=>rw[hb]at h; simp at h
  | true=>
   rw[hb]at h
   simp only[cond_true]at h
   have hn:=Nat.eq_of_beq_eq_true hb
   simp only[VRel]at ha
   obtain⟨L,hL,hs,rfl⟩:=ha
   have hc:=hx.cells
   obtain⟨w',h1,h2⟩:=wr_run (P:=P) R h hL hs hc
   refine⟨w',?_,h2⟩
   have hsz:v.cells.size=size:=by have:=VRels.len hc; simp at this; omega
   simp[Instr.storeAt,Instr.sureAddr,storeVar,T.size,hsz,h1]
 ·simp at h
def oNew(H:AHeap)(xs:List AVal):AVal×AHeap:=(.ptr (some ⟨H.next,xs.length,0⟩),H.push (.cells xs 0 false))
theorem newRow_ok(R:Rel Prot w0 ρ H w){xs:List AVal}{C:Array Value}(e:TypeId)(h:VRels ρ xs C.toList) :
  ∃ρ' w',ρ.le ρ'∧(newRow e C).run P w=.ok ⟨w.heap.size,0,none⟩ w'∧Rel Prot w0 ρ' (H.push (.cells xs 0 false)) w'∧ρ' H.next xs.length=some ⟨w.heap.size,0,C.size,true⟩:=by
 obtain⟨ρ',L,h1,h2,h3,h4⟩:=new_run (e:=e) (C:=C) R h (fun i hi=>by rw[Array.getElem?_toList])
 subst h3
 exact⟨ρ',_,h1,rfl,h4,h2⟩
theorem new_ok(R:Rel Prot w0 ρ H w){x:AVal}{v:Value}(e:TypeId)(h:VRel ρ x v) :
  GoodV P Prot w0 ρ w (do pure (.pointer (some (← newVar e v)))) (oNew H x.cells).1 (oNew H x.cells).2:=by
 obtain⟨ρ',w',h1,h2,h3,h4⟩:=newRow_ok (P:=P) R e h.cells
 refine⟨ρ',w',_,h1,by simp only[newVar,Sem.run_bind,h2,Result.andThen_ok]; rfl,h3,?_⟩
 simp only[oNew,VRel]
 exact⟨_,h4,Nat.zero_le _,rfl⟩
def uwr(N:Nat):Int→Int
 | .ofNat m=>.ofNat (m % N)
 | .negSucc m=>.ofNat (N-1-m % N)
def swr(N h:Nat):Int→Int
 | .ofNat m=>bif Nat.ble h (m % N) then .negSucc (N-1-m % N) else .ofNat (m % N)
 | .negSucc m=>bif Nat.ble h (m % N) then .ofNat (N-1-m % N) else .negSucc (m % N)
def wrF:IntKind→Int→Int
 | .i8=>swr 256 128
 | .i16=>swr 65536 32768
 | .i32=>swr 4294967296 2147483648
 | .i64=>swr 18446744073709551616 9223372036854775808
 | .u8=>uwr 256
 | .u16=>uwr 65536
 | .u32=>uwr 4294967296
 | .u64=>uwr 18446744073709551616
theorem ble_dec(a b:Nat):Nat.ble a b=decide (a≤b):=by
 cases h:Nat.ble a b with
 | true=>rw[decide_eq_true (Nat.le_of_ble_eq_true h)]
 | false=>rw[decide_eq_false (fun e=>by rw[Nat.ble_eq_true_of_le e]at h; simp at h)]
theorem wrF_eq(k:IntKind)(n:Int):wrF k n=k.wrap n:=by
 cases k <;> cases n <;> simp only[wrF,uwr,swr,IntKind.wrap,IntKind.signed,IntKind.bits,ble_dec,Bool.cond_decide] <;> simp <;> (try split) <;> omega
def ltF:Int→Int→Bool
 | .ofNat m,.ofNat n=>Nat.ble (m+1) n
 | .ofNat _,.negSucc _=>false
 | .negSucc _,.ofNat _=>true
 | .negSucc m,.negSucc n=>Nat.ble (n+1) m
theorem ltF_eq(a b:Int):ltF a b=decide (a<b):=by
 cases a <;> cases b <;> simp only[ltF,ble_dec] <;> first
  | (congr 1; simp only[eq_iff_iff]; omega)
  | (symm; simp; omega)
def eqF:Int→Int→Bool
 | .ofNat m,.ofNat n=>Nat.beq m n
 | .negSucc m,.negSucc n=>Nat.beq m n
 | _,_=>false
theorem beq_dec(a b:Nat):Nat.beq a b=decide (a=b):=by
 cases h:Nat.beq a b with
 | true=>rw[decide_eq_true (Nat.eq_of_beq_eq_true h)]
 | false=>rw[decide_eq_false (fun e=>by rw[e,Nat.beq_refl]at h; simp at h)]
theorem eqF_eq(a b:Int):eqF a b=(a==b):=by
 have:(a==b)=decide (a=b):=by by_cases h:a=b <;> simp[h]
 rw[this]
 cases a <;> cases b <;> simp[eqF,beq_dec]
 omega
def mulP:Int→Nat→Int
 | .ofNat m,p=>.ofNat (m*p)
 | .negSucc m,p=>.negSucc ((m+1)*p-1)
theorem mulP_eq(a:Int)(n:Nat):mulP a (2 ^ n)=a*2 ^ n:=by
 have hp:0<2 ^ n:=Nat.two_pow_pos n
 have e:((2:Int) ^ n)=((2 ^ n:Nat):Int):=by simp
 rw[e]
 cases a with
 | ofNat m=>simp[mulP]
 | negSucc m=>
  simp only[mulP]
  have h1:1≤(m+1)*2 ^ n:=Nat.mul_pos om hp
  rw[Int.negSucc_eq,Int.negSucc_eq]
  rw[Int.natCast_sub h1,Int.natCast_mul]
  simp only[Int.neg_mul]
  push_cast
  omega
def divP:Int→Nat→Int
 | .ofNat m,p=>.ofNat (m / p)
 | .negSucc m,p=>.negSucc (m / p)
theorem divP_eq(a:Int)(n:Nat):divP a (2 ^ n)=a.fdiv (2 ^ n):=by
 have e:((2:Int) ^ n)=((2 ^ n:Nat):Int):=by simp
 rw[e]
 have hp:0<2 ^ n:=Nat.two_pow_pos n
 obtain⟨p,hp'⟩:∃p,2 ^ n=p+1:=⟨2 ^ n-1,om⟩
 rw[hp']
 cases a with
 | ofNat m=>rw[Int.fdiv_eq_ediv_of_nonneg _ om]; rfl
 | negSucc m=>rfl
def bitsF(k:IntKind)(f:Nat→Nat→Nat)(g:Int):Int→Int→Int
 | .ofNat m,.ofNat n=>wrF k (.ofNat (f (m % 2 ^ k.bits) (n % 2 ^ k.bits)))
 | _,_=>g
def aInt(op:BinOp)(k:IntKind)(a b:Int):Option AVal:=
 match op with
 | .add=>some (.int k (k.wrap (a+b)))
 | .sub=>some (.int k (k.wrap (a-b)))
 | .mul=>some (.int k (k.wrap (a*b)))
 | .quo=>if b=0 then none else some (.int k (k.wrap (a.tdiv b)))
 | .rem=>if b=0 then none else some (.int k (a.tmod b))
 | .and=>some (.int k (k.wrap (BitVec.ofInt k.bits a &&& BitVec.ofInt k.bits b).toNat))
 | .or=>some (.int k (k.wrap (BitVec.ofInt k.bits a ||| BitVec.ofInt k.bits b).toNat))
 | .xor=>some (.int k (k.wrap (BitVec.ofInt k.bits a ^^^ BitVec.ofInt k.bits b).toNat))
 | .andNot=>some (.int k (k.wrap (BitVec.ofInt k.bits a &&& ~~~BitVec.ofInt k.bits b).toNat))
 | .eql=>some (.bool (a==b))
 | .neq=>some (.bool (a != b))
 | .lss=>some (.bool (decide (a<b)))
 | .leq=>some (.bool (decide (a≤b)))
 | .gtr=>some (.bool (decide (a > b)))
 | .geq=>some (.bool (decide (a ≥ b)))
 | _=>none
def aShift(op:BinOp)(k:IntKind)(a b:Int):Option AVal:=
 match op with
 | .shl=>if b<0 then none else some (.int k (k.wrap (a*2 ^ (min b.toNat k.bits))))
 | .shr=>if b<0 then none else some (.int k (a.fdiv (2 ^ (min b.toNat k.bits))))
 | _=>none
def aIntF(op:BinOp)(k:IntKind)(a b:Int):Option AVal:=
 match op with
 | .add=>some (.int k (wrF k (a+b)))
 | .sub=>some (.int k (wrF k (a-b)))
 | .mul=>some (.int k (wrF k (a*b)))
 | .quo=>bif eqF b 0 then none else some (.int k (wrF k (a.tdiv b)))
 | .rem=>bif eqF b 0 then none else some (.int k (a.tmod b))
 | .and=>some (.int k (bitsF k Nat.land (k.wrap (BitVec.ofInt k.bits a &&& BitVec.ofInt k.bits b).toNat) a b))
 | .or=>some (.int k (bitsF k Nat.lor (k.wrap (BitVec.ofInt k.bits a ||| BitVec.ofInt k.bits b).toNat) a b))
 | .xor=>some (.int k (bitsF k Nat.xor (k.wrap (BitVec.ofInt k.bits a ^^^ BitVec.ofInt k.bits b).toNat) a b))
 | .eql=>some (.bool (eqF a b))
 | .neq=>some (.bool (!eqF a b))
 | .lss=>some (.bool (ltF a b))
 | .leq=>some (.bool (!ltF b a))
 | .gtr=>some (.bool (ltF b a))
 | .geq=>some (.bool (!ltF a b))
 | op=>aInt op k a b
theorem bitsF_eq(k:IntKind)(a b:Int){f:Nat→Nat→Nat}{g:BitVec k.bits→BitVec k.bits→BitVec k.bits}(hfg:∀x y:BitVec k.bits,(g x y).toNat=f x.toNat y.toNat) :
  bitsF k f (k.wrap (g (BitVec.ofInt k.bits a) (BitVec.ofInt k.bits b)).toNat) a b=k.wrap (g (BitVec.ofInt k.bits a) (BitVec.ofInt k.bits b)).toNat:=by
 unfold bitsF
 split
 ·rename_i m n
  rw[wrF_eq,hfg]
  have e:∀m:Nat,(BitVec.ofInt k.bits (.ofNat m)).toNat=m % 2 ^ k.bits:=fun m=>by
   rw[BitVec.toNat_ofInt]
   show ((m:Int) % ((2 ^ k.bits:Nat):Int)).toNat=_
   rw[← Int.natCast_emod]
   rfl
  rw[e,e]
  rfl
 ·rfl
theorem aIntF_eq(op:BinOp)(k:IntKind)(a b:Int):aIntF op k a b=aInt op k a b:=by
 cases op <;> simp only[aIntF,aInt,wrF_eq,eqF_eq,ltF_eq]
 case quo=>
  by_cases h:b=0
  ·simp[h]
  ·have:(b==0)=false:=by simpa using h
   simp[this,h]
 case rem=>
  by_cases h:b=0
  ·simp[h]
  ·have:(b==0)=false:=by simpa using h
   simp[this,h]
 case and=>rw[bitsF_eq k a b (f:=Nat.land) (g:=fun x y=>x &&& y) (fun x y=>BitVec.toNat_and x y)]
 case or=>rw[bitsF_eq k a b (f:=Nat.lor) (g:=fun x y=>x ||| y) (fun x y=>BitVec.toNat_or x y)]
 case xor=>rw[bitsF_eq k a b (f:=Nat.xor) (g:=fun x y=>x ^^^ y) (fun x y=>BitVec.toNat_xor x y)]
 case leq=>congr 2; by_cases h:a≤b <;> simp[h] <;> omega
 case geq=>congr 2; by_cases h:a ≥ b <;> simp[h] <;> omega
 all_goals first | rfl | (simp[bne]; done)
def aShiftF(op:BinOp)(k:IntKind)(a b:Int):Option AVal:=
 match op,b with
 | .shl,.ofNat n=>some (.int k (wrF k (mulP a (2 ^ (bif Nat.ble n k.bits then n else k.bits)))))
 | .shr,.ofNat n=>some (.int k (divP a (2 ^ (bif Nat.ble n k.bits then n else k.bits))))
 | _,_=>none
theorem aShiftF_eq(op:BinOp)(k:IntKind)(a b:Int):aShiftF op k a b=aShift op k a b:=by
 cases b with
 | ofNat n=>
  have hm:(bif Nat.ble n k.bits then n else k.bits)=min n k.bits:=by
   rw[ble_dec]; by_cases h:n≤k.bits <;> simp[h] <;> omega
  have h0:¬((Int.ofNat n)<0):=by simp
  cases op <;> simp only[aShiftF,aShift,wrF_eq,mulP_eq,divP_eq,hm]
  ·rw[if_neg h0]; rfl
  ·rw[if_neg h0]; rfl
 | negSucc n=>
  have h0:(Int.negSucc n)<0:=Int.negSucc_lt_zero n
  cases op <;> simp only[aShiftF,aShift]
  ·rw[if_pos h0]
  ·rw[if_pos h0]
def bless:List UInt8→List UInt8→Bool:=Op.bytesLess
def aStr(op:BinOp)(x y:List UInt8):Option AVal:=
 match op with
 | .add=>bif Nat.ble (x.length+y.length) 9223372036854775807 then some (.str (x++y)) else none
 | .eql=>some (.bool (x==y))
 | .neq=>some (.bool (!(x==y)))
 | .lss=>some (.bool (bless x y))
 | .leq=>some (.bool (bless x y||x==y))
 | .gtr=>some (.bool (!(bless x y||x==y)))
 | .geq=>some (.bool (!bless x y))
 | _=>none
def isShift:BinOp→Bool
 | .shl | .shr=>true
 | _=>false
def aBin(op:BinOp):AVal→AVal→Option AVal
 | .int k a,.int k' b=>bif isShift op then aShiftF op k a b else if k=k' then aIntF op k a b else none
 | .str x,.str y=>aStr op x y
 | _,_=>none
theorem binOp_int{op:BinOp}{t:TypeId}{k k':IntKind}{a b:Int}(hs:isShift op=false)(hk:k=k') :
  binOp op t (.int k a) (.int k' b)=match op with
   | .add | .sub | .mul=>Op.intArith op k a b
   | .quo | .rem=>Op.intDiv op k a b
   | .and | .or | .xor | .andNot=>Op.intBits op k a b
   | _=>Op.intCmp op a b:=by
 subst hk
 cases op <;> first | (simp[binOp]; done) | (simp[isShift]at hs)
theorem bin_ok{op:BinOp}{t:TypeId}{x y r:AVal}{u v:Value}(hx:VRel ρ x u)(hy:VRel ρ y v)(h:aBin op x y=some r)(w:World) :
  ∃z,(binOp op t u v).run P w=.ok z w∧VRel ρ r z:=by
 unfold aBin at h
 simp only[aIntF_eq,aShiftF_eq]at h
 split at h
 ·rename_i k a k' b
  simp only[VRel]at hx hy
  subst hx hy
  cases hs:isShift op with
  | true=>
   rw[hs]at h
   cases op <;> simp only[isShift,Bool.false_eq_true]at hs
   all_goals
    simp only[cond_true,aShift]at h
    split at h
    ·simp at h
    ·rename_i hb
     simp only[sJ]at h
     subst h
     refine⟨_,?_,rfl⟩
     simp[binOp,Op.shift,hb]
  | false=>
   rw[hs]at h
   simp only[cond_false]at h
   split at h
   ·rename_i hk
    rw[binOp_int hs hk]
    cases op <;> simp only[aInt,sJ,reduceCtorEq]at h
    all_goals first
     | (split at h
        · simp at h
        · rename_i hb
          simp only [sJ] at h
          subst h
          refine ⟨_, ?_, rfl⟩
          simp [Op.intDiv, hb])
     | (subst h
        refine ⟨_, ?_, rfl⟩
        first | rfl | simp [Op.intArith, Op.intBits, Op.intCmp])
   ·simp at h
 ·rename_i s1 s2
  simp only[VRel]at hx hy
  subst hx hy
  have hb:binOp op t (.string (strOf s1)) (.string (strOf s2))=Op.stringOp op (strOf s1) (strOf s2):=by cases op <;> rfl
  rw[hb]
  have e1:∀s:List UInt8,(strOf s).toList=s:=fun s=>by
   rw[Lib.toList_data]; rfl
  have e2:∀s:List UInt8,(strOf s).size=s.length:=fun s=>by simp[strOf,ByteArray.size]
  cases op <;> simp only[aStr,sJ,reduceCtorEq]at h
  case add=>
   cases hb:Nat.ble (s1.length+s2.length) 9223372036854775807 with
   | false=>rw[hb]at h; simp at h
   | true=>
    rw[hb]at h
    simp only[cond_true,sJ]at h
    subst h
    have:=Nat.le_of_ble_eq_true hb
    refine⟨.string (strOf s1++strOf s2),?_,?_⟩
    ·simp only[Op.stringOp,e2,IntKind.max,IntKind.signed,IntKind.bits]
     rw[if_neg (by simp; omega)]
     rfl
    ·simp only[VRel]
     congr 1
  all_goals
   subst h
   refine⟨_,?_,rfl⟩
   simp[Op.stringOp,e1,bless]
 ·simp at h
end
end Go.Abs
namespace Go.Abs
section
variable {P:Program} {Prot:Gh} {w0:World} {ρ:Pl} {H H':AHeap} {w:World}
def aNil:AVal→Option AVal
 | .ptr (some a)=>some (.ptr (some a))
 | .slice a n r=>some (.slice a n r)
 | .map r=>some (.map r)
 | .iface t v=>some (.iface t v)
 | .func (.func f) a b=>some (.func (.func f) a b)
 | _=>none
def aField(off:Nat):AVal→Option AVal
 | .ptr (some a)=>some (.ptr (some ⟨a.b,a.lim,a.o+off⟩))
 | _=>none
theorem ptr_add{a:Ad}{v:Value}(h:VRel ρ (.ptr (some a)) v)(k:Nat):∃b,v=.pointer (some b)∧VRel ρ (.ptr (some ⟨a.b,a.lim,a.o+k⟩)) (.pointer (some (b.add k))):=by
 simp only[VRel]at h ⊢
 obtain⟨L,h1,h2,rfl⟩:=h
 refine⟨_,rfl,L,h1,om,?_⟩
 rw[add_none]
 congr 3
 omega
theorem fieldA_ok{s:TypeId}{fields:Array Field}{f:Field}{i n:Nat}(hu:P.underlying s=some (.struct fields))(hf:fields[i]?=some f){agg:Bool}(T:Ty P f.type agg n)(hn:n≠0)
  {x y:AVal} {v:Value} (hx:VRel ρ x v) (h:aField f.offset x=some y):∃u,(Instr.fieldAt s v i).run P w=.ok u w∧VRel ρ y u:=by
 unfold aField at h
 split at h
 ·rename_i a
  simp only[sJ]at h
  subst h
  obtain⟨b,rfl,hb⟩:=ptr_add hx f.offset
  refine⟨_,?_,hb⟩
  simp[Instr.fieldAt,run_underlying hu,hf,Instr.sureAddr,fieldPlace,T.size,hn]
 ·simp at h
def aIdxA(size:Nat)(x i:AVal):Option AVal:=
 match x,i with
 | .slice (some a) len _,.int _ (.ofNat i)=>bif Nat.blt i len then some (.ptr (some ⟨a.b,a.lim,a.o+i*size⟩)) else none
 | _,_=>none
theorem slice_off{a:Ad}{len:Nat}{r:Room}{v:Value}(h:VRel ρ (.slice (some a) len r) v):∃L off c,ρ a.b a.lim=some L∧L.sh≤a.o∧v=.slice (some ⟨L.c,off,none⟩) len c∧len≤c∧(0<len→off=a.o-L.sh):=by
 simp only[VRel]at h
 obtain⟨L,h1,h2,h3⟩:=h
 cases r with
 | known c=>
  simp only[SliceRel]at h3
  obtain⟨h3,rfl⟩:=h3
  exact⟨L,_,c,h1,h2,rfl,h3,fun _=>rfl⟩
 | open_ s=>
  simp only[SliceRel]at h3
  obtain⟨c,off,rfl,h4,_,h5⟩:=h3
  refine⟨L,off,c,h1,h2,rfl,h4,fun hl=>?_⟩
  rcases h5 with h5 | h5
  ·exact h5.1
  ·omega
theorem idxA_ok{t elem:TypeId}{size:Nat}{agg:Bool}(hu:P.underlying t=some (.slice elem))(T:Ty P elem agg size){x i y:AVal}{v iv:Value}(hx:VRel ρ x v)(hi:VRel ρ i iv)
  (h:aIdxA size x i=some y):∃u,(Instr.indexAt t v iv).run P w=.ok u w∧VRel ρ y u:=by
 unfold aIdxA at h
 split at h
 ·rename_i a len r k n
  cases hb:Nat.blt n len with
  | false=>rw[hb]at h; simp at h
  | true=>
   rw[hb]at h
   simp only[cond_true,sJ]at h
   subst h
   have hn:n<len:=Nat.le_of_ble_eq_true hb
   obtain⟨L,off,c,h1,h2,rfl,h3,h4⟩:=slice_off hx
   have h4:=h4 om
   subst h4
   simp only[VRel]at hi
   subst hi
   refine⟨.pointer (some ⟨L.c,a.o-L.sh+n*size,none⟩),?_,?_⟩
   ·simp[Instr.indexAt,asIntOf,run_underlying hu,T.size,hn,add_none]
   ·simp only[VRel]
    refine⟨L,h1,om,?_⟩
    congr 3
    omega
 ·simp at h
def aIdxArr(n size:Nat)(x i:AVal):Option AVal:=
 match x,i with
 | .ptr (some a),.int _ (.ofNat i)=>bif Nat.blt i n then some (.ptr (some ⟨a.b,a.lim,a.o+i*size⟩)) else none
 | _,_=>none
theorem idxArr_ok{t elem:TypeId}{n size:Nat}{agg:Bool}(hu:P.underlying t=some (.array n elem))(T:Ty P elem agg size){x i y:AVal}{v iv:Value}(hx:VRel ρ x v)(hi:VRel ρ i iv)
  (h:aIdxArr n size x i=some y):∃u,(Instr.indexAt t v iv).run P w=.ok u w∧VRel ρ y u:=by
 unfold aIdxArr at h
 split at h
 ·rename_i a k m
  cases hb:Nat.blt m n with
  | false=>rw[hb]at h; simp at h
  | true=>
   rw[hb]at h
   simp only[cond_true,sJ]at h
   subst h
   have hn:m<n:=Nat.le_of_ble_eq_true hb
   obtain⟨b,rfl,hbb⟩:=ptr_add hx (m*size)
   simp only[VRel]at hi
   subst hi
   refine⟨_,?_,hbb⟩
   simp[Instr.indexAt,asIntOf,run_underlying hu,T.size,hn,Instr.sureAddr]
 ·simp at h
def aPart(agg:Bool)(size off:Nat)(l:List AVal):Option AVal:=
 bif agg then some (.agg ((l.drop off).take size)) else l[off]?
theorem part_ok{t:TypeId}{agg:Bool}{size off:Nat}(T:Ty P t agg size){l:List AVal}{vs:Array Value}(hl:VRels ρ l vs.toList){y:AVal}(h:aPart agg size off l=some y) :
  ∃u,(part t vs off).run P w=.ok u w∧VRel ρ y u:=by
 unfold aPart at h
 cases agg with
 | true=>
  simp only[cond_true,sJ]at h
  subst h
  refine⟨.agg (vs.extract off (off+size)),by simp[part,T.agg,T.size],?_⟩
  simp only[VRel]
  refine⟨_,rfl,?_⟩
  have:=(hl.drop off).take size
  simpa using this
 | false=>
  simp only[cond_false]at h
  obtain⟨u,h1,h2⟩:=hl.nth _ _ h
  refine⟨u,?_,h2⟩
  rw[Array.getElem?_toList]at h1
  simp[part,T.agg,h1]
def aFieldV(agg:Bool)(size off:Nat):AVal→Option AVal
 | .agg l=>aPart agg size off l
 | _=>none
theorem fieldV_ok{s:TypeId}{fields:Array Field}{f:Field}{i n:Nat}(hu:P.underlying s=some (.struct fields))(hf:fields[i]?=some f){agg:Bool}(T:Ty P f.type agg n)
  {x y:AVal} {v:Value} (hx:VRel ρ x v) (h:aFieldV agg n f.offset x=some y):∃u,(Instr.field s v i).run P w=.ok u w∧VRel ρ y u:=by
 unfold aFieldV at h
 split at h
 ·simp only[VRel]at hx
  obtain⟨vs,rfl,hl⟩:=hx
  obtain⟨u,h1,h2⟩:=part_ok (P:=P) (w:=w) T hl h
  exact⟨u,by simp[Instr.field,run_underlying hu,hf,asAgg,h1],h2⟩
 ·simp at h
def aIdx(n size:Nat)(agg:Bool)(x i:AVal):Option AVal:=
 match x,i with
 | .agg l,.int _ (.ofNat i)=>bif Nat.blt i n then aPart agg size (i*size) l else none
 | _,_=>none
theorem idx_ok{t elem:TypeId}{n size:Nat}{agg:Bool}(hu:P.underlying t=some (.array n elem))(T:Ty P elem agg size){x i y:AVal}{v iv:Value}(hx:VRel ρ x v)(hi:VRel ρ i iv)
  (h:aIdx n size agg x i=some y):∃u,(Instr.index t v iv).run P w=.ok u w∧VRel ρ y u:=by
 unfold aIdx at h
 split at h
 ·rename_i l k m
  cases hb:Nat.blt m n with
  | false=>rw[hb]at h; simp at h
  | true=>
   rw[hb]at h
   simp only[cond_true]at h
   have hn:m<n:=Nat.le_of_ble_eq_true hb
   simp only[VRel]at hx hi
   obtain⟨vs,rfl,hl⟩:=hx
   subst hi
   obtain⟨u,h1,h2⟩:=part_ok (P:=P) (w:=w) T hl h
   refine⟨u,?_,h2⟩
   simp[Instr.index,asIntOf,run_underlying hu,T.size,hn,h1]
 ·simp at h
def aIdxS(x i:AVal):Option AVal:=
 match x,i with
 | .str s,.int _ (Int.ofNat i)=>match (s[i]?:Option UInt8) with | some b=>some (.int .u8 b.toNat) | none=>none
 | _,_=>none
theorem idxS_ok{t:TypeId}(hu:P.underlying t=some .string){x i y:AVal}{v iv:Value}(hx:VRel ρ x v)(hi:VRel ρ i iv)
  (h:aIdxS x i=some y):∃u,(Instr.index t v iv).run P w=.ok u w∧VRel ρ y u:=by
 unfold aIdxS at h
 split at h
 ·rename_i s k m
  split at h
  ·rename_i b hb
   simp only[sJ]at h
   subst h
   simp only[VRel]at hx hi
   subst hx hi
   refine⟨_,?_,rfl⟩
   have e:(strOf s)[m]?=some b:=by
    obtain⟨h1,h2⟩:=List.getElem?_eq_some_iff.1 hb
    have h3:m<(strOf s).size:=by simpa[strOf,ByteArray.size] using h1
    rw[getElem?_pos (strOf s) m h3]
    simp only[sJ]
    rw[← h2]
    rfl
   simp[Instr.index,asIntOf,run_underlying hu,e]
  ·simp at h
 ·simp at h
def aExtract(i:Nat):AVal→Option AVal
 | .tuple l=>l[i]?
 | _=>none
theorem extract_ok{i:Nat}{x y:AVal}{v:Value}(hx:VRel ρ x v)(h:aExtract i x=some y):∃u,(Instr.extract v i).run P w=.ok u w∧VRel ρ y u:=by
 unfold aExtract at h
 split at h
 ·simp only[VRel]at hx
  obtain⟨vs,rfl,hl⟩:=hx
  obtain⟨u,h1,h2⟩:=hl.nth _ _ h
  rw[Array.getElem?_toList]at h1
  exact⟨u,by simp[Instr.extract,h1],h2⟩
 ·simp at h
def bd(x:AVal)(y:Nat):Option Nat:=
 match x with
 | .int _ (.ofNat n)=>bif Nat.ble n y then some n else none
 | _=>none
theorem bd_ok{x:AVal}{v:Value}{y n:Nat}(hx:VRel ρ x v)(h:bd x y=some n)(code:BoundsCode):n≤y∧(Instr.sliceBound v y code).run P w=.ok n w:=by
 unfold bd at h
 split at h
 ·rename_i k m
  cases hb:Nat.ble m y with
  | false=>rw[hb]at h; simp at h
  | true=>
   rw[hb]at h
   simp only[cond_true,sJ]at h
   subst h
   have:=Nat.le_of_ble_eq_true hb
   simp only[VRel]at hx
   subst hx
   exact⟨this,by simp[Instr.sliceBound,asIntOf,this]⟩
 ·simp at h
def bdO(x:Option AVal)(y d:Nat):Option Nat:=
 match x with
 | none=>some d
 | some x=>bd x y
def ORelV(ρ:Pl):Option AVal→Option Value→Prop
 | none,v=>v=none
 | some x,v=>∃u,v=some u∧VRel ρ x u
def aBnd(len kc:Nat)(lo hi mx:Option AVal):Option (Nat×Nat×Option Nat):=
 match mx with
 | none=>
  match bdO hi kc len with
  | some h=>match bdO lo h 0 with
   | some l=>some (l,h,none)
   | none=>none
  | none=>none
 | some mx=>
  match hi with
  | none=>none
  | some hi=>
   match bd mx kc with
   | some m=>match bd hi m with
    | some h=>match bdO lo h 0 with
     | some l=>some (l,h,some m)
     | none=>none
    | none=>none
   | none=>none
theorem bd_le{x:AVal}{v:Value}{y n c:Nat}(hx:VRel ρ x v)(h:bd x y=some n)(hc:y≤c)(code:BoundsCode):n≤y∧(Instr.sliceBound v c code).run P w=.ok n w:=by
 have h1:bd x c=some n:=by
  unfold bd at h ⊢
  split at h
  ·rename_i k m
   cases hb:Nat.ble m y with
   | false=>rw[hb]at h; simp at h
   | true=>
    rw[hb]at h
    have:=Nat.le_of_ble_eq_true hb
    rw[show Nat.ble m c=true by rw[Nat.ble_eq]; omega]
    exact h
  ·simp at h
 exact⟨(bd_ok (P:=P) (w:=w) hx h code).1,(bd_ok hx h1 code).2⟩
theorem bnd_ok{isSlice:Bool}{len kc cap:Nat}(hc:kc≤cap){lo hi mx:Option AVal}{lv hv mv:Option Value}(hl:ORelV ρ lo lv)(hh:ORelV ρ hi hv)(hm:ORelV ρ mx mv){l h:Nat}{m:Option Nat}
  (he:aBnd len kc lo hi mx=some (l,h,m)) :
  (Instr.sliceBounds isSlice len cap lv hv mv).run P w=.ok (l,h,m.getD cap) w∧l≤h∧(h≤kc∨h=len)∧(∀q,m=some q→h≤q∧q≤kc):=by
 have hlo:∀h,bdO lo h 0=some l→l≤h∧∀c,(match lv with | some v=>Instr.sliceBound v h c | none=>Pure.pure 0:Sem Nat).run P w=.ok l w:=by
  intro h hb
  cases lo with
  | none=>
   simp only[ORelV]at hl; subst hl
   simp only[bdO,sJ]at hb; subst hb
   exact⟨Nat.zero_le _,fun _=>rfl⟩
  | some q=>
   simp only[ORelV]at hl
   obtain⟨u,rfl,hq⟩:=hl
   exact⟨(bd_ok (P:=P) (w:=w) hq hb .sliceB).1,fun c=>(bd_ok hq hb c).2⟩
 unfold aBnd at he
 cases mx with
 | none=>
  simp only[ORelV]at hm
  subst hm
  simp only at he
  split at he
  ·rename_i h' hb
   split at he
   ·rename_i l' hb'
    simp only[sJ,pJ]at he
    obtain⟨rfl,rfl,rfl⟩:=he
    obtain⟨q1,q2⟩:=hlo _ hb'
    have q2:=q2 .sliceB
    cases hi with
    | none=>
     simp only[ORelV]at hh; subst hh
     simp only[bdO,sJ]at hb; subst hb
     refine⟨?_,q1,.inr rfl,by simp⟩
     cases lv <;> simp_all [Instr.sliceBounds]
    | some hi=>
     simp only[ORelV]at hh
     obtain⟨u,rfl,hq⟩:=hh
     have q3:=bd_le (P:=P) (w:=w) hq hb hc (if isSlice=true then .sliceAcap else .sliceAlen)
     refine⟨?_,q1,.inl q3.1,by simp⟩
     cases lv <;> simp_all [Instr.sliceBounds]
   ·simp at he
  ·simp at he
 | some mx=>
  simp only[ORelV]at hm
  obtain⟨mu,rfl,hmq⟩:=hm
  cases hi with
  | none=>simp at he
  | some hi=>
   simp only[ORelV]at hh
   obtain⟨u,rfl,hq⟩:=hh
   simp only at he
   split at he
   ·rename_i m' hbm
    split at he
    ·rename_i h' hb
     split at he
     ·rename_i l' hb'
      simp only[sJ,pJ]at he
      obtain⟨rfl,rfl,rfl⟩:=he
      obtain⟨q1,q2⟩:=hlo _ hb'
      have q2:=q2 .slice3C
      have q3:=bd_ok (P:=P) (w:=w) hq hb .slice3B
      have q4:=bd_le (P:=P) (w:=w) hmq hbm hc (if isSlice=true then .slice3Acap else .slice3Alen)
      refine⟨?_,q1,.inl om,fun q hq=>by simp only[sJ]at hq; omega⟩
      cases lv <;> simp_all [Instr.sliceBounds]
     ·simp at he
    ·simp at he
   ·simp at he
def aSlStr(x:AVal)(lo hi:Option AVal):Option AVal:=
 match x with
 | .str s=>match aBnd s.length s.length lo hi none with
  | some (l,h,_)=>some (.str ((s.drop l).take (h-l)))
  | none=>none
 | _=>none
theorem str_extract(s:List UInt8)(l h:Nat):(strOf s).extract l h=strOf ((s.drop l).take (h-l)):=by
 have:((strOf s).extract l h).data.toList=(strOf ((s.drop l).take (h-l))).data.toList:=by
  rw[Lib.extract_data]; simp[strOf]
 cases hx:(strOf s).extract l h with | mk d=>
 rw[hx]at this
 unfold strOf at this ⊢
 congr 1
 exact Array.toList_inj.1 (by simpa using this)
theorem slStr_ok{t:TypeId}(hu:P.underlying t=some .string){x y:AVal}{v:Value}{lo hi:Option AVal}{lv hv:Option Value}(hx:VRel ρ x v)(hl:ORelV ρ lo lv)(hh:ORelV ρ hi hv)
  (h:aSlStr x lo hi=some y):∃u,(Instr.slice t v lv hv none).run P w=.ok u w∧VRel ρ y u:=by
 unfold aSlStr at h
 split at h
 ·rename_i s
  split at h
  ·rename_i l hn m hb
   simp only[sJ]at h
   subst h
   simp only[VRel]at hx
   subst hx
   have e2:(strOf s).size=s.length:=by simp[strOf,ByteArray.size]
   obtain⟨q1,_⟩:=bnd_ok (P:=P) (w:=w) (isSlice:=false) (mx:=none) (mv:=none) rL hl hh rfl hb
   refine⟨.string ((strOf s).extract l hn),?_,by simp only[VRel]; rw[str_extract]⟩
   simp[Instr.slice,run_underlying hu,e2,q1]
  ·simp at h
 ·simp at h
def aSl(size:Nat)(x:AVal)(lo hi mx:Option AVal):Option AVal:=
 match x with
 | .slice none len r=>
  match aBnd 0 0 lo hi mx with
  | some _=>some (.slice none len r)
  | none=>none
 | .slice (some a) len (.known c)=>
  match aBnd len c lo hi mx with
  | some (l,h,m)=>bif Nat.beq (m.getD c) l then some (.slice (some a) (h-l) (.known (m.getD c-l))) else some (.slice (some ⟨a.b,a.lim,a.o+l*size⟩) (h-l) (.known (m.getD c-l)))
  | none=>none
 | .slice (some a) len (.open_ sz)=>
  bif Nat.beq sz size then
   match aBnd len ((a.lim-a.o) / size) lo hi mx with
   | some (l,h,none)=>bif Nat.ble (a.o+h*size) a.lim then some (.slice (some ⟨a.b,a.lim,a.o+l*size⟩) (h-l) (.open_ sz)) else none
   | some (l,h,some m)=>bif Nat.beq m 0 then none else bif Nat.beq m l then some (.slice (some a) (h-l) (.known (m-l))) else some (.slice (some ⟨a.b,a.lim,a.o+l*size⟩) (h-l) (.known (m-l)))
   | none=>none
  else none
 | _=>none
theorem sl_ok{t elem:TypeId}{agg:Bool}{size:Nat}(hu:P.underlying t=some (.slice elem))(T:Ty P elem agg size){x y:AVal}{v:Value}{lo hi mx:Option AVal}{lv hv mv:Option Value}
  (hx:VRel ρ x v) (hl:ORelV ρ lo lv) (hh:ORelV ρ hi hv) (hm:ORelV ρ mx mv) (h:aSl size x lo hi mx=some y):∃u,(Instr.slice t v lv hv mv).run P w=.ok u w∧VRel ρ y u:=by
 unfold aSl at h
 split at h
 ·rename_i len r
  split at h
  ·rename_i z hb
   obtain⟨l,hn,m⟩:=z
   simp only[sJ]at h
   subst h
   have hx':=hx
   simp only[VRel]at hx
   obtain⟨rfl,hr,rfl⟩:=hx
   obtain⟨q1,q2,q3,q4⟩:=bnd_ok (P:=P) (w:=w) (isSlice:=true) (Nat.le_refl 0) hl hh hm hb
   refine⟨_,?_,hx'⟩
   have:hn=0:=om
   subst this
   have:l=0:=om
   subst this
   have:m.getD 0=0:=by
    cases m with
    | none=>rfl
    | some q=>have:=(q4 q rfl).2; simp; omega
   rw[this]at q1
   simp[Instr.slice,run_underlying hu,q1,T.size]
  ·simp at h
 ·rename_i a len c
  split at h
  ·rename_i l hn m hb
   simp only[VRel]at hx
   obtain⟨L,h1,h2,h3⟩:=hx
   simp only[SliceRel]at h3
   obtain⟨h3,rfl⟩:=h3
   obtain⟨q1,q2,q3,q4⟩:=bnd_ok (P:=P) (w:=w) (isSlice:=true) (Nat.le_refl c) hl hh hm hb
   have q5:hn≤m.getD c:=by
    cases m with
    | none=>simp; omega
    | some q=>simpa using (q4 q rfl).1
   cases hb:Nat.beq (m.getD c) l with
   | true=>
    rw[hb]at h
    simp only[cond_true,sJ]at h
    subst h
    have:=Nat.eq_of_beq_eq_true hb
    refine⟨.slice (some ⟨L.c,a.o-L.sh,none⟩) (hn-l) (m.getD c-l),?_,?_⟩
    ·simp only[Instr.slice,Sem.run_bind,run_underlying hu,Result.andThen_ok,q1,T.size,this,if_true,Sem.run_pure]
    ·simp only[VRel]
     exact⟨L,h1,h2,om,rfl⟩
   | false=>
    rw[hb]at h
    simp only[cond_false,sJ]at h
    subst h
    have hne:¬m.getD c=l:=fun e=>by rw[e,Nat.beq_refl]at hb; simp at hb
    refine⟨.slice (some ⟨L.c,a.o-L.sh+l*size,none⟩) (hn-l) (m.getD c-l),?_,?_⟩
    ·simp only[Instr.slice,Sem.run_bind,run_underlying hu,Result.andThen_ok,q1,T.size,if_neg hne,Sem.run_pure,Option.map_some,add_none]
    ·simp only[VRel]
     refine⟨L,h1,by first | omega | (simp only; omega),?_⟩
     simp only[SliceRel]
     refine⟨om,?_⟩
     congr 3
     omega
  ·simp at h
 ·rename_i a len sz
  cases hsz:Nat.beq sz size with
  | false=>rw[hsz]at h; simp at h
  | true=>
   rw[hsz]at h
   have:=Nat.eq_of_beq_eq_true hsz
   subst this
   simp only[cond_true]at h
   split at h
   ·rename_i l hn hb
    cases hr:Nat.ble (a.o+hn*sz) a.lim with
    | false=>rw[hr]at h; simp at h
    | true=>
     rw[hr]at h
     simp only[cond_true,sJ]at h
     subst h
     have hr:=Nat.le_of_ble_eq_true hr
     simp only[VRel]at hx
     obtain⟨L,h1,h2,h3⟩:=hx
     simp only[SliceRel]at h3
     obtain⟨c,off,rfl,h4,h5,h6⟩:=h3
     have hkc:(a.lim-a.o) / sz≤c:=by
      rcases h6 with⟨h6,h7,_⟩ | ⟨_,_,h6⟩
      ·subst h6
       rw[Nat.div_le_iff_le_mul_add_pred h5]
       rw[Nat.mul_comm]at h7
       omega
      ·rw[show a.lim-a.o=0 by omega]; simp
     obtain⟨q1,q2,q3,q4⟩:=bnd_ok (P:=P) (w:=w) (isSlice:=true) hkc hl hh hm hb
     simp only[Option.getD_none]at q1
     have hlh:l*sz≤hn*sz:=Nat.mul_le_mul_right _ q2
     by_cases hcl:c=l
     ·subst hcl
      refine⟨.slice (some ⟨L.c,off,none⟩) (hn-c) (c-c),?_,?_⟩
      ·simp only[Instr.slice,Sem.run_bind,run_underlying hu,Result.andThen_ok,q1,T.size,if_true,Sem.run_pure]
      ·simp only[VRel]
       refine⟨L,h1,by first | omega | (simp only; omega),?_⟩
       simp only[SliceRel]
       refine⟨c-c,off,rfl,om,h5,.inr ⟨om,om,?_⟩⟩
       rcases h6 with⟨h6,h7,_⟩ | ⟨_,h7,h6⟩
       ·omega
       ·first | omega | (simp only; omega)
     ·refine⟨.slice (some ⟨L.c,off+l*sz,none⟩) (hn-l) (c-l),?_,?_⟩
      ·simp only[Instr.slice,Sem.run_bind,run_underlying hu,Result.andThen_ok,q1,T.size,if_neg hcl,Sem.run_pure,Option.map_some,add_none]
      ·simp only[VRel]
       refine⟨L,h1,by first | omega | (simp only; omega),?_⟩
       simp only[SliceRel]
       have hlc:l≤c:=om
       have hms:(c-l)*sz+l*sz=c*sz:=by rw[← Nat.add_mul,Nat.sub_add_cancel hlc]
       refine⟨c-l,off+l*sz,rfl,om,h5,.inl ?_⟩
       rcases h6 with⟨h6,h7,h8⟩ | ⟨h6,h7,_⟩
       ·refine⟨om,om,om⟩
       ·omega
   ·rename_i l hn m hb
    cases hm0:Nat.beq m 0 with
    | true=>rw[hm0]at h; simp at h
    | false=>
     rw[hm0]at h
     simp only[cond_false]at h
     have hmpos:m≠0:=fun e=>by rw[e]at hm0; simp at hm0
     simp only[VRel]at hx
     obtain⟨L,h1,h2,h3⟩:=hx
     simp only[SliceRel]at h3
     obtain⟨c,off,rfl,h4,h5,h6⟩:=h3
     have hkc:(a.lim-a.o) / sz≤c:=by
      rcases h6 with⟨h6,h7,_⟩ | ⟨_,_,h6⟩
      ·subst h6
       rw[Nat.div_le_iff_le_mul_add_pred h5]
       rw[Nat.mul_comm]at h7
       omega
      ·rw[show a.lim-a.o=0 by omega]; simp
     obtain⟨q1,q2,q3,q4⟩:=bnd_ok (P:=P) (w:=w) (isSlice:=true) hkc hl hh hm hb
     simp only[Option.getD_some]at q1
     have q5:=q4 m rfl
     have hoff:off=a.o-L.sh:=by
      rcases h6 with⟨h6,_⟩ | ⟨_,h7,_⟩
      ·exact h6
      ·omega
     subst hoff
     cases hbl:Nat.beq m l with
     | true=>
      rw[hbl]at h
      simp only[cond_true,sJ]at h
      subst h
      have:=Nat.eq_of_beq_eq_true hbl
      refine⟨.slice (some ⟨L.c,a.o-L.sh,none⟩) (hn-l) (m-l),?_,?_⟩
      ·simp only[Instr.slice,Sem.run_bind,run_underlying hu,Result.andThen_ok,q1,T.size,this,if_true,Sem.run_pure]
      ·simp only[VRel]
       exact⟨L,h1,h2,om,rfl⟩
     | false=>
      rw[hbl]at h
      simp only[cond_false,sJ]at h
      subst h
      have hne:¬m=l:=fun e=>by rw[e,Nat.beq_refl]at hbl; simp at hbl
      refine⟨.slice (some ⟨L.c,a.o-L.sh+l*sz,none⟩) (hn-l) (m-l),?_,?_⟩
      ·simp only[Instr.slice,Sem.run_bind,run_underlying hu,Result.andThen_ok,q1,T.size,if_neg hne,Sem.run_pure,Option.map_some,add_none]
      ·simp only[VRel]
       refine⟨L,h1,by first | omega | (simp only; omega),?_⟩
       simp only[SliceRel]
       refine⟨om,?_⟩
       congr 3
       omega
   ·simp at h
 ·simp at h
end
end Go.Abs
namespace Go.Abs
section
variable {P:Program} {Prot:Gh} {w0:World} {ρ:Pl} {H H':AHeap} {w:World}
structure Elem(P:Program)(t:TypeId)(size bytes:Nat):Prop where
 ex:∃i z,P.info? t=some i∧i.size=size∧i.bytes=bytes∧i.zero=some z∧z.cells.size=size
def elemOf(P:Program)(t:TypeId):Option (Nat×Nat):=
 match P.info? t with
 | some i=>match i.zero with
  | some z=>bif Nat.beq z.cells.size i.size then some (i.size,i.bytes) else none
  | none=>none
 | none=>none
theorem elem_of{t:TypeId}{n b:Nat}(h:elemOf P t=some (n,b)):Elem P t n b:=by
 unfold elemOf at h
 split at h
 ·rename_i i hi
  split at h
  ·rename_i z hz
   cases hb:Nat.beq z.cells.size i.size with
   | false=>rw[hb]at h; simp at h
   | true=>
    rw[hb]at h
    simp only[cond_true,sJ,pJ]at h
    obtain⟨rfl,rfl⟩:=h
    exact⟨i,z,hi,rfl,rfl,hz,Nat.eq_of_beq_eq_true hb⟩
  ·simp at h
 ·simp at h
def aSrc(size:Nat)(H:AHeap):AVal→Option (Nat×List AVal)
 | .slice none _ _=>some (0,[])
 | .slice (some a) n _=>match rdCells H a (n*size) with | some xs=>some (n,xs) | none=>none
 | .str s=>some (s.length,s.map fun b=>.int .u8 b.toNat)
 | .val (.slice (some _) 0 0)=>some (0,[])
 | _=>none
theorem bytes_rel(s:List UInt8):VRels ρ (s.map fun b=>.int .u8 b.toNat) (s.map fun b=>.int .u8 b.toNat):=by
 induction s with
 | nil=>simp[VRels]
 | cons b s ih=>simp only[List.map_cons,VRels]; exact⟨_,_,rfl,rfl,ih⟩
theorem src_ok(R:Rel Prot w0 ρ H w){size:Nat}{x:AVal}{v:Value}(hx:VRel ρ x v){n:Nat}{xs:List AVal}(h:aSrc size H x=some (n,xs)) :
  ∃vs:Array Value,(Builtin.lenOf v).run P w=.ok n w∧(Builtin.firstCells size n v).run P w=.ok vs w∧VRels ρ xs vs.toList:=by
 unfold aSrc at h
 split at h
 ·simp only[sJ,pJ]at h
  obtain⟨rfl,rfl⟩:=h
  simp only[VRel]at hx
  obtain⟨_,_,rfl⟩:=hx
  exact⟨#[],rfl,rfl,by simp[VRels]⟩
 ·rename_i a m r
  split at h
  ·rename_i ys hy
   simp only[sJ,pJ]at h
   obtain⟨rfl,rfl⟩:=h
   obtain⟨L,off,c,h1,h2,rfl,h3,h4⟩:=slice_off hx
   by_cases hm:m*size=0
   ·obtain⟨vs,q1,q2,q3⟩:=rd_run (P:=P) R hy h1 h2
    refine⟨#[],rfl,?_,?_⟩
    ·simp only[Builtin.firstCells,loadCells,hm]; rfl
    ·rw[hm]at q3
     have:vs=#[]:=by simpa using q3
     rw[this]at q2; exact q2
   ·have hm0:0<m:=Nat.pos_of_ne_zero (fun e=>hm (by simp[e]))
    have:=h4 hm0
    subst this
    obtain⟨vs,q1,q2,q3⟩:=rd_run (P:=P) R hy h1 h2
    exact⟨vs,rfl,q1,q2⟩
  ·simp at h
 ·rename_i s
  simp only[sJ,pJ]at h
  obtain⟨rfl,rfl⟩:=h
  simp only[VRel]at hx
  subst hx
  have e2:(strOf s).size=s.length:=by simp[strOf,ByteArray.size]
  refine⟨(s.toArray.map fun b=>.int .u8 b.toNat),by simp[Builtin.lenOf,e2],?_,?_⟩
  ·have:(strOf s).extract 0 s.length=strOf s:=by rw[str_extract]; simp
   simp only[Builtin.firstCells,this,Sem.run_pure]
   rfl
  ·simpa using bytes_rel (ρ:=ρ) s
 ·simp only[sJ,pJ]at h
  obtain⟨rfl,rfl⟩:=h
  simp only[VRel]at hx
  obtain⟨rfl,_⟩:=hx
  refine⟨#[],rfl,?_,by simp[VRels]⟩
  simp only[Builtin.firstCells,loadCells,Nat.zero_mul]; rfl
 ·simp at h
def aAppend(size bytes:Nat)(H:AHeap)(s x:AVal):Option (AVal×AHeap):=
 match aSrc size H x with
 | none=>none
 | some (n,xs)=>
  bif Nat.beq n 0 then (match s with | .slice a l r=>some (.slice a l r,H) | _=>none)
  else match s with
  | .slice so len room=>
   bif Nat.blt 0 size&&(Nat.ble ((2*(len+n)+0)*bytes) 281474976710656&&(Nat.ble (len+n) 9223372036854775807&&(Nat.beq xs.length (n*size)&&xs.all AVal.one))) then
    match so,room with
    | none,_=>some (.slice (some ⟨H.next,xs.length,0⟩) n (.open_ size),H.push (.cells xs 0 false))
    | some a,.known c=>
     bif Nat.ble (len+n) c then
      match wrCells H ⟨a.b,a.lim,a.o+len*size⟩ xs with
      | some H'=>some (.slice (some a) (len+n) (.known c),H')
      | none=>none
     else match rdCells H a (len*size) with
      | some old=>some (.slice (some ⟨H.next,(old++xs).length,0⟩) (len+n) (.open_ size),H.push (.cells (old++xs) 0 false))
      | none=>none
    | some a,.open_ sz=>
     bif Nat.beq sz size then
      bif Nat.ble (a.o+(len+n)*size) a.lim then
       match wrCells H ⟨a.b,a.lim,a.o+len*size⟩ xs with
       | some H'=>some (.slice (some a) (len+n) (.open_ sz),H')
       | none=>none
      else match growCells H a (a.o+len*size) xs with
       | some H'=>some (.slice (some ⟨a.b,a.o+len*size+xs.length,a.o⟩) (len+n) (.open_ sz),H')
       | none=>none
     else none
   else none
  | _=>none
theorem nextcap_le{need cap:Nat}(h:cap<need):Builtin.nextslicecap need cap≤2*need+0:=by
 have grow:∀r c,c≤2*need→(256≤need)→Builtin.growBy need r c≤2*need:=by
  intro r
  induction r with
  | zero=>intro c hc _; exact hc
  | succ r ih=>
   intro c hc h2
   simp only[Builtin.growBy]
   split
   ·exact hc
   ·exact ih _ om h2
 unfold Builtin.nextslicecap
 split
 ·omega
 ·split
  ·omega
  ·exact grow _ _ om om
theorem zeroCells_size(z:Array Value)(n:Nat):(Builtin.zeroCells z n).size=n*z.size:=by simp[Builtin.zeroCells]
def Tail(P:Program)(t:TypeId):Prop:=(∃e,P.underlying t=some (.slice e))∨P.underlying t=some .string
theorem append_room{sT xT elem t:TypeId}{size:Nat}{agg:Bool}(hu:P.underlying sT=some (.slice elem))(T:Ty P elem agg size)
  (hxT:Tail P xT) {base:Option Addr} {sLen sCap n:Nat} {xv:Value} {vs:Array Value}
  (hl:(Builtin.lenOf xv).run P w=.ok n w) (hc:(Builtin.firstCells size n xv).run P w=.ok vs w) (hroom:sLen+n≤sCap) :
  (Builtin.append_ #[sT,xT] t #[.slice base sLen sCap,xv]).run P w =
   ((match base with | some a=>storeCells (a.add (sLen*size)) vs.toList | none=>Pure.pure ():Sem Unit).run P w).andThen fun _ w'=>.ok (.slice base (sLen+n) sCap) w':=by
 rcases hxT with⟨e,hxT⟩ | hxT <;> cases base <;>
  (simp only [Builtin.append_, List.getElem?_toArray, List.getElem?_cons_zero, List.getElem?_cons_succ, Sem.run_bind, run_underlying hu, Result.andThen_ok, T.size, run_underlying hxT, Sem.run_pure]
   simp [hl, hc, hroom])
theorem append_move{sT xT elem t:TypeId}{size bytes:Nat}{agg:Bool}(hu:P.underlying sT=some (.slice elem))(T:Ty P elem agg size)(E:Elem P elem size bytes)
  (hxT:Tail P xT) {base:Option Addr} {sLen sCap n:Nat} {xv:Value} {olds news:Array Value}
  (hl:(Builtin.lenOf xv).run P w=.ok n w) (ho:(Builtin.firstCells size sLen (.slice base sLen sCap)).run P w.drew=.ok olds w.drew)
  (hc:(Builtin.firstCells size n xv).run P w.drew=.ok news w.drew) (hm:sCap<sLen+n)
  (hb:(2*(sLen+n)+0)*bytes≤281474976710656) (hn:sLen+n≤9223372036854775807) (hos:olds.size+news.size=(sLen+n)*size) :
  ∃cap C,sLen+n≤cap∧C.size=cap*size∧(∀i,i<(sLen+n)*size→C[i]?=(olds.toList++news.toList)[i]?) ∧
  (Builtin.append_ #[sT,xT] t #[.slice base sLen sCap,xv]).run P w=.ok (.slice (some ⟨w.heap.size,0,none⟩) (sLen+n) cap) (w.drew.alloc (.cells C elem)):=by
 obtain⟨i,z,hi,rfl,rfl,hzero,hzs⟩:=E.ex
 have h1:=nextcap_le hm
 have h2:Builtin.nextslicecap (sLen+n) sCap*i.bytes≤281474976710656:=Nat.le_trans (Nat.mul_le_mul_right _ h1) hb
 have h2':¬281474976710656<Builtin.nextslicecap (sLen+n) sCap*i.bytes:=om
 have hroom:¬sLen+n≤sCap:=om
 have hzv:∀W,(zeroValue elem).run P W=.ok z W:=fun W=>by simp[zeroValue,run_typeInfo W hi,hzero]
 have hti:∀W,(typeInfo elem).run P W=.ok i W:=fun W=>run_typeInfo W hi
 obtain⟨cap,hcap⟩:∃cap,(Question.appendCap (sLen+n) sCap elem).cut (w.tape w.drawn (.appendCap (sLen+n) sCap elem))=cap:=⟨_,rfl⟩
 have hle:sLen+n≤cap:=by rw[← hcap]; simp only[Question.cut]; omega
 refine⟨cap,olds++news++Builtin.zeroCells z.cells (cap-(sLen+n)),hle,?_,?_,?_⟩
 ·simp only[Array.size_append,zeroCells_size,hzs,hos]
  rw[← Nat.add_mul,Nat.add_sub_cancel' hle]
 ·intro j hj
  rw[Array.getElem?_append_left (by simp; omega),← Array.getElem?_toList,Array.toList_append]
 ·rcases hxT with⟨e,hxT⟩ | hxT <;>
  (simp only [Builtin.append_, List.getElem?_toArray, List.getElem?_cons_zero, List.getElem?_cons_succ, Sem.run_bind, run_underlying hu, Result.andThen_ok, T.size, run_underlying hxT, Sem.run_pure]
   simp [hl, hc, hroom, h2', hti, Question.forced, hcap, ho, hzv, newRow]
   intro hh; omega)
theorem append_ok(R:Rel Prot w0 ρ H w){sT xT elem t:TypeId}{size bytes:Nat}{agg:Bool}(hu:P.underlying sT=some (.slice elem))(T:Ty P elem agg size)(E:Elem P elem size bytes)
  (hxT:Tail P xT) {s x y:AVal} {sv xv:Value} (hs:VRel ρ s sv) (hx:VRel ρ x xv) (h:aAppend size bytes H s x=some (y,H')) :
  GoodV P Prot w0 ρ w (Builtin.append_ #[sT,xT] t #[sv,xv]) y H':=by
 unfold aAppend at h
 split at h
 ·simp at h
 ·rename_i n xs hsrc
  obtain⟨vs,hlen,hcells,hrel⟩:=src_ok (P:=P) R hx hsrc
  obtain⟨vs2,hlen2,hcells2,hrel2⟩:=src_ok (P:=P) R.drew hx hsrc
  have hvl:=VRels.len hrel
  have hvl2:=VRels.len hrel2
  simp only[Array.length_toList]at hvl hvl2
  cases hn:Nat.beq n 0 with
  | true=>
   rw[hn]at h
   simp only[cond_true]at h
   have hn:=Nat.eq_of_beq_eq_true hn
   subst hn
   split at h
   ·rename_i a l r
    simp only[sJ,pJ]at h
    obtain⟨rfl,rfl⟩:=h
    have key:∃base c,sv=.slice base l c∧l≤c∧∀a,base=some a→a.spot=none:=by
     cases a with
     | none=>simp only[VRel]at hs; obtain⟨rfl,_,rfl⟩:=hs; exact⟨none,0,rfl,Nat.le_refl _,by simp⟩
     | some a=>obtain⟨L,off,c,_,_,rfl,h3,_⟩:=slice_off hs; exact⟨_,c,rfl,h3,by simp⟩
    obtain⟨base,c,rfl,hlc,_⟩:=key
    have hxs:xs=[]:=by
     cases x with
     | slice so sl sr=>
      cases so with
      | none=>simp only[aSrc,sJ,pJ]at hsrc; exact hsrc.2.symm
      | some so=>
       simp only[aSrc]at hsrc
       split at hsrc
       ·rename_i ys hys
        simp only[sJ,pJ]at hsrc
        obtain⟨rfl,rfl⟩:=hsrc
        obtain⟨_,_,_,_,_,_,_,_,rfl⟩:=rd_spec hys
        simp
       ·simp at hsrc
     | str st=>
      simp only[aSrc,sJ,pJ]at hsrc
      obtain⟨h1,rfl⟩:=hsrc
      have:st=[]:=List.eq_nil_of_length_eq_zero h1
      simp[this]
     | val v=>
      unfold aSrc at hsrc
      split at hsrc <;> simp_all
     | _=>simp[aSrc]at hsrc
    have hv0:vs.toList=[]:=by
     rw[hxs]at hvl
     have:vs=#[]:=by simpa using hvl.symm
     simp[this]
    refine GoodV.pure R ?_ hs
    rw[append_room hu T hxT hlen hcells om,hv0]
    cases base <;> rfl
   ·simp at h
  | false=>
   rw[hn]at h
   have hn:n≠0:=fun e=>by rw[e]at hn; simp at hn
   simp only[cond_false]at h
   split at h
   ·rename_i so len room
    cases hg:(Nat.blt 0 size&&(Nat.ble ((2*(len+n)+0)*bytes) 281474976710656&&(Nat.ble (len+n) 9223372036854775807&&(Nat.beq xs.length (n*size)&&xs.all AVal.one)))) with
    | false=>rw[hg]at h; simp at h
    | true=>
     rw[hg]at h
     simp only[Bool.and_eq_true,Nat.ble_eq,List.all_eq_true]at hg
     obtain⟨g1,g2,g3,g4,g5⟩:=hg
     have g1:0<size:=Nat.le_of_ble_eq_true g1
     have g4:=Nat.eq_of_beq_eq_true g4
     simp only[cond_true]at h
     split at h
     ·-- nil
      simp only[sJ,pJ]at h
      obtain⟨rfl,rfl⟩:=h
      simp only[VRel]at hs
      obtain⟨rfl,_,rfl⟩:=hs
      obtain⟨cap,C,c1,c2,c3,c4⟩:=append_move (P:=P) (w:=w) (t:=t) hu T E hxT (base:=none) (sLen:=0) (sCap:=0) hlen (olds:=#[]) rfl hcells2 om g2 g3 (by simp; omega)
      have hsub:xs.length≤C.size:=by rw[c2,g4]; exact Nat.mul_le_mul_right _ om
      obtain⟨ρ',L,r1,r2,r3,r4⟩:=new_run (C:=C) (e:=elem) R.drew hrel2 (fun i hi=>by rw[c3 i (by rw[g4]at hi; simpa using hi)]; simp)
      subst r3
      refine⟨ρ',_,_,r1,c4,r4,?_⟩
      simp only[VRel]
      refine⟨_,r2,Nat.zero_le _,?_⟩
      simp only[SliceRel]
      refine⟨cap,0,?_,om,g1,.inl ⟨by simp,by simp; omega,by simp; omega⟩⟩
      simp
     ·-- known room
      rename_i a c
      have hs':=hs
      simp only[VRel]at hs
      obtain⟨L,l1,l2,l3⟩:=hs
      simp only[SliceRel]at l3
      obtain⟨l3,rfl⟩:=l3
      cases hc:Nat.ble (len+n) c with
      | true=>
       rw[hc]at h
       simp only[cond_true]at h
       have hc:=Nat.le_of_ble_eq_true hc
       split at h
       ·rename_i H1 hw
        simp only[sJ,pJ]at h
        obtain⟨rfl,rfl⟩:=h
        obtain⟨w',q1,q2⟩:=wr_run (P:=P) R hw (L:=L) l1 (by simp only; omega) hrel
        refine⟨ρ,w',.slice (some ⟨L.c,a.o-L.sh,none⟩) (len+n) c,Pl.le_refl _,?_,q2,?_⟩
        ·rw[append_room hu T hxT hlen hcells hc]
         simp only[add_none]
         rw[show a.o-L.sh+len*size=a.o+len*size-L.sh by omega]
         simp only[q1,Result.andThen_ok]
        ·simp only[VRel]
         exact⟨L,l1,l2,hc,rfl⟩
       ·simp at h
      | false=>
       rw[hc]at h
       simp only[cond_false]at h
       have hc:¬len+n≤c:=fun e=>by rw[Nat.ble_eq_true_of_le e]at hc; simp at hc
       split at h
       ·rename_i old hold
        simp only[sJ,pJ]at h
        obtain⟨rfl,rfl⟩:=h
        obtain⟨ovs,o1,o2,o3⟩:=rd_run (P:=P) R.drew hold l1 l2
        have hol:=VRels.len o2
        simp only[Array.length_toList]at hol
        obtain⟨cap,C,c1,c2,c3,c4⟩:=append_move (P:=P) (w:=w) (t:=t) hu T E hxT (base:=some ⟨L.c,a.o-L.sh,none⟩) (sLen:=len) (sCap:=c) hlen (olds:=ovs) o1 hcells2 om g2 g3 (by rw[o3,Nat.add_mul]; omega)
        have hal:(old++xs).length=(len+n)*size:=by rw[lA,hol,o3,g4,Nat.add_mul]
        obtain⟨ρ',L',r1,r2,r3,r4⟩:=new_run (C:=C) (e:=elem) R.drew (VRels.append o2 hrel2) (fun i hi=>c3 i (by rw[hal]at hi; exact hi))
        subst r3
        refine⟨ρ',_,_,r1,c4,r4,?_⟩
        simp only[VRel]
        refine⟨_,r2,Nat.zero_le _,?_⟩
        simp only[SliceRel]
        have:(len+n)*size≤cap*size:=Nat.mul_le_mul_right _ c1
        exact⟨cap,0,rfl,om,g1,.inl ⟨by simp,by rw[hal]; omega,by rw[c2]; omega⟩⟩
       ·simp at h
     ·-- open room
      rename_i a sz
      cases hsz:Nat.beq sz size with
      | false=>rw[hsz]at h; simp at h
      | true=>
       rw[hsz]at h
       have:=Nat.eq_of_beq_eq_true hsz
       subst this
       simp only[cond_true]at h
       simp only[VRel]at hs
       obtain⟨L,l1,l2,l3⟩:=hs
       simp only[SliceRel]at l3
       obtain⟨c,off,rfl,l4,l5,l6⟩:=l3
       have hmul:(len+n)*sz=len*sz+n*sz:=Nat.add_mul _ _ _
       have hnsz:0<n*sz:=Nat.mul_pos (Nat.pos_of_ne_zero hn) g1
       cases hr:Nat.ble (a.o+(len+n)*sz) a.lim with
       | true=>
        rw[hr]at h
        simp only[cond_true]at h
        have hr:=Nat.le_of_ble_eq_true hr
        obtain⟨rfl,k2,k3⟩:off=a.o-L.sh∧a.lim≤off+L.sh+c*sz∧off+c*sz≤L.n:=by
         rcases l6 with l6 | l6
         ·exact l6
         ·omega
        have hroom:len+n≤c:=Nat.le_of_mul_le_mul_right (by omega:(len+n)*sz≤c*sz) g1
        split at h
        ·rename_i H1 hw
         simp only[sJ,pJ]at h
         obtain⟨rfl,rfl⟩:=h
         obtain⟨w',q1,q2⟩:=wr_run (P:=P) R hw (L:=L) l1 (by simp only; omega) hrel
         refine⟨ρ,w',.slice (some ⟨L.c,a.o-L.sh,none⟩) (len+n) c,Pl.le_refl _,?_,q2,?_⟩
         ·rw[append_room hu T hxT hlen hcells hroom]
          simp only[add_none]
          rw[show a.o-L.sh+len*sz=a.o+len*sz-L.sh by omega]
          simp only[q1,Result.andThen_ok]
         ·simp only[VRel]
          exact⟨L,l1,l2,c,_,rfl,hroom,l5,.inl ⟨rfl,k2,k3⟩⟩
        ·simp at h
       | false=>
        rw[hr]at h
        simp only[cond_false]at h
        split at h
        ·rename_i H1 hg
         simp only[sJ,pJ]at h
         obtain⟨rfl,rfl⟩:=h
         obtain⟨l,low,mk,e1,e2,e3,e4,e5,e6,e7,_⟩:=grow_spec hg
         obtain⟨x0,o0,f1,f2,f3⟩:=R.obj _ _ _ l1
         rw[e1]at f1
         obtain rfl:=(sJ _ _).mp f1
         simp only[ORel]at f3
         obtain⟨C,e,lo,hi,rfl,f4,f5,f6,f7⟩:=f3
         have f7:=f7 e2
         by_cases hroom:len+n≤c
         ·-- in place
          obtain⟨rfl,k2,k3⟩:off=a.o-L.sh∧a.lim≤off+L.sh+c*sz∧off+c*sz≤L.n:=by
           rcases l6 with l6 | l6
           ·exact l6
           ·omega
          have hcs:(len+n)*sz≤c*sz:=Nat.mul_le_mul_right _ hroom
          obtain⟨w',C',s1,s2,s3,s4,s5⟩:=storeCells_run (P:=P) (off:=a.o-L.sh+len*sz) vs.toList 0 w C f2 (by simp; omega) (f5 trivial).1 (one_of hrel g5)
          simp only[Array.length_toList]at s5
          obtain⟨r1,r2⟩:=R.grown hg l1 (w':=w') (N:=L) s2.os s2.tape s2.output (Nat.le_of_eq s2.size.symm) (fun i _ hi=>s2.rest i hi) (.inl ⟨rfl,rfl⟩)
           ⟨C',e,lo,hi,s3,s4.trans f4,fun l' low' mk' e1'=>by
            rw[e1]at e1'
            simp only[sJ,AObj.cells.injEq,true_and]at e1'
            obtain⟨rfl,rfl,rfl⟩:=e1'
            refine⟨by rw[s4]; exact (f5 trivial),?_⟩
            intro i i1 i2
            by_cases hin:i<a.o+len*sz
            ·obtain⟨z,u,z1,z2,z3⟩:=f7 i i1 om
             refine⟨z,u,?_,?_,z3⟩
             ·rw[List.getElem?_append_left (by simp; omega),List.getElem?_take,if_pos hin]
              exact z1
             ·have q:=s5 (i-L.sh)
              have hno:¬(a.o-L.sh+len*sz+0≤i-L.sh∧i-L.sh<a.o-L.sh+len*sz+0+vs.size):=om
              rw[if_neg hno]at q
              rw[q]; exact z2
            ·have hx1:xs[i-(a.o+len*sz)]?=some xs[i-(a.o+len*sz)]:=List.getElem?_eq_getElem om
             obtain⟨u,u1,u2⟩:=hrel.nth _ _ hx1
             refine⟨_,u,?_,?_,u2⟩
             ·rw[List.getElem?_append_right (by simp; omega),← hx1]
              congr 1
              simp
              omega
             ·have q:=s5 (i-L.sh)
              have hyes:a.o-L.sh+len*sz+0≤i-L.sh∧i-L.sh<a.o-L.sh+len*sz+0+vs.size:=om
              rw[if_pos hyes]at q
              rw[q,show i-L.sh-(a.o-L.sh+len*sz+0)=i-(a.o+len*sz) by omega]
              exact u1⟩
           ⟨C,C',e,lo,hi,f2,s3,s4,fun j hj=>by
            have q:=s5 j
            have hno:¬(a.o-L.sh+len*sz+0≤j∧j<a.o-L.sh+len*sz+0+vs.size):=om
            rw[if_neg hno]at q
            exact q⟩
          refine⟨_,w',.slice (some ⟨L.c,a.o-L.sh,none⟩) (len+n) c,r1,?_,r2,?_⟩
          ·rw[append_room hu T hxT hlen hcells hroom]
           simp only[add_none]
           simp only[s1,Result.andThen_ok]
          ·simp only[VRel]
           refine⟨L,upd_same _ _ _ _,l2,c,_,rfl,hroom,l5,.inl ⟨rfl,?_,k3⟩⟩
           simp only
           omega
         ·-- moved
          obtain⟨ovs,o1,o2,o3⟩:∃ovs:Array Value,(Builtin.firstCells sz len (.slice (some ⟨L.c,off,none⟩) len c)).run P w.drew=.ok ovs w.drew∧VRels ρ ((l.drop a.o).take (len*sz)) ovs.toList∧ovs.size=len*sz:=by
           by_cases hl0:len=0
           ·subst hl0
            exact⟨#[],by simp[Builtin.firstCells,loadCells,loadCellsFrom],by simp[VRels],by simp⟩
           ·rcases l6 with⟨rfl,_,_⟩ | l6
            ·have hrd:rdCells H a (len*sz)=some ((l.drop a.o).take (len*sz)):=by
              unfold rdCells
              rw[e1]
              simp only
              rw[show (Nat.ble low a.lim&&(Nat.ble a.lim l.length&&Nat.ble (a.o+len*sz) a.lim))=true by simp only[Bool.and_eq_true,Nat.ble_eq]; omega]
              rfl
             exact rd_run (P:=P) R.drew hrd l1 l2
            ·omega
          obtain⟨cap,C2,c1,c2,c3,c4⟩:=append_move (P:=P) (w:=w) (t:=t) hu T E hxT (base:=some ⟨L.c,off,none⟩) (sLen:=len) (sCap:=c) hlen (olds:=ovs) o1 hcells2 om g2 g3 (by rw[o3,hmul]; omega)
          have hcap:(len+n)*sz≤cap*sz:=Nat.mul_le_mul_right _ c1
          have hall:=VRels.append o2 hrel2
          have holen:((l.drop a.o).take (len*sz)).length=len*sz:=by simp; omega
          obtain⟨r1,r2⟩:=R.drew.grown hg l1 (w':=w.drew.alloc (.cells C2 elem)) (N:=⟨w.heap.size,a.o,C2.size,true⟩) rfl rfl rfl (by simp) (fun i hi _=>RowKit.Below.heap_alloc _ _ _ hi) (.inr ⟨Nat.le_refl _,by simp⟩)
           ⟨C2,elem,0,0,by show (w.heap.push _)[w.heap.size]?=_; simp,rfl,fun l' low' mk' e1'=>by
            rw[e1]at e1'
            simp only[sJ,AObj.cells.injEq,true_and]at e1'
            obtain⟨rfl,rfl,rfl⟩:=e1'
            refine⟨⟨fun i _=>om,Nat.le_refl _,fun _=>om⟩,?_⟩
            intro i i1 i2
            simp only at i1
            obtain⟨z,hx1⟩:∃z,((l.drop a.o).take (len*sz)++xs)[i-a.o]?=some z:=⟨_,List.getElem?_eq_getElem (by rw[lA,holen]; omega)⟩
            obtain⟨u,u1,u2⟩:=hall.nth _ _ hx1
            refine⟨_,u,?_,?_,u2⟩
            ·rw[← hx1]
             by_cases hin:i<a.o+len*sz
             ·rw[List.getElem?_append_left (by simp; omega),List.getElem?_append_left (by rw[holen]; omega),List.getElem?_take,if_pos hin,List.getElem?_take,if_pos om,List.getElem?_drop]
              congr 1
              omega
             ·rw[List.getElem?_append_right (by simp; omega),List.getElem?_append_right (by rw[holen]; omega),holen]
              congr 1
              simp
              omega
            ·show C2[i-a.o]?=some u
             rw[c3 (i-a.o) om]
             exact u1⟩
           ⟨C,C,e,lo,hi,f2,by rw[RowKit.Below.heap_alloc w.drew _ _ (R.dom _ _ _ l1).2]; exact f2,rfl,fun _ _=>rfl⟩
          refine⟨_,_,_,r1,c4,r2,?_⟩
          simp only[VRel]
          refine⟨_,upd_same _ _ _ _,Nat.le_refl _,?_⟩
          simp only[SliceRel]
          refine⟨cap,0,?_,om,l5,.inl ⟨by simp,by first | omega | (simp only; omega),by first | omega | (simp only[c2]; omega)⟩⟩
          rfl
        ·simp at h
   ·simp at h
end
end Go.Abs
