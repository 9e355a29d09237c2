/- Part of a proof (A9 A10 D1 D2 D3 D3b); no condition. -/
import Derived.Orders
import Derived.Test.YtacaginbdjepcaaGreatDoorP2
set_option linter.unusedSimpArgs false
set_option linter.unusedVariables false
set_option linter.unnecessarySimpa false
namespace Go.Abs
def bO:Nat:=1024
inductive bb where
 | t (i:Nat)
 | c (v:af)
 | f (id:FuncId)
inductive gT where
 | mv (x:bb)
 | pick (c a b:bb)
 | new (zero:List af)
 | box (x:bb)
 | build (zero:List af) (parts:List (Nat×Nat×bb))
 | buildSl (len:Nat) (zero:List af) (parts:List (Nat×Nat×bb))
 | load (agg:Bool) (size:Nat) (x:bb)
 | store (size:Nat) (a x:bb)
 | nilChk (x:bb)
 | bin (op:BinOp) (x y:bb)
 | un (op:UnOp) (x:bb)
 | conv (k:IntKind) (x:bb)
 | convSB (x:bb)
 | convBS (x:bb)
 | mkFunc (fn:Fn) (first captured:List bb)
 | mkIface (t:TypeId) (x:bb)
 | mkSlice (bytes:Nat) (zero:List af) (l c:bb)
 | sl (size:Nat) (x:bb) (lo hi mx:Option bb)
 | slStr (x:bb) (lo hi:Option bb)
 | fieldA (off:Nat) (x:bb)
 | field (agg:Bool) (size off:Nat) (x:bb)
 | idxA (size:Nat) (x i:bb)
 | idxArr (n size:Nat) (x i:bb)
 | idx (n size:Nat) (agg:Bool) (x i:bb)
 | idxS (x i:bb)
 | extract (i:Nat) (x:bb)
 | append (size bytes:Nat) (s x:bb)
 | len (str:Bool) (x:bb)
 | call (f:FuncId) (args:List bb)
 | callv (f:bb) (args:List bb)
 | pf (f:PF) (xs:List bb)
 | hf (f:HF) (xs:List bb)
 | bad
 | claim (b:Nat) (zero:List af) (s:Option (Nat×Nat))
 | slA (n size:Nat) (x:bb) (lo hi mx:Option bb)
inductive Nx where
 | val (v:af)
 | enter (f:FuncId) (args:List af)
def aN:af:=.tuple []
def ev(T:Tr af):bb->af
 | .t i=>match T.get i with
  | some v=>v
  | none=>aN
 | .c v=>v
 | .f id=>.func (.func id) [] []
def eX(T:Tr af):List bb->List af
 | []=>[]
 | x::r=>ev T x::eX T r
def xg(T:Tr af):Option bb->Option af
 | none=>none
 | some x=>some (ev T x)
def yw(T:Tr af):List (Nat×Nat×bb)->List (Nat×Nat×af)
 | []=>[]
 | (o,n,x)::r=>(o,n,ev T x)::yw T r
def vv(H:ae):Option af->Option (Nx×ae)
 | some v=>some (.val v,H)
 | none=>none
def vh:Option (af×ae)->Option (Nx×ae)
 | some (v,H)=>some (.val v,H)
 | none=>none
def ck:af->Option af
 | .ptr none=>none
 | .nilIface=>none
 | .nilFunc=>none
 | .func (.method _) _ _=>none
 | .val _=>none
 | x=>some x
def gd(str:Bool):af->Option af
 | .str s=>bif str then some (.int .i64 s.length) else none
 | .slice _ n _=>bif str then none else some (.int .i64 n)
 | .val (.slice _ n _)=>bif str then none else some (.int .i64 n)
 | _=>none
def bG(tb:FuncId->Bool)(T:Tr af)(H:ae):gT->Option (Nx×ae)
 | .mv x=>some (.val (ev T x),H)
 | .pick c a b=>match ev T c with
  | .bool b'=>some (.val (bif b' then ev T a else ev T b),H)
  | _=>none
 | .new z=>vh (some (eR H z))
 | .box x=>vh (some (eR H (ev T x).cells))
 | .build z ps=>vv H (cj z (yw T ps))
 | .buildSl n z ps=>vh (cf n z H (yw T ps))
 | .load a n x=>vv H (bi a n H (ev T x))
 | .store n a x=>match bD n H (ev T a) (ev T x) with
  | some H'=>some (.val aN,H')
  | none=>none
 | .nilChk x=>vv H (ck (ev T x))
 | .bin op x y=>vv H (cq op (ev T x) (ev T y))
 | .un op x=>vv H (DV op (ev T x))
 | .conv k x=>vv H (oM k (ev T x))
 | .convSB x=>vh (Mk H (ev T x))
 | .convBS x=>vv H (DL H (ev T x))
 | .mkFunc fn a b=>some (.val (.func fn (eX T a) (eX T b)),H)
 | .mkIface t x=>some (.val (.iface t (ev T x)),H)
 | .mkSlice b z l c=>vh (gO b z H (ev T l) (ev T c))
 | .sl n x lo hi mx=>vv H (Hk n (ev T x) (xg T lo) (xg T hi) (xg T mx))
 | .slStr x lo hi=>vv H (fh (ev T x) (xg T lo) (xg T hi))
 | .fieldA o x=>vv H (gQ o (ev T x))
 | .field a n o x=>vv H (kT a n o (ev T x))
 | .idxA n x i=>vv H (gP n (ev T x) (ev T i))
 | .idxArr m n x i=>vv H (iy m n (ev T x) (ev T i))
 | .idx m n a x i=>vv H (DK m n a (ev T x) (ev T i))
 | .idxS x i=>vv H (jg (ev T x) (ev T i))
 | .extract i x=>vv H (dE i (ev T x))
 | .append n b s x=>vh (bE n b H (ev T s) (ev T x))
 | .len s x=>vv H (gd s (ev T x))
 | .call f args=>bif tb f then some (.enter f (eX T args),H) else none
 | .callv f args=>match ev T f with
  | .func (.func f) a b=>bif Nat.blt f bO&&tb f then some (.enter f (a++eX T args++b),H) else none
  | _=>none
 | .pf f xs=>vv H (iu f (eX T xs))
 | .hf f xs=>vh (mY f H (eX T xs))
 | .bad=>none
 | .claim b z s=>vv H (rf H b z s)
 | .slA m n x lo hi mx=>vv H (iG m n (ev T x) (xg T lo) (xg T hi) (xg T mx))
section
variable (P:Program)
def bI:Operand->Option bb
 | .tmp t=>some (.t t)
 | .const v=>match Ji v with
  | some x=>some (.c x)
  | none=>none
 | .global _=>none
 | .func f=>some (.f f)
def de:List Operand->Option (List bb)
 | []=>some []
 | x::r=>match bI x,de r with
  | some y,some l=>some (y::l)
  | _,_=>none
def kX:Option Operand->Option (Option bb)
 | none=>some none
 | some x=>match bI x with
  | some y=>some (some y)
  | none=>none
def ki(place:Nat->Option (Nat×Nat)):List (Nat×Operand)->Option (List (Nat×Nat×bb))
 | []=>some []
 | (i,x)::r=>match place i,bI x,ki place r with
  | some (o,n),some y,some l=>some ((o,n,y)::l)
  | _,_,_=>none
def bc(f:FuncId):Bool:=
 Nat.blt f bO&&match P.funcs[f]? with
 | some fn => fn.body.isSome && !(fn.name == "runtime.NumGoroutine")
 | none=>false
def lD(t:TypeId):Bool:=
 match P.underlying t with
 | some (.slice _)=>true
 | some .string=>true
 | _=>false
def ja(c:Call):Option gT:=
 match c.callee with
 | .value (.func f)=>bif Nat.blt f bO then match de c.args.toList with
   | some l=>some (.call f l)
   | none=>none
  else none
 | .value x=>match bI x,de c.args.toList with
  | some y,some l=>some (.callv y l)
  | _,_=>none
 | .builtin .append=>match c.argTypes.toList,de c.args.toList with
  | [sT,xT],some [s,x]=>match P.underlying sT with
   | some (.slice e)=>match ez P e,nO P e with
    | some (_,n),some (n',b)=>bif Nat.beq n n'&&lD P xT then some (.append n b s x) else none
    | _,_=>none
   | _=>none
  | _,_=>none
 | .builtin .len=>match c.argTypes.toList,de c.args.toList with
  | [T],some [x]=>match P.underlying T with
   | some (.slice _)=>some (.len false x)
   | some .string=>some (.len true x)
   | _=>none
  | _,_=>none
 | _=>none
def xJ(o:Op):Option gT:=
 match o with
 | .move x=>match bI x with | some y=>some (.mv y) | none=>none
 | .assign x=>match bI x with | some y=>some (.mv y) | none=>none
 | .pick c a b=>match bI c,bI a,bI b with | some c,some a,some b=>some (.pick c a b) | _,_,_=>none
 | .alloc e=>match cB P e with | some z=>some (.new z) | none=>none
 | .box _ x=>match bI x with | some y=>some (.box y) | none=>none
 | .build t ps=>match P.underlying t,cB P t with
  | some (.struct fs),some z=>match iS P fs.toList with
   | some pl=>match ki (fun i=>pl[i]?) ps.toList with
    | some l=>some (.build z l)
    | none=>none
   | none=>none
  | some (.array _ e),some z=>match ez P e with
   | some (_,n)=>match ki (fun i=>some (i*n,n)) ps.toList with
    | some l=>some (.build z l)
    | none=>none
   | none=>none
  | _,_=>none
 | .buildSlice t len ps=>match P.underlying t with
  | some (.slice e)=>match ez P e,cB P e with
   | some (_,n),some z=>match ki (fun i=>some (i*n,n)) ps.toList with
    | some l=>bif Nat.beq z.length n&&Nat.ble (len*n) 16777216 then some (.buildSl len z l) else none
    | none=>none
   | _,_=>none
  | _=>none
 | .load t a=>match ez P t,bI a with | some (g,n),some y=>some (.load g n y) | _,_=>none
 | .store t a x=>match ez P t,bI a,bI x with | some (_,n),some a,some y=>some (.store n a y) | _,_,_=>none
 | .nilCheck x=>match bI x with | some y=>some (.nilChk y) | none=>none
 | .binOp op _ x y _=>match bI x,bI y with | some a,some b=>some (.bin op a b) | _,_=>none
 | .unOp op _ x=>match bI x with | some y=>some (.un op y) | none=>none
 | .convert s d x=>match bI x with
  | some y=>match P.underlying s,P.underlying d with
   | some _,some (.int k)=>some (.conv k y)
   | some .string,some (.slice e)=>match P.underlying e with
    | some (.int .u8)=>some (.convSB y)
    | _=>none
   | some (.slice e),some .string=>match P.underlying e with
    | some (.int .u8)=>some (.convBS y)
    | _=>none
   | _,_=>none
  | none=>none
 | .makeInterface t x=>match bI x,P.underlying t with
  | some _,some (.interface _)=>none
  | some y,some _=>some (.mkIface t y)
  | _,_=>none
 | .makeFunc fn a b=>match de a.toList,de b.toList with | some a,some b=>some (.mkFunc fn a b) | _,_=>none
 | .makeSlice t l c=>match P.underlying t with
  | some (.slice e)=>match nO P e,cB P e,bI l,bI c with
   | some (_,b),some z,some l,some c=>some (.mkSlice b z l c)
   | _,_,_,_=>none
  | _=>none
 | .slice t x lo hi mx=>match P.underlying t,bI x,kX lo,kX hi,kX mx with
  | some .string,some x,some lo,some hi,some none=>some (.slStr x lo hi)
  | some (.slice e),some x,some lo,some hi,some mx=>match ez P e with
   | some (_,n)=>some (.sl n x lo hi mx)
   | none=>none
  | _,_,_,_,_=>none
 | .fieldAddr s x i=>match P.underlying s,bI x with
  | some (.struct fs),some y=>match fs[i]? with
   | some f=>match ez P f.type with
    | some (_,n)=>bif Nat.beq n 0 then none else some (.fieldA f.offset y)
    | none=>none
   | none=>none
  | _,_=>none
 | .field s x i=>match P.underlying s,bI x with
  | some (.struct fs),some y=>match fs[i]? with
   | some f=>match ez P f.type with
    | some (g,n)=>some (.field g n f.offset y)
    | none=>none
   | none=>none
  | _,_=>none
 | .indexAddr t x i=>match P.underlying t,bI x,bI i with
  | some (.slice e),some x,some i=>match ez P e with
   | some (_,n)=>some (.idxA n x i)
   | none=>none
  | some (.array m e),some x,some i=>match ez P e with
   | some (_,n)=>some (.idxArr m n x i)
   | none=>none
  | _,_,_=>none
 | .index t x i=>match P.underlying t,bI x,bI i with
  | some .string,some x,some i=>some (.idxS x i)
  | some (.array m e),some x,some i=>match ez P e with
   | some (g,n)=>some (.idx m n g x i)
   | none=>none
  | _,_,_=>none
 | .extract x i=>match bI x with | some y=>some (.extract i y) | none=>none
 | .call c=>ja P c
 | _=>none
def nS(o:Op):Option gT:=
 match o with
 | .binOp .eql t x y _=>match bI x,bI y with
  | some a,some b=>match oI P t x y with
   | some k=>some (.pf (.eqv false k) [a,b])
   | none=>match uV P t with
    | some fs=>some (.pf (.eqS false fs) [a,b])
    | none=>none
  | _,_=>none
 | .binOp .neq t x y _=>match bI x,bI y with
  | some a,some b=>match oI P t x y with
   | some k=>some (.pf (.eqv true k) [a,b])
   | none=>match uV P t with
    | some fs=>some (.pf (.eqS true fs) [a,b])
    | none=>none
  | _,_=>none
 | .range t x=>match P.underlying t,bI x with
  | some .string,some y=>some (.hf .strRange [y])
  | _,_=>none
 | .next x true=>match bI x with
  | some y=>some (.hf .strNext [y])
  | none=>none
 | .slice t x lo hi mx=>match P.underlying t,bI x,kX lo,kX hi,kX mx with
  | some (.array m e),some x,some lo,some hi,some mx=>match ez P e with
   | some (_,n)=>some (.slA m n x lo hi mx)
   | none=>none
  | _,_,_,_,_=>none
 | .convert s d x=>bif Nat.beq s d then (match P.underlying s,bI x with
  | some (.slice e),some y=>match P.underlying e with
   | some (.int .u8)=>some (.hf .mark [y])
   | _=>none
  | _,_=>none) else none
 | .call c=>match c.callee with
  | .builtin .max=>match de c.args.toList with
   | some l=>some (.pf (.mm true) l)
   | none=>none
  | .builtin .clear=>match c.argTypes.toList,de c.args.toList with
   | [t],some [x]=>match P.underlying t with
    | some (.slice e)=>match cB P e with
     | some z=>some (.hf (.clr z) [x])
     | none=>none
    | _=>none
   | _,_=>none
  | .builtin .copy=>match c.argTypes.toList,de c.args.toList with
   | [t,_],some [s,x]=>match P.underlying t with
    | some (.slice e)=>match ez P e with
     | some (_,n)=>some (.hf (.cpy n) [s,x])
     | none=>none
    | _=>none
   | _,_=>none
  | .builtin .min=>match de c.args.toList with
   | some l=>some (.pf (.mm false) l)
   | none=>none
  | .value (.func f)=>bif Bu P f then match de c.args.toList with
    | some l=>some (.pf .ibs l)
    | none=>none
   else bif Bv P f then match de c.args.toList with
    | some l=>some (.pf .cbs l)
    | none=>none
   else none
  | _=>none
 | .indexAddr t (.global g) i=>match P.underlying t,bI i with
  | some (.array m e),some i=>match ez P e with
   | some (_,n)=>some (.hf (.gIdx g m n) [i])
   | none=>none
  | _,_=>none
 | .load t (.global g)=>match ez P t with
  | some (a,n)=>some (.hf (.gLd g a n) [])
  | none=>none
 | .fieldAddr s (.global g) i=>match P.underlying s with
  | some (.struct fs)=>match fs[i]? with
   | some f=>match ez P f.type with
    | some (_,n)=>bif Nat.beq n 0 then none else some (.hf (.gFld g f.offset) [])
    | none=>none
   | none=>none
  | _=>none
 | .sliceToArrayPointer t x=>match P.underlying t,bI x with
  | some (.array n _),some y=>some (.pf (.s2a n) [y])
  | _,_=>none
 | .makeMap _ none=>some (.hf .mkMap [])
 | .lookup t m k ok=>match P.underlying t,bI m,bI k with
  | some (.map kt el),some m,some k=>match qe P kt,pw P el with
   | some kc,some z=>some (.hf (.mLook kc ok z) [m,k])
   | _,_=>none
  | _,_,_=>none
 | .mapEntry t m k=>match P.underlying t,bI m,bI k with
  | some (.map kt el),some m,some k=>match qe P kt,pw P el with
   | some kc,some z=>some (.hf (.mf (.entry kc z)) [m,k])
   | _,_=>none
  | _,_,_=>none
 | .entryStore _ m n x=>match bI m,bI n,bI x with
  | some m,some n,some x=>some (.hf (.mf .store) [m,n,x])
  | _,_,_=>none
 | .mapUpdate t m k x=>match P.underlying t,bI m,bI k,bI x with
  | some (.map kt _),some m,some k,some x=>match qe P kt with
   | some kc=>some (.hf (.mf (.upd kc)) [m,k,x])
   | none=>none
  | _,_,_,_=>none
 | .insert t m k x=>match P.underlying t,bI m,bI k,bI x with
  | some (.map kt _),some m,some k,some x=>match qe P kt with
   | some kc=>some (.hf (.mf (.upd kc)) [m,k,x])
   | none=>none
  | _,_,_,_=>none
 | .typeAssert x _ t ok=>match P.underlying t,pw P t,bI x with
  | some (.interface _),_,_=>none
  | some _,some z,some y=>some (.pf (.tAss t ok z) [y])
  | _,_,_=>none
 | _=>none
def tM(o:Op):Option gT:=
 match nS P o with
 | some a=>some a
 | none=>match xJ P o with
  | some a=>some a
  | none=>some .bad
end
section
variable {P:Program} {Prot:Gh} {w0:World} {ρ:Pl} {H H':ae} {w:World}
structure aJ(ρ:Pl)(n:Nat)(T:Tr af)(tmps:Array Value):Prop where
 size:tmps.size=n
 at_:∀t,ag ρ (ev T (.t t)) (tmps.getD t undef)
theorem aJ.mono{ρ ρ':Pl}{n:Nat}{T:Tr af}{tmps:Array Value}(h:ρ.le ρ')(t:aJ ρ n T tmps):aJ ρ' n T tmps:=⟨t.size,fun i=>ag.mono h _ _ (t.at_ i)⟩
theorem aC{n:Nat}{T:Tr af}{a:Act}(h:aJ ρ n T a.tmps){x:Operand}{y:bb}(hc:bI x=some y):ag ρ (ev T y) (a.eval x):=by
 cases x with
 | tmp t=>simp only[bI,sJ]at hc; subst hc; exact h.at_ t
 | const v=>
  simp only[bI]at hc
  split at hc
  ·rename_i x hx
   simp only[sJ]at hc
   subst hc
   exact Co hx
  ·simp at hc
 | global g=>simp[bI]at hc
 | func f=>
  simp only[bI,sJ]at hc
  subst hc
  simp only[ev,Act.eval,ag]
  exact⟨#[],#[],rfl,by simp[ah],by simp[ah]⟩
theorem fK{n:Nat}{T:Tr af}{a:Act}(h:aJ ρ n T a.tmps):∀{l:List Operand} {m:List bb},de l=some m->ah ρ (eX T m) (l.map a.eval):=by
 intro l
 induction l with
 | nil=>intro m hc; simp only[de,sJ]at hc; subst hc; simp[eX,ah]
 | cons x r ih=>
  intro m hc
  simp only[de]at hc
  split at hc
  ·rename_i y l' h1 h2
   simp only[sJ]at hc
   subst hc
   simp only[eX,List.map_cons,ah]
   exact⟨_,_,rfl,aC h h1,ih h2⟩
  ·simp at hc
theorem ic{n:Nat}{T:Tr af}{a:Act}(h:aJ ρ n T a.tmps){x:Option Operand}{y:Option bb}(hc:kX x=some y):fi ρ (xg T y) (x.map a.eval):=by
 cases x with
 | none=>simp only[kX,sJ]at hc; subst hc; rfl
 | some x=>
  simp only[kX]at hc
  split at hc
  ·rename_i z hz
   simp only[sJ]at hc
   subst hc
   exact⟨_,rfl,aC h hz⟩
  ·simp at hc
theorem mq{n:Nat}{T:Tr af}{a:Act}(h:aJ ρ n T a.tmps){place:Nat->Option (Nat×Nat)}:∀{l:List (Nat×Operand)} {m:List (Nat×Nat×bb)},ki place l=some m ->
  dV ρ place (yw T m) (l.map fun p=>(p.1,a.eval p.2)):=by
 intro l
 induction l with
 | nil=>intro m hc; simp only[ki,sJ]at hc; subst hc; simp[yw,dV]
 | cons x r ih=>
  intro m hc
  obtain⟨i,x⟩:=x
  simp only[ki]at hc
  split at hc
  ·rename_i o k y l' h1 h2 h3
   simp only[sJ]at hc
   subst hc
   simp only[yw,List.map_cons,dV]
   exact⟨_,_,_,rfl,h1,aC h h2,ih h3⟩
  ·simp at hc
def iz(P:Program)(ρ:Pl):Nx->Next->Prop
 | .val x,.value v=>ag ρ x v
 | .val x,.skip=>ag ρ x undef
 | .enter f l,.enter g vs=>g=f/\Nat.blt f bO=true/\ah ρ l vs.toList
 | _,_=>False
def ba(P:Program)(Prot:Gh)(w0:World)(ρ:Pl)(w:World)(s:Sem Next)(nx:Nx)(H':ae):Prop:=
 ∃ρ' w' n,ρ.le ρ'/\s.run P w=.ok n w'/\Rel Prot w0 ρ' H' w'/\iz P ρ' nx n
theorem ba.val(R:Rel Prot w0 ρ H w){x:af}{s:Sem Value}(h:∃u,s.run P w=.ok u w/\ag ρ x u):ba P Prot w0 ρ w (do pure (.value (<- s))) (.val x) H:=by
 obtain⟨u,h1,h2⟩:=h
 exact⟨ρ,w,.value u,Pl.le_refl _,by simp only[Sem.run_bind,h1,Result.andThen_ok]; rfl,R,h2⟩
theorem ba.good{x:af}{s:Sem Value}(h:dF P Prot w0 ρ w s x H'):ba P Prot w0 ρ w (do pure (.value (<- s))) (.val x) H':=by
 obtain⟨ρ',w',u,h1,h2,h3,h4⟩:=h
 exact⟨ρ',w',.value u,h1,by simp only[Sem.run_bind,h2,Result.andThen_ok]; rfl,h3,h4⟩
theorem bB{x:Option af}{nx:Nx}(h:vv H x=some (nx,H')):∃y,x=some y/\nx=.val y/\H'=H:=by
 unfold vv at h
 split at h
 ·simp only[sJ,pJ]at h; exact⟨_,rfl,h.1.symm,h.2.symm⟩
 ·simp at h
theorem cx{x:Option (af×ae)}{nx:Nx}(h:vh x=some (nx,H')):∃y,x=some (y,H')/\nx=.val y:=by
 unfold vh at h
 split at h
 ·simp only[sJ,pJ]at h; obtain⟨rfl,rfl⟩:=h; exact⟨_,rfl,rfl⟩
 ·simp at h
theorem CP(R:Rel Prot w0 ρ H w){x y:af}{v:Value}(hx:ag ρ x v)(h:ck x=some y)(o:Oper){q:Operand}(ev':Operand->Value)(hv:ev' q=v) :
  ba P Prot w0 ρ w (execOp ev' { o with op:=.nilCheck q }) (.val y) H:=by
 have hy:y=x/\(∀b,execOp ev' { o with op:=.nilCheck q }=pure (.value v)∨b=true):=by
  cases x with
  | val a=>simp[ck]at h
  | ptr a=>
   cases a with
   | none=>simp[ck]at h
   | some a=>
    simp only[ck,sJ]at h
    simp only[ag]at hx
    obtain⟨L,_,_,rfl⟩:=hx
    exact⟨h.symm,fun _=>.inl (by simp[execOp,hv])⟩
  | nilIface=>simp[ck]at h
  | nilFunc=>simp[ck]at h
  | func fn a b=>
   cases fn <;> simp only[ck,sJ,reduceCtorEq]at h
   all_goals
    simp only[ag]at hx
    obtain⟨f,c,rfl,_⟩:=hx
    exact⟨h.symm,fun _=>.inl (by simp[execOp,hv])⟩
  | slice a n r=>
   simp only[ck,sJ]at h
   have:∃b m c,v=.slice b m c:=by
    cases a with
    | none=>simp only[ag]at hx; exact⟨_,_,_,hx.2.2⟩
    | some a=>obtain⟨_,_,_,_,_,h3,_⟩:=ci hx; exact⟨_,_,_,h3⟩
   obtain⟨b,m,c,rfl⟩:=this
   exact⟨h.symm,fun _=>.inl (by simp[execOp,hv])⟩
  | map a=>
   simp only[ck,sJ]at h
   cases a with
   | none=>simp only[ag]at hx; subst hx; exact⟨h.symm,fun _=>.inl (by simp[execOp,hv])⟩
   | some a=>simp only[ag]at hx; obtain⟨L,_,rfl⟩:=hx; exact⟨h.symm,fun _=>.inl (by simp[execOp,hv])⟩
  | bool b=>simp only[ck,sJ]at h; simp only[ag]at hx; subst hx; exact⟨h.symm,fun _=>.inl (by simp[execOp,hv])⟩
  | int b c=>simp only[ck,sJ]at h; simp only[ag]at hx; subst hx; exact⟨h.symm,fun _=>.inl (by simp[execOp,hv])⟩
  | str b=>simp only[ck,sJ]at h; simp only[ag]at hx; subst hx; exact⟨h.symm,fun _=>.inl (by simp[execOp,hv])⟩
  | iface t b=>simp only[ck,sJ]at h; simp only[ag]at hx; obtain⟨_,rfl,_⟩:=hx; exact⟨h.symm,fun _=>.inl (by simp[execOp,hv])⟩
  | agg l=>simp only[ck,sJ]at h; simp only[ag]at hx; obtain⟨_,rfl,_⟩:=hx; exact⟨h.symm,fun _=>.inl (by simp[execOp,hv])⟩
  | tuple l=>simp only[ck,sJ]at h; simp only[ag]at hx; obtain⟨_,rfl,_⟩:=hx; exact⟨h.symm,fun _=>.inl (by simp[execOp,hv])⟩
 obtain⟨rfl,h2⟩:=hy
 rcases h2 false with h2 | h2
 ·exact⟨ρ,w,.value v,Pl.le_refl _,by rw[h2]; rfl,R,hx⟩
 ·simp at h2
end
end Go.Abs
namespace Go.Abs
section
variable {P:Program} {Prot:Gh} {w0:World} {ρ:Pl} {H H':ae} {w:World}
theorem Aa{op:BinOp}{t:TypeId}{x y:Operand}{u v:Value}{p q r:af}(hx:ag ρ p u)(hy:ag ρ q v)(h:cq op p q=some r):(eqGuard op t x y u v).run P w=.ok () w:=by
 unfold cq at h
 split at h
 ·simp only[ag]at hx hy
  subst hx hy
  cases op <;> rfl
 ·simp only[ag]at hx hy
  subst hx hy
  cases op <;> rfl
 ·simp at h
theorem DF{b:Bool}{v:Value}(h:ag ρ (.bool b) v):(asBool v).run P w=.ok b w:=by
 simp only[ag]at h; subst h; rfl
theorem eL{f:FuncId}(h:bc P f=true)(args:Array Value):(callFunc f args).run P w=.ok (.enter f args) w:=by
 unfold bc at h
 rw[Pu]at h
 replace h:=h.2
 split at h
 ·rename_i fn hf
  simp only[Pu,Bool.not_eq_true']at h
  have h1:fn.body.isNone=false:=by
   cases hb:fn.body with
   | none=>rw[hb]at h; simp at h
   | some b=>rfl
  simp only[callFunc,Sem.run_bind,run_program,Result.andThen_ok,hf,h.2,PD,if_false,h1]
  rfl
 ·simp at h
theorem HW{t:TypeId}(h:lD P t=true):Hq P t:=by
 unfold lD at h
 split at h
 ·rename_i e he; exact .inl ⟨e,he⟩
 ·rename_i he; exact .inr he
 ·simp at h
theorem AG{α:Type}{x y:α}{arr:Array α}(h:arr.toList=[x,y]):arr=#[x,y]:=Array.toList_inj.1 (by simpa using h)
theorem wB{x y:bb}{l:List Operand}(h:de l=some [x,y]):∃p q,l=[p,q]/\bI p=some x/\bI q=some y:=by
 cases l with
 | nil=>simp[de]at h
 | cons p l=>
  cases l with
  | nil=>
   simp only[de]at h
   split at h
   ·rename_i a b h1 h2
    simp only[sJ,List.cons.injEq]at h h2
    rw[<- h2]at h
    simp at h
   ·simp at h
  | cons q l=>
   cases l with
   | nil=>
    simp only[de]at h
    split at h
    ·rename_i a b h1 h2
     split at h2
     ·rename_i c d h3 h4
      simp only[sJ]at h4 h2
      subst h4
      subst h2
      simp only[sJ,List.cons.injEq,and_true]at h
      obtain⟨rfl,rfl⟩:=h
      exact⟨p,q,rfl,h1,h3⟩
     ·simp at h2
    ·simp at h
   | cons r l=>
    simp only[de]at h
    split at h
    ·rename_i a b h1 h2
     split at h2
     ·rename_i c d h3 h4
      split at h4
      ·rename_i e f h5 h6
       simp only[sJ]at h4 h2
       subst h4
       subst h2
       simp at h
      ·simp at h4
     ·simp at h2
    ·simp at h
theorem wC{x:bb}{l:List Operand}(h:de l=some [x]):∃p,l=[p]/\bI p=some x:=by
 cases l with
 | nil=>simp[de]at h
 | cons p l=>
  cases l with
  | nil=>
   simp only[de]at h
   split at h
   ·rename_i a b h1 h2
    simp only[sJ,List.cons.injEq]at h h2
    subst h2
    obtain⟨rfl,_⟩:=h
    exact⟨p,rfl,h1⟩
   ·simp at h
  | cons q l=>
   simp only[de]at h
   split at h
   ·rename_i a b h1 h2
    split at h2
    ·rename_i c d h3 h4
     simp only[sJ]at h2
     subst h2
     simp at h
    ·simp at h2
   ·simp at h
theorem GH{tb:FuncId->Bool}(htb:∀f,Nat.blt f bO=true->tb f=true->bc P f=true)(R:Rel Prot w0 ρ H w){n:Nat}{T:Tr af}{a:Act}(ht:aJ ρ n T a.tmps)(o:Oper)(c:Call){ao:gT}(hc:ja P c=some ao)
  {nx:Nx} (h:bG tb T H ao=some (nx,H')):ba P Prot w0 ρ w (execOp a.eval { o with op:=.call c }) nx H':=by
 obtain⟨callee,args,argTypes⟩:=c
 unfold ja at hc
 split at hc
 ·-- a function
  rename_i f heq
  simp only at heq
  subst heq
  cases hbig:Nat.blt f bO with
  | false=>rw[hbig]at hc; simp at hc
  | true=>
  rw[hbig]at hc
  simp only[cond_true]at hc
  split at hc
  ·rename_i l hl
   simp only[sJ]at hc
   subst hc
   simp only[bG]at h
   cases hb:tb f with
   | false=>rw[hb]at h; simp at h
   | true=>
    rw[hb]at h
    simp only[cond_true,sJ,pJ]at h
    obtain⟨rfl,rfl⟩:=h
    refine⟨ρ,w,.enter f (args.map a.eval),Pl.le_refl _,?_,R,rfl,hbig,?_⟩
    ·have:=eL (P:=P) (w:=w) (htb f hbig hb) (args.map a.eval)
     simp[execOp,resolve,Act.eval,Deferred.ofValue,invoke,this]
    ·simpa using fK ht hl
  ·simp at hc
 ·rename_i x _ heq
  simp only at heq
  subst heq
  split at hc
  ·rename_i y l hy hl
   simp only[sJ]at hc
   subst hc
   simp only[bG]at h
   split at h
   ·rename_i f fs cs hev
    cases hb':(Nat.blt f bO&&tb f) with
    | false=>rw[hb']at h; simp at h
    | true=>
     rw[hb']at h
     simp only[Pu]at hb'
     obtain⟨hbig,hb⟩:=hb'
     simp only[cond_true,sJ,pJ]at h
     obtain⟨rfl,rfl⟩:=h
     have hv:=aC ht hy
     rw[hev]at hv
     simp only[ag]at hv
     obtain⟨fv,cv,hfv,h1,h2⟩:=hv
     refine⟨ρ,w,.enter f (fv++args.map a.eval++cv),Pl.le_refl _,?_,R,rfl,hbig,?_⟩
     ·have:=eL (P:=P) (w:=w) (htb f hbig hb) (fv++args.map a.eval++cv)
      simp only[Array.append_assoc]at this
      simp[execOp,resolve,hfv,Deferred.ofValue,invoke,this]
     ·simpa using ah.append (ah.append h1 (fK ht hl)) h2
   ·simp at h
  ·simp at hc
 ·-- append
  rename_i heq
  simp only at heq
  subst heq
  split at hc
  ·rename_i sT xT s x hT hO
   simp only at hT hO
   obtain⟨p,q,hpq,hp,hq⟩:=wB hO
   have ha:=AG hT
   have hb:=AG hpq
   subst ha hb
   split at hc
   ·rename_i e he
    split at hc
    ·rename_i g m m' b h1 h2
     cases hg:(Nat.beq m m'&&lD P xT) with
     | false=>rw[hg]at hc; simp at hc
     | true=>
      rw[hg]at hc
      simp only[Pu]at hg
      simp only[cond_true,sJ]at hc
      subst hc
      have:=Py hg.1
      subst this
      simp only[bG]at h
      obtain⟨y,hy,rfl⟩:=cx h
      have:=ba.good (DG (P:=P) (t:=o.type) R he (cQ h1) (uY h2) (HW hg.2) (aC ht hp) (aC ht hq) hy)
      simpa[execOp,resolve,invoke,builtin] using this
    ·simp at hc
   ·simp at hc
  ·simp at hc
 ·-- len
  rename_i heq
  simp only at heq
  subst heq
  split at hc
  ·rename_i T1 x hT hO
   simp only at hT hO
   obtain⟨p,hpq,hp⟩:=wC hO
   have ha:argTypes=#[T1]:=Array.toList_inj.1 (by simpa using hT)
   have hb:args=#[p]:=Array.toList_inj.1 (by simpa using hpq)
   subst ha hb
   split at hc
   ·rename_i e he
    simp only[sJ]at hc
    subst hc
    simp only[bG]at h
    obtain⟨y,hy,rfl,rfl⟩:=bB h
    have hx:=aC ht hp
    unfold gd at hy
    split at hy
    ·simp at hy
    ·rename_i a1 n1 r1 hev
     simp only[cond_false,sJ]at hy
     have:=ba.val R (zF (P:=P) (w:=w) (t:=o.type) (.inl ⟨e,he⟩) hx (by rw[hev]; simp only[Ax,sJ]; exact hy) (.inr (.inl ⟨a1,n1,r1,e,hev,he⟩)))
     simpa[execOp,resolve,invoke,builtin] using this
    ·rename_i a1 n1 c1 hev
     simp only[cond_false,sJ]at hy
     have:=ba.val R (zF (P:=P) (w:=w) (t:=o.type) (.inl ⟨e,he⟩) hx (by rw[hev]; simp only[Ax,sJ]; exact hy) (.inr (.inr ⟨a1,n1,c1,e,hev,he⟩)))
     simpa[execOp,resolve,invoke,builtin] using this
    ·simp at hy
   ·rename_i he
    simp only[sJ]at hc
    subst hc
    simp only[bG]at h
    obtain⟨y,hy,rfl,rfl⟩:=bB h
    have hx:=aC ht hp
    unfold gd at hy
    split at hy
    ·rename_i s1 hev
     simp only[cond_true,sJ]at hy
     have:=ba.val R (zF (P:=P) (w:=w) (t:=o.type) (.inr he) hx (by rw[hev]; simp only[Ax,sJ]; exact hy) (.inl ⟨s1,hev,he⟩))
     simpa[execOp,resolve,invoke,builtin] using this
    ·simp at hy
    ·simp at hy
    ·simp at hy
   ·simp at hc
  ·simp at hc
 ·simp at hc
theorem Iq{tb:FuncId->Bool}(htb:∀f,Nat.blt f bO=true->tb f=true->bc P f=true)(R:Rel Prot w0 ρ H w){n:Nat}{T:Tr af}{a:Act}(ht:aJ ρ n T a.tmps)(o:Oper){ao:gT}(hc:xJ P o.op=some ao)
  {nx:Nx} (h:bG tb T H ao=some (nx,H')):ba P Prot w0 ρ w (execOp a.eval o) nx H':=by
 obtain⟨dst,op,type,pos,after,guard⟩:=o
 simp only at hc
 cases op <;> simp only[xJ,reduceCtorEq]at hc
 case move x=>
  split at hc
  ·rename_i y hy
   simp only[sJ]at hc; subst hc
   simp only[bG,sJ,pJ]at h
   obtain⟨rfl,rfl⟩:=h
   exact⟨ρ,w,_,Pl.le_refl _,rfl,R,aC ht hy⟩
  ·simp at hc
 case assign x=>
  split at hc
  ·rename_i y hy
   simp only[sJ]at hc; subst hc
   simp only[bG,sJ,pJ]at h
   obtain⟨rfl,rfl⟩:=h
   exact⟨ρ,w,_,Pl.le_refl _,rfl,R,aC ht hy⟩
  ·simp at hc
 case pick c x y=>
  split at hc
  ·rename_i c' x' y' h1 h2 h3
   simp only[sJ]at hc; subst hc
   simp only[bG]at h
   split at h
   ·rename_i b hb
    simp only[sJ,pJ]at h
    obtain⟨rfl,rfl⟩:=h
    have hcv:=aC ht h1
    rw[hb]at hcv
    refine⟨ρ,w,.value (if b then a.eval x else a.eval y),Pl.le_refl _,?_,R,?_⟩
    ·simp only[execOp,Sem.run_bind,DF hcv,Result.andThen_ok]; rfl
    ·cases b
     ·exact aC ht h3
     ·exact aC ht h2
   ·simp at h
  ·simp at hc
 case alloc e=>
  split at hc
  ·rename_i z hz
   simp only[sJ]at hc; subst hc
   simp only[bG]at h
   obtain⟨y,hy,rfl⟩:=cx h
   simp only[sJ]at hy
   have:=ba.good (He (P:=P) R hz)
   rw[hy]at this
   exact this
  ·simp at hc
 case box e x=>
  split at hc
  ·rename_i y hy
   simp only[sJ]at hc; subst hc
   simp only[bG]at h
   obtain⟨z,hz,rfl⟩:=cx h
   simp only[sJ]at hz
   have:=ba.good (KO (P:=P) R e (aC ht hy))
   rw[hz]at this
   exact this
  ·simp at hc
 case build t ps=>
  split at hc
  ·rename_i fs z hu hz
   split at hc
   ·rename_i pl hpl
    split at hc
    ·rename_i l hl
     simp only[sJ]at hc; subst hc
     simp only[bG]at h
     obtain⟨y,hy,rfl,rfl⟩:=bB h
     have:=ba.val R (xL (P:=P) (w:=w) (qs:=ps.map fun p=>(p.1,a.eval p.2)) hu hpl hz (by simpa using mq ht hl) hy)
     simpa[execOp] using this
    ·simp at hc
   ·simp at hc
  ·rename_i m e z hu hz
   split at hc
   ·rename_i g k hk
    split at hc
    ·rename_i l hl
     simp only[sJ]at hc; subst hc
     simp only[bG]at h
     obtain⟨y,hy,rfl,rfl⟩:=bB h
     have:=ba.val R (xM (P:=P) (w:=w) (qs:=ps.map fun p=>(p.1,a.eval p.2)) hu (cQ hk) hz (by simpa using mq ht hl) hy)
     simpa[execOp] using this
    ·simp at hc
   ·simp at hc
  ·simp at hc
 case buildSlice t len ps=>
  split at hc
  ·rename_i e hu
   split at hc
   ·rename_i g k z hk hz
    split at hc
    ·rename_i l hl
     cases hg:(Nat.beq z.length k&&Nat.ble (len*k) 16777216) with
     | false=>rw[hg]at hc; simp at hc
     | true=>
      rw[hg]at hc
      simp only[Pu,Nat.ble_eq]at hg
      simp only[cond_true,sJ]at hc; subst hc
      simp only[bG]at h
      obtain⟨y,hy,rfl⟩:=cx h
      have:=ba.good (Ao (P:=P) (qs:=ps.map fun p=>(p.1,a.eval p.2)) R hu (cQ hk) hz (Py hg.1) hg.2 (by simpa using mq ht hl) hy)
      simpa[execOp] using this
    ·simp at hc
   ·simp at hc
  ·simp at hc
 case load t x=>
  split at hc
  ·rename_i g k y hk hy
   simp only[sJ]at hc; subst hc
   simp only[bG]at h
   obtain⟨z,hz,rfl,rfl⟩:=bB h
   exact ba.val R (uM (P:=P) R (cQ hk) (aC ht hy) hz)
  ·simp at hc
 case store t x y=>
  split at hc
  ·rename_i g k x' y' hk hx hy
   simp only[sJ]at hc; subst hc
   simp only[bG]at h
   split at h
   ·rename_i H1 h1
    simp only[sJ,pJ]at h
    obtain⟨rfl,rfl⟩:=h
    obtain⟨w',q1,q2⟩:=EO (P:=P) R (cQ hk) (aC ht hx) (aC ht hy) h1
    refine⟨ρ,w',.skip,Pl.le_refl _,?_,q2,?_⟩
    ·simp only[execOp,Sem.run_bind,q1,Result.andThen_ok]; rfl
    ·simp only[iz,aN,ag,undef]; exact⟨#[],rfl,by simp[ah]⟩
   ·simp at h
  ·simp at hc
 case nilCheck x=>
  split at hc
  ·rename_i y hy
   simp only[sJ]at hc; subst hc
   simp only[bG]at h
   obtain⟨z,hz,rfl,rfl⟩:=bB h
   exact CP R (aC ht hy) hz ⟨dst,.nilCheck x,type,pos,after,guard⟩ a.eval rfl
  ·simp at hc
 case binOp op t x y yt=>
  split at hc
  ·rename_i x' y' hx hy
   simp only[sJ]at hc; subst hc
   simp only[bG]at h
   obtain⟨z,hz,rfl,rfl⟩:=bB h
   obtain⟨u,h1,h2⟩:=LN (P:=P) (t:=t) (aC ht hx) (aC ht hy) hz w
   refine ba.val R ⟨u,?_,h2⟩
   simp only[Sem.run_bind,Aa (aC ht hx) (aC ht hy) hz,Result.andThen_ok,h1]
  ·simp at hc
 case unOp op t x=>
  split at hc
  ·rename_i y hy
   simp only[sJ]at hc; subst hc
   simp only[bG]at h
   obtain⟨z,hz,rfl,rfl⟩:=bB h
   exact ba.val R (Mx (P:=P) (aC ht hy) hz w)
  ·simp at hc
 case convert s d x=>
  split at hc
  ·rename_i y hy
   split at hc
   ·rename_i d1 k h1 h2
    simp only[sJ]at hc; subst hc
    simp only[bG]at h
    obtain⟨z,hz,rfl,rfl⟩:=bB h
    exact ba.val R (IZ (P:=P) h1 h2 (aC ht hy) hz w)
   ·rename_i e _ h1 h2
    split at hc
    ·rename_i he
     simp only[sJ]at hc; subst hc
     simp only[bG]at h
     obtain⟨z,hz,rfl⟩:=cx h
     exact ba.good (MB (P:=P) R h1 h2 he (aC ht hy) hz)
    ·simp at hc
   ·rename_i e _ h1 h2
    split at hc
    ·rename_i he
     simp only[sJ]at hc; subst hc
     simp only[bG]at h
     obtain⟨z,hz,rfl,rfl⟩:=bB h
     exact ba.val R (M8 (P:=P) R h1 he h2 (aC ht hy) hz)
    ·simp at hc
   ·simp at hc
  ·simp at hc
 case makeInterface t x=>
  split at hc
  ·simp at hc
  ·rename_i y d hno hy hu
   simp only[sJ]at hc; subst hc
   simp only[bG,sJ,pJ]at h
   obtain⟨rfl,rfl⟩:=h
   refine ba.val R ⟨.iface t (a.eval x),?_,by simp only[ag]; exact⟨_,rfl,aC ht (by assumption)⟩⟩
   cases d <;> first
    | exact (hno _ rfl).elim
    | (simp only[Instr.makeInterface,Sem.run_bind,run_underlying hu,Result.andThen_ok]; rfl)
  ·simp at hc
 case makeFunc fn x y=>
  split at hc
  ·rename_i x' y' hx hy
   simp only[sJ]at hc; subst hc
   simp only[bG,sJ,pJ]at h
   obtain⟨rfl,rfl⟩:=h
   refine ba.val R ⟨.func fn (x.map a.eval) (y.map a.eval),rfl,?_⟩
   simp only[ag]
   exact⟨_,_,rfl,by simpa using fK ht hx,by simpa using fK ht hy⟩
  ·simp at hc
 case makeSlice t l c=>
  split at hc
  ·rename_i e hu
   split at hc
   ·rename_i m b z l' c' h1 h2 h3 h4
    simp only[sJ]at hc; subst hc
    simp only[bG]at h
    obtain⟨y,hy,rfl⟩:=cx h
    exact ba.good (Iw (P:=P) R hu (uY h1) h2 (aC ht h3) (aC ht h4) hy)
   ·simp at hc
  ·simp at hc
 case slice t x lo hi mx=>
  split at hc
  ·rename_i x' lo' hi' hu hx hlo hhi hmx
   simp only[sJ]at hc; subst hc
   simp only[bG]at h
   obtain⟨y,hy,rfl,rfl⟩:=bB h
   have hmn:mx=none:=by
    cases mx with
    | none=>rfl
    | some m=>simp only[kX]at hmx; split at hmx <;> simp at hmx
   subst hmn
   obtain⟨u,q1,q2⟩:=EW (P:=P) (w:=w) hu (aC ht hx) (ic ht hlo) (ic ht hhi) hy
   refine ba.val R ⟨u,?_,q2⟩
   simp only[Instr.sliceAt,Sem.run_bind,run_underlying hu,Result.andThen_ok]
   exact q1
  ·rename_i e x' lo' hi' mx' hu hx hlo hhi hmx
   split at hc
   ·rename_i g k hk
    simp only[sJ]at hc; subst hc
    simp only[bG]at h
    obtain⟨y,hy,rfl,rfl⟩:=bB h
    obtain⟨u,q1,q2⟩:=MA (P:=P) (w:=w) hu (cQ hk) (aC ht hx) (ic ht hlo) (ic ht hhi) (ic ht hmx) hy
    refine ba.val R ⟨u,?_,q2⟩
    simp only[Instr.sliceAt,Sem.run_bind,run_underlying hu,Result.andThen_ok]
    exact q1
   ·simp at hc
  ·simp at hc
 case fieldAddr s x i=>
  split at hc
  ·rename_i fs y hu hy
   split at hc
   ·rename_i f hf
    split at hc
    ·rename_i g k hk
     cases hg:Nat.beq k 0 with
     | true=>rw[hg]at hc; simp at hc
     | false=>
      rw[hg]at hc
      simp only[cond_false,sJ]at hc; subst hc
      simp only[bG]at h
      obtain⟨z,hz,rfl,rfl⟩:=bB h
      exact ba.val R (tu (P:=P) (w:=w) hu hf (cQ hk) (fun e=>by rw[e]at hg; simp at hg) (aC ht hy) hz)
    ·simp at hc
   ·simp at hc
  ·simp at hc
 case field s x i=>
  split at hc
  ·rename_i fs y hu hy
   split at hc
   ·rename_i f hf
    split at hc
    ·rename_i g k hk
     simp only[sJ]at hc; subst hc
     simp only[bG]at h
     obtain⟨z,hz,rfl,rfl⟩:=bB h
     exact ba.val R (Dp (P:=P) (w:=w) hu hf (cQ hk) (aC ht hy) hz)
    ·simp at hc
   ·simp at hc
  ·simp at hc
 case indexAddr t x i=>
  split at hc
  ·rename_i e x' i' hu hx hi
   split at hc
   ·rename_i g k hk
    simp only[sJ]at hc; subst hc
    simp only[bG]at h
    obtain⟨z,hz,rfl,rfl⟩:=bB h
    exact ba.val R (IJ (P:=P) (w:=w) hu (cQ hk) (aC ht hx) (aC ht hi) hz)
   ·simp at hc
  ·rename_i m e x' i' hu hx hi
   split at hc
   ·rename_i g k hk
    simp only[sJ]at hc; subst hc
    simp only[bG]at h
    obtain⟨z,hz,rfl,rfl⟩:=bB h
    exact ba.val R (th (P:=P) (w:=w) hu (cQ hk) (aC ht hx) (aC ht hi) hz)
   ·simp at hc
  ·simp at hc
 case index t x i=>
  split at hc
  ·rename_i x' i' hu hx hi
   simp only[sJ]at hc; subst hc
   simp only[bG]at h
   obtain⟨z,hz,rfl,rfl⟩:=bB h
   exact ba.val R (II (P:=P) (w:=w) hu (aC ht hx) (aC ht hi) hz)
  ·rename_i m e x' i' hu hx hi
   split at hc
   ·rename_i g k hk
    simp only[sJ]at hc; subst hc
    simp only[bG]at h
    obtain⟨z,hz,rfl,rfl⟩:=bB h
    exact ba.val R (KX (P:=P) (w:=w) hu (cQ hk) (aC ht hx) (aC ht hi) hz)
   ·simp at hc
  ·simp at hc
 case extract x i=>
  split at hc
  ·rename_i y hy
   simp only[sJ]at hc; subst hc
   simp only[bG]at h
   obtain⟨z,hz,rfl,rfl⟩:=bB h
   exact ba.val R (zV (P:=P) (w:=w) (aC ht hy) hz)
  ·simp at hc
 case call c=>exact GH htb R ht ⟨dst,.call c,type,pos,after,guard⟩ c hc h
theorem ba.skip{s:Sem Unit}{w':World}(hr:s.run P w=.ok () w')(hR:Rel Prot w0 ρ H' w'):ba P Prot w0 ρ w (do s; pure .skip) (.val (.tuple [])) H':=
 ⟨ρ,w',.skip,Pl.le_refl _,by simp only[Sem.run_bind,hr,Result.andThen_ok]; rfl,hR,by simp only[iz,ag,undef]; exact⟨#[],rfl,by simp[ah]⟩⟩
theorem Ip{tb:FuncId->Bool}(R:Rel Prot w0 ρ H w){n:Nat}{T:Tr af}{a:Act}(ht:aJ ρ n T a.tmps)(o:Oper){ao:gT}(hc:nS P o.op=some ao)
  {nx:Nx} (h:bG tb T H ao=some (nx,H')):ba P Prot w0 ρ w (execOp a.eval o) nx H':=by
 obtain⟨dst,op,type,pos,after,guard⟩:=o
 simp only at hc
 unfold nS at hc
 split at hc
 ·rename_i t x y yt
  split at hc
  ·rename_i x' y' hx hy
   split at hc
   ·rename_i k hk
    simp only[sJ]at hc; subst hc
    simp only[bG]at h
    obtain⟨z,hz,rfl,rfl⟩:=bB h
    simp only[iu,eX,LW]at hz
    split at hz
    ·rename_i b hb
     simp only[cond_false,sJ]at hz
     subst hz
     exact ba.val R ⟨_,Gq (op:=.eql) (.inl rfl) hk (aC ht hx) (aC ht hy) hb,rfl⟩
    ·simp at hz
   ·split at hc
    ·rename_i fs hk
     simp only[sJ]at hc; subst hc
     simp only[bG]at h
     obtain⟨z,hz,rfl,rfl⟩:=bB h
     simp only[iu,eX]at hz
     unfold mZ at hz
     split at hz
     ·rename_i l m hlm
      simp only[List.cons.injEq,and_true]at hlm
      obtain⟨e1,e2⟩:=hlm
      have p1:=aC ht hx
      have p2:=aC ht hy
      rw[e1]at p1
      rw[e2]at p2
      split at hz
      ·rename_i b hb
       simp only[cond_false,sJ]at hz
       subst hz
       exact ba.val R ⟨_,BH (op:=.eql) (.inl rfl) hk p1 p2 hb,rfl⟩
      ·simp at hz
     ·simp at hz
    ·simp at hc
  ·simp at hc
 ·rename_i t x y yt
  split at hc
  ·rename_i x' y' hx hy
   split at hc
   ·rename_i k hk
    simp only[sJ]at hc; subst hc
    simp only[bG]at h
    obtain⟨z,hz,rfl,rfl⟩:=bB h
    simp only[iu,eX,LW]at hz
    split at hz
    ·rename_i b hb
     simp only[cond_true,sJ]at hz
     subst hz
     exact ba.val R ⟨_,Gq (op:=.neq) (.inr rfl) hk (aC ht hx) (aC ht hy) hb,rfl⟩
    ·simp at hz
   ·split at hc
    ·rename_i fs hk
     simp only[sJ]at hc; subst hc
     simp only[bG]at h
     obtain⟨z,hz,rfl,rfl⟩:=bB h
     simp only[iu,eX]at hz
     unfold mZ at hz
     split at hz
     ·rename_i l m hlm
      simp only[List.cons.injEq,and_true]at hlm
      obtain⟨e1,e2⟩:=hlm
      have p1:=aC ht hx
      have p2:=aC ht hy
      rw[e1]at p1
      rw[e2]at p2
      split at hz
      ·rename_i b hb
       simp only[cond_true,sJ]at hz
       subst hz
       exact ba.val R ⟨_,BH (op:=.neq) (.inr rfl) hk p1 p2 hb,rfl⟩
      ·simp at hz
     ·simp at hz
    ·simp at hc
  ·simp at hc
 ·rename_i t x
  split at hc
  ·rename_i y hu hy
   simp only[sJ]at hc; subst hc
   simp only[bG]at h
   obtain⟨z,hz,rfl⟩:=cx h
   exact ba.good (Fl (P:=P) R hu (aC ht hy) hz)
  ·simp at hc
 ·rename_i x
  split at hc
  ·rename_i y hy
   simp only[sJ]at hc; subst hc
   simp only[bG]at h
   obtain⟨z,hz,rfl⟩:=cx h
   exact ba.good (Is (P:=P) (t:=type) R (aC ht hy) hz)
  ·simp at hc
 ·rename_i t x lo hi mx
  split at hc
  ·rename_i m e x' lo' hi' mx' hu hx hlo hhi hmx
   split at hc
   ·rename_i g k hk
    simp only[sJ]at hc; subst hc
    simp only[bG]at h
    obtain⟨y,hy,rfl,rfl⟩:=bB h
    exact ba.val R (EX (P:=P) (w:=w) hu (cQ hk) (aC ht hx) (ic ht hlo) (ic ht hhi) (ic ht hmx) hy)
   ·simp at hc
  ·simp at hc
 ·rename_i s d x
  cases hb:Nat.beq s d with
  | false=>rw[hb]at hc; simp at hc
  | true=>
   rw[hb]at hc
   have:=Py hb
   subst this
   simp only[cond_true]at hc
   split at hc
   ·rename_i e y hu hy
    split at hc
    ·rename_i he
     simp only[sJ]at hc; subst hc
     simp only[bG]at h
     obtain⟨z,hz,rfl⟩:=cx h
     exact ba.good (Iv (P:=P) R hu he (aC ht hy) hz)
    ·simp at hc
   ·simp at hc
 ·rename_i c
  obtain⟨callee,args,argTypes⟩:=c
  split at hc
  ·rename_i heq
   simp only at heq
   subst heq
   split at hc
   ·rename_i l hl
    simp only[sJ]at hc; subst hc
    simp only[bG]at h
    obtain⟨z,hz,rfl,rfl⟩:=bB h
    have hv:=fK ht hl
    simp only[iu]at hz
    cases hl':eX T l with
    | nil=>rw[hl']at hz; simp[Jk]at hz
    | cons x r=>
     rw[hl']at hz hv
     simp only[ah]at hv
     obtain⟨v,vs,e,hx,hr⟩:=hv
     obtain⟨q,hq,hrun⟩:=FG (P:=P) (w:=w) (g:=true) hx hr hz
     refine ba.val R (s:=Builtin.max_ argTypes type (args.map a.eval)) ⟨q,?_,hq⟩
     unfold Builtin.max_
     simp only[Array.toList_map,e]
     exact hrun
   ·simp at hc
  ·rename_i heq
   simp only at heq
   subst heq
   split at hc
   ·rename_i T1 x hT hO
    simp only at hT hO
    obtain⟨p,hpq,hp⟩:=wC hO
    have ha:argTypes=#[T1]:=Array.toList_inj.1 (by simpa using hT)
    have hb:args=#[p]:=Array.toList_inj.1 (by simpa using hpq)
    subst ha hb
    split at hc
    ·rename_i e he
     split at hc
     ·rename_i zz hzz
      simp only[sJ]at hc
      subst hc
      simp only[bG]at h
      obtain⟨y,hy,rfl⟩:=cx h
      simp only[mY,eX]at hy
      have:=ba.good (Lt (P:=P) R he hzz (ty:=type) (aC ht hp) hy)
      simpa[execOp,resolve,invoke,builtin] using this
     ·simp at hc
    ·simp at hc
   ·simp at hc
  ·rename_i heq
   simp only at heq
   subst heq
   split at hc
   ·rename_i T1 T2 x1 x2 hT hO
    simp only at hT hO
    obtain⟨p,q,hpq,hp,hq⟩:=wB hO
    have ha:argTypes=#[T1,T2]:=Array.toList_inj.1 (by simpa using hT)
    have hb:args=#[p,q]:=Array.toList_inj.1 (by simpa using hpq)
    subst ha hb
    split at hc
    ·rename_i e he
     split at hc
     ·rename_i gg nn hzz
      simp only[sJ]at hc
      subst hc
      simp only[bG]at h
      obtain⟨y,hy,rfl⟩:=cx h
      simp only[mY,eX]at hy
      have:=ba.good (Lp (P:=P) R he (t2:=T2) (cQ hzz) (ty:=type) (aC ht hp) (aC ht hq) hy)
      simpa[execOp,resolve,invoke,builtin] using this
     ·simp at hc
    ·simp at hc
   ·simp at hc
  ·rename_i heq
   simp only at heq
   subst heq
   split at hc
   ·rename_i l hl
    simp only[sJ]at hc; subst hc
    simp only[bG]at h
    obtain⟨z,hz,rfl,rfl⟩:=bB h
    have hv:=fK ht hl
    simp only[iu]at hz
    cases hl':eX T l with
    | nil=>rw[hl']at hz; simp[Jk]at hz
    | cons x r=>
     rw[hl']at hz hv
     simp only[ah]at hv
     obtain⟨v,vs,e,hx,hr⟩:=hv
     obtain⟨q,hq,hrun⟩:=FG (P:=P) (w:=w) (g:=false) hx hr hz
     refine ba.val R (s:=Builtin.min_ argTypes type (args.map a.eval)) ⟨q,?_,hq⟩
     unfold Builtin.min_
     simp only[Array.toList_map,e]
     exact hrun
   ·simp at hc
  ·rename_i f heq
   simp only at heq
   subst heq
   cases hf:Bu P f with
   | false=>
    rw[hf]at hc
    simp only[cond_false]at hc
    cases hf2:Bv P f with
    | false=>rw[hf2]at hc; simp at hc
    | true=>
     rw[hf2]at hc
     simp only[cond_true]at hc
     split at hc
     ·rename_i l hl
      simp only[sJ]at hc; subst hc
      simp only[bG]at h
      obtain⟨z,hz,rfl,rfl⟩:=bB h
      simp only[iu]at hz
      obtain⟨q,hq,hrun⟩:=Lx (P:=P) (w:=w) hf2 hz (vs:=args.map a.eval) (by simpa using fK ht hl)
      exact⟨ρ,w,.value q,Pl.le_refl _,by simpa[execOp,resolve,Act.eval,Deferred.ofValue,invoke] using hrun,R,hq⟩
     ·simp at hc
   | true=>
    rw[hf]at hc
    simp only[cond_true]at hc
    split at hc
    ·rename_i l hl
     simp only[sJ]at hc; subst hc
     simp only[bG]at h
     obtain⟨z,hz,rfl,rfl⟩:=bB h
     simp only[iu]at hz
     obtain⟨q,hq,hrun⟩:=KY (P:=P) (w:=w) hf hz (vs:=args.map a.eval) (by simpa using fK ht hl)
     exact⟨ρ,w,.value q,Pl.le_refl _,by simpa[execOp,resolve,Act.eval,Deferred.ofValue,invoke] using hrun,R,hq⟩
    ·simp at hc
  ·simp at hc
 ·rename_i t g i
  split at hc
  ·rename_i m e i' hu hi
   split at hc
   ·rename_i gg k hk
    simp only[sJ]at hc; subst hc
    simp only[bG]at h
    obtain⟨z,hz,rfl⟩:=cx h
    simp only[mY,eX,Hn]at hz
    split at hz
    ·rename_i p hp
     split at hz
     ·rename_i v hv
      simp only[sJ,pJ]at hz
      obtain⟨rfl,rfl⟩:=hz
      exact ba.val R (th (P:=P) (w:=w) hu (cQ hk) (qp R hp) (aC ht hi) hv)
     ·simp at hz
    ·simp at hz
   ·simp at hc
  ·simp at hc
 ·rename_i t g
  split at hc
  ·rename_i gg k hk
   simp only[sJ]at hc; subst hc
   simp only[bG]at h
   obtain⟨z,hz,rfl⟩:=cx h
   simp only[mY,eX,Nk]at hz
   split at hz
   ·rename_i p hp
    split at hz
    ·rename_i v hv
     simp only[sJ,pJ]at hz
     obtain⟨rfl,rfl⟩:=hz
     exact ba.val R (uM (P:=P) R (cQ hk) (qp R hp) hv)
    ·simp at hz
   ·simp at hz
  ·simp at hc
 ·rename_i s g i
  split at hc
  ·rename_i fs hu
   split at hc
   ·rename_i f hf
    split at hc
    ·rename_i gg k hk
     cases hb:Nat.beq k 0 with
     | true=>rw[hb]at hc; simp at hc
     | false=>
      rw[hb]at hc
      simp only[cond_false,sJ]at hc; subst hc
      simp only[bG]at h
      obtain⟨z,hz,rfl⟩:=cx h
      simp only[mY,eX,Ki]at hz
      split at hz
      ·rename_i p hp
       split at hz
       ·rename_i v hv
        simp only[sJ,pJ]at hz
        obtain⟨rfl,rfl⟩:=hz
        exact ba.val R (tu (P:=P) (w:=w) hu hf (cQ hk) (fun e=>by rw[e]at hb; simp at hb) (qp R hp) hv)
       ·simp at hz
      ·simp at hz
    ·simp at hc
   ·simp at hc
  ·simp at hc
 ·rename_i t x
  split at hc
  ·rename_i n e y hu hx
   simp only[sJ]at hc; subst hc
   simp only[bG]at h
   obtain⟨z,hz,rfl,rfl⟩:=bB h
   exact ba.val R (KD (P:=P) (w:=w) hu (aC ht hx) hz)
  ·simp at hc
 ·rename_i t
  simp only[sJ]at hc; subst hc
  simp only[bG]at h
  obtain⟨z,hz,rfl⟩:=cx h
  exact ba.good (FI (P:=P) R t hz)
 ·rename_i t m k ok
  split at hc
  ·rename_i kt el m' k' hu hm hk
   split at hc
   ·rename_i kc z0 hkc hz0
    simp only[sJ]at hc; subst hc
    simp only[bG]at h
    obtain⟨z,hz,rfl⟩:=cx h
    exact ba.good (FO (P:=P) R hu hkc hz0 (aC ht hm) (aC ht hk) hz)
   ·simp at hc
  ·simp at hc
 ·rename_i t m k
  split at hc
  ·rename_i kt el m' k' hu hm hk
   split at hc
   ·rename_i kc z0 hkc hz0
    simp only[sJ]at hc; subst hc
    simp only[bG]at h
    obtain⟨z,hz,rfl⟩:=cx h
    exact ba.good (CV (P:=P) R hu hkc hz0 (aC ht hm) (aC ht hk) hz)
   ·simp at hc
  ·simp at hc
 ·rename_i t m n x
  split at hc
  ·rename_i m' n' x' hm hn hx
   simp only[sJ]at hc; subst hc
   simp only[bG]at h
   obtain⟨z,hz,rfl⟩:=cx h
   obtain⟨rfl,w',hr,hR⟩:=CU (P:=P) R t (aC ht hm) (aC ht hn) (aC ht hx) hz
   exact ba.skip hr hR
  ·simp at hc
 ·rename_i t m k x
  split at hc
  ·rename_i kt el m' k' x' hu hm hk hx
   split at hc
   ·rename_i kc hkc
    simp only[sJ]at hc; subst hc
    simp only[bG]at h
    obtain⟨z,hz,rfl⟩:=cx h
    obtain⟨rfl,w',hr,hR⟩:=Bq (P:=P) R hu hkc (aC ht hm) (aC ht hk) (aC ht hx) hz
    exact ba.skip hr hR
   ·simp at hc
  ·simp at hc
 ·rename_i t m k x
  split at hc
  ·rename_i kt el m' k' x' hu hm hk hx
   split at hc
   ·rename_i kc hkc
    simp only[sJ]at hc; subst hc
    simp only[bG]at h
    obtain⟨z,hz,rfl⟩:=cx h
    obtain⟨rfl,w',hr,hR⟩:=Bq (P:=P) R hu hkc (aC ht hm) (aC ht hk) (aC ht hx) hz
    exact ba.skip hr hR
   ·simp at hc
  ·simp at hc
 ·rename_i x xt t ok
  split at hc
  ·simp at hc
  ·rename_i d z y hni hu hz hy
   simp only[sJ]at hc; subst hc
   simp only[bG]at h
   obtain⟨r,hr,rfl,rfl⟩:=bB h
   obtain⟨zv,hz1,hz2⟩:=pv hz
   have hx:=aC ht hy
   simp only[iu,eX]at hr
   generalize ev T y=q at hr hx
   unfold Kh at hr
   split at hr
   ·rename_i heq
    simp only[List.cons.injEq,and_true]at heq
    subst heq
    cases ok with
    | false=>simp at hr
    | true=>
     simp only[cond_true,sJ]at hr
     subst hr
     simp only[ag]at hx
     refine ba.val R ⟨.tuple #[zv,.bool false],?_,?_⟩
     ·show (Instr.typeAssert (a.eval x) xt t true).run P w=_
      rw[hx]
      cases d <;> simp_all [Instr.typeAssert,run_underlying hu]
     ·simp only[ag,ah]
      exact⟨_,rfl,_,_,rfl,hz2 ρ,_,_,rfl,rfl,rfl⟩
   ·rename_i u v heq
    simp only[List.cons.injEq,and_true]at heq
    subst heq
    simp only[ag]at hx
    obtain⟨yv,hx1,hx2⟩:=hx
    cases hb:Nat.beq u t with
    | true=>
     have:=Py hb
     subst this
     rw[hb]at hr
     simp only[cond_true]at hr
     cases ok with
     | false=>
      simp only[cond_false,sJ]at hr
      subst hr
      refine ba.val R ⟨yv,?_,hx2⟩
      show (Instr.typeAssert (a.eval x) xt u false).run P w=_
      rw[hx1]
      cases d <;> simp_all [Instr.typeAssert,run_underlying hu]
     | true=>
      simp only[cond_true,sJ]at hr
      subst hr
      refine ba.val R ⟨.tuple #[yv,.bool true],?_,?_⟩
      ·show (Instr.typeAssert (a.eval x) xt u true).run P w=_
       rw[hx1]
       cases d <;> simp_all [Instr.typeAssert,run_underlying hu]
      ·simp only[ag,ah]
       exact⟨_,rfl,_,_,rfl,hx2,_,_,rfl,rfl,rfl⟩
    | false=>
     have hne:¬u=t:=fun e=>by rw[e,Nat.beq_refl]at hb; simp at hb
     rw[hb]at hr
     simp only[cond_false]at hr
     cases ok with
     | false=>simp at hr
     | true=>
      simp only[cond_true,sJ]at hr
      subst hr
      refine ba.val R ⟨.tuple #[zv,.bool false],?_,?_⟩
      ·show (Instr.typeAssert (a.eval x) xt t true).run P w=_
       rw[hx1]
       cases d <;> simp_all [Instr.typeAssert,run_underlying hu]
      ·simp only[ag,ah]
       exact⟨_,rfl,_,_,rfl,hz2 ρ,_,_,rfl,rfl,rfl⟩
   ·simp at hr
  ·simp at hc
 ·simp at hc
theorem gC{tb:FuncId->Bool}(htb:∀f,Nat.blt f bO=true->tb f=true->bc P f=true)(R:Rel Prot w0 ρ H w){n:Nat}{T:Tr af}{a:Act}(ht:aJ ρ n T a.tmps)(o:Oper){ao:gT}(hc:tM P o.op=some ao)
  {nx:Nx} (h:bG tb T H ao=some (nx,H')):ba P Prot w0 ρ w (execOp a.eval o) nx H':=by
 unfold tM at hc
 split at hc
 ·rename_i x hx
  simp only[sJ]at hc; subst hc
  exact Ip R ht o hx h
 ·split at hc
  ·rename_i x hx
   simp only[sJ]at hc; subst hc
   exact Iq htb R ht o hx h
  ·simp only[sJ]at hc; subst hc
   simp[bG]at h
theorem yh(R:Rel Prot w0 ρ H w){t:TypeId}{l:List af}(h:cB P t=some l){b:Nat}(hd:Prot.dead b)(hx:H.get b=some (.cells l 0 false)) :
  ∃ρ' w' u,ρ.le ρ'/\(Instr.alloc t true (.tuple #[])).run P w=.ok u w'/\Rel ⟨Prot.prot,fun d=>Prot.dead d/\d≠b⟩ w0 ρ' H w'/\ag ρ' (.ptr (some ⟨b,l.length,0⟩)) u:=by
 obtain⟨z,h1,h2⟩:=ge h
 have hnone:=(R.dead b hd).2
 have hv:=h2 ρ
 have hlen:l.length=z.cells.size:=by have:=ah.len hv; simpa using this
 obtain⟨q1,q2⟩:=R.claim' hd (w':=w.alloc (.cells z.cells t)) rfl rfl rfl (by simp) (fun i hi=>RowKit.Below.heap_alloc _ _ _ hi) hx (o:=.cells z.cells t) (lim:=l.length) (n:=z.cells.size) (cl:=true) (by show (w.heap.push _)[w.heap.size]?=_; simp) (by
  simp only[dy]
  refine⟨z.cells,t,0,0,rfl,rfl,fun _=>⟨fun i _=>om,Nat.le_refl _⟩,Nat.le_refl _,fun _ i i1 i2=>?_⟩
  have hx:l[i]?=some l[i]:=Pr i2
  obtain⟨v,u1,u2⟩:=hv.nth _ _ hx
  refine⟨_,v,hx,?_,ag.mono (nj fun L' h'=>by rw[hnone]at h'; simp at h') _ _ u2⟩
  simpa using u1)
 refine⟨_,_,.pointer (some ⟨w.heap.size,0,none⟩),q1,?_,q2,?_⟩
 ·simp only[Instr.alloc,Sem.run_bind,h1,Result.andThen_ok,newVar]; rfl
 ·simp only[ag]; exact⟨_,fN _ _ _ _,Nat.zero_le _,rfl⟩
theorem sE(R:Rel Prot w0 ρ H w){l:List af}{C:Array Value}(t:TypeId)(hv:ah ρ l C.toList){b:Nat}(hd:Prot.dead b)(hx:H.get b=some (.cells l 0 false)) :
  ∃ρ',ρ.le ρ'/\Rel ⟨Prot.prot,fun d=>Prot.dead d/\d≠b⟩ w0 ρ' H (w.alloc (.cells C t))/\ρ' b l.length=some ⟨w.heap.size,0,C.size,true⟩:=by
 have hnone:=(R.dead b hd).2
 have hlen:l.length=C.size:=by have:=ah.len hv; simpa using this
 obtain⟨q1,q2⟩:=R.claim' hd (w':=w.alloc (.cells C t)) rfl rfl rfl (by simp) (fun i hi=>RowKit.Below.heap_alloc _ _ _ hi) hx (o:=.cells C t) (lim:=l.length) (n:=C.size) (cl:=true) (by show (w.heap.push _)[w.heap.size]?=_; simp) (by
  simp only[dy]
  refine⟨C,t,0,0,rfl,rfl,fun _=>⟨fun i _=>om,Nat.le_refl _⟩,Nat.le_refl _,fun _ i i1 i2=>?_⟩
  have hx:l[i]?=some l[i]:=Pr i2
  obtain⟨v,u1,u2⟩:=hv.nth _ _ hx
  refine⟨_,v,hx,?_,ag.mono (nj fun L' h'=>by rw[hnone]at h'; simp at h') _ _ u2⟩
  simpa using u1)
 exact⟨_,q1,q2,fN _ _ _ _⟩
theorem zB(R:Rel Prot w0 ρ H w){sT elem:TypeId}{size bytes:Nat}{z:List af}(hu:P.underlying sT=some (.slice elem))(E:Hu P elem size bytes)(hz:cB P elem=some z)
  {l c:af} {lv cv:Value} (hl:ag ρ l lv) (hc:ag ρ c cv) {ln cn:Nat} (hln:eq l=some ln) (hcn:eq c=some cn) (hg:ln<=cn/\bytes*cn<=281474976710656) {b:Nat} (hd:Prot.dead b) (hx:H.get b=some (.cells (me z cn) 0 false)) :
  ∃ρ' w' u,ρ.le ρ'/\(Instr.makeSlice sT lv cv).run P w=.ok u w'/\Rel ⟨Prot.prot,fun d=>Prot.dead d/\d≠b⟩ w0 ρ' H w'/\ag ρ' (.slice (some ⟨b,(me z cn).length,0⟩) ln (.known cn)) u:=by
 obtain⟨rfl,b1⟩:=mC hln
 obtain⟨rfl,b2⟩:=mC hcn
 simp only[ag]at hl hc
 subst hl hc
 obtain⟨i,zv,hi,rfl,rfl,hzero,hzs⟩:=E.ex
 obtain⟨zv',hzr,hzl⟩:=ge hz
 have hzv:zv'=zv:=by
  have:=hzr w
  simp[zeroValue,run_typeInfo w hi,hzero]at this
  exact this.symm
 subst hzv
 have hlen:=ah.len (hzl ρ)
 simp only[Array.length_toList,hzs]at hlen
 obtain⟨ρ',q1,q3,q4⟩:=sE R elem (jX (hzl ρ) cn) hd hx
 have q2:(newRow elem (cJ zv'.cells (cn*z.length))).run P w=.ok ⟨w.heap.size,0,none⟩ (w.alloc (.cells (cJ zv'.cells (cn*z.length)) elem)):=rfl
 have hnb:¬((281474976710656:Int)<(i.bytes:Int)*(cn:Int)):=by
  have:(i.bytes*cn:Nat)<=281474976710656:=hg.2
  rw[<- Int.natCast_mul]; omega
 have hcells:cJ zv'.cells (cn*i.size)=cJ zv'.cells (cn*z.length):=by rw[hlen]
 refine⟨ρ',_,.slice (some ⟨w.heap.size,0,none⟩) ln cn,q1,?_,q3,?_⟩
 ·have hsz:∀W,(sizeOf elem).run P W=.ok i.size W:=fun W=>by simp[sizeOf,run_typeInfo W hi]
  have e1:¬((cn:Int)<0):=om
  have e2:¬((ln:Int)<0):=om
  have e3:¬((cn:Int)<(ln:Int)):=om
  by_cases hn:cn*i.size=0
  ·have hm:cJ zv'.cells (cn*z.length)=#[]:=by rw[<- hcells,hn]; simp[cJ]
   rw[hm]at q2 ⊢
   simp only[Instr.makeSlice,Sem.run_bind,run_underlying hu,Result.andThen_ok,asInt,asIntOf,Sem.run_pure,run_typeInfo _ hi,fM b1,fM b2]
   simp[e1,e2,e3,hnb,hsz,hn,show Array.range 0=#[] by simp,q2]
  ·simp only[Instr.makeSlice,Sem.run_bind,run_underlying hu,Result.andThen_ok,asInt,asIntOf,Sem.run_pure,run_typeInfo _ hi,fM b1,fM b2]
   rw[<- hcells]at q2 ⊢
   unfold cJ at q2 ⊢
   simp[e1,e2,e3,hnb,hsz,hn,hzr,q2]
 ·simp only[ag]
  exact⟨_,q4,Nat.zero_le _,hg.1,rfl⟩
end
end Go.Abs
namespace Go.Abs
structure ak where
 dst:Option Nat
 op:gT
 guard:Option (Nat×Bool)
def SK:Nat:=1000000
def gS(t:Nat):Nat:=bif Nat.ble SK t then t-SK else t
def NA(b:Bool):af->Bool
 | .bool c=>bif b then c else !c
 | _=>false
def gV(t:Nat)(b:Bool)(v:af):Bool:=bif Nat.ble SK t then !eT v else NA b v
def fR(T:Tr af):Option (Nat×Bool)->Bool
 | none=>true
 | some (t,b)=>gV t b (ev T (.t (gS t)))
theorem MN{t:Nat}(h:Nat.blt t SK=true):gS t=t/\Nat.ble SK t=false:=by
 have h1:t<SK:=Px h
 have h2:Nat.ble SK t=false:=by
  cases hb:Nat.ble SK t with
  | false=>rfl
  | true=>have:=Px hb; omega
 exact⟨by unfold gS; rw[h2]; rfl,h2⟩
def aO(T:Tr af):Option Nat->af->Tr af
 | some d,v=>T.set d v
 | none,_=>T
def cZ:gT->Bool
 | .load .. | .claim ..=>true
 | _=>false
def iE:gT->Bool
 | .mv _ | .pick .. | .build .. | .nilChk _ | .bin .. | .un .. | .conv .. | .mkFunc .. | .mkIface .. | .sl .. | .slStr .. | .fieldA .. | .field .. | .idxA .. | .idxArr .. | .idx .. | .idxS .. | .extract .. | .len .. | .pf .. | .slA ..=>true
 | _=>false
def aD(o:gT):Bool:=!(iE o)&&!(cZ o)
def Bd:bb->List Nat
 | .t i=>[i]
 | _=>[]
def wr:List bb->List Nat
 | []=>[]
 | x::r=>Bd x++wr r
def CJ:Option bb->List Nat
 | none=>[]
 | some x=>Bd x
def MH:List (Nat×Nat×bb)->List Nat
 | []=>[]
 | (_,_,x)::r=>Bd x++MH r
def reads:gT->List Nat
 | .mv x | .box x | .load _ _ x | .nilChk x | .un _ x | .conv _ x | .convSB x | .convBS x | .mkIface _ x | .fieldA _ x | .field _ _ _ x | .extract _ x | .len _ x=>Bd x
 | .pick c a b=>Bd c++(Bd a++Bd b)
 | .new _=>[]
 | .build _ ps=>MH ps
 | .buildSl _ _ ps=>MH ps
 | .store _ a x | .bin _ a x | .mkSlice _ _ a x | .idxA _ a x | .idxArr _ _ a x | .idx _ _ _ a x | .idxS a x | .append _ _ a x=>Bd a++Bd x
 | .mkFunc _ a b=>wr a++wr b
 | .sl _ x a b c | .slA _ _ x a b c=>Bd x++(CJ a++(CJ b++CJ c))
 | .slStr x a b=>Bd x++(CJ a++CJ b)
 | .call _ l=>wr l
 | .callv f l=>Bd f++wr l
 | .pf _ l | .hf _ l=>wr l
 | .bad | .claim _ _ _=>[]
def iB(o:ak):List Nat:=reads o.op++(match o.guard with | none=>[] | some (t,_)=>[gS t])
section
variable {tb:FuncId->Bool} {T T':Tr af} {H H' H2:ae}
theorem aQ{x:bb}(h:∀t∈Bd x,T.get t=T'.get t):ev T x=ev T' x:=by
 cases x with
 | t i=>simp only[ev]; rw[h i (by simp[Bd])]
 | _=>rfl
theorem gu{l:List bb}(h:∀t∈wr l,T.get t=T'.get t):eX T l=eX T' l:=by
 induction l with
 | nil=>rfl
 | cons x r ih=>simp only[wr,List.mem_append]at h; simp only[eX]; rw[aQ fun t ht=>h t (.inl ht),ih fun t ht=>h t (.inr ht)]
theorem eK{x:Option bb}(h:∀t∈CJ x,T.get t=T'.get t):xg T x=xg T' x:=by
 cases x with
 | none=>rfl
 | some x=>simp only[xg]; rw[aQ h]
theorem tz{l:List (Nat×Nat×bb)}(h:∀t∈MH l,T.get t=T'.get t):yw T l=yw T' l:=by
 induction l with
 | nil=>rfl
 | cons x r ih=>obtain⟨a,b,x⟩:=x; simp only[MH,List.mem_append]at h; simp only[yw]; rw[aQ fun t ht=>h t (.inl ht),ih fun t ht=>h t (.inr ht)]
theorem tY{o:gT}(h:∀t∈reads o,T.get t=T'.get t):bG tb T H o=bG tb T' H o:=by
 cases o <;> simp only[reads,List.mem_append]at h <;> simp only[bG]
 case mv x=>rw[aQ h]
 case pick c a b=>rw[aQ fun t ht=>h t (.inl ht),aQ (x:=a) fun t ht=>h t (.inr (.inl ht)),aQ (x:=b) fun t ht=>h t (.inr (.inr ht))]
 case box x=>rw[aQ h]
 case build z ps=>rw[tz h]
 case buildSl n z ps=>rw[tz h]
 case load a n x=>rw[aQ h]
 case store n a x=>rw[aQ fun t ht=>h t (.inl ht),aQ (x:=x) fun t ht=>h t (.inr ht)]
 case nilChk x=>rw[aQ h]
 case bin op a x=>rw[aQ fun t ht=>h t (.inl ht),aQ (x:=x) fun t ht=>h t (.inr ht)]
 case un op x=>rw[aQ h]
 case conv k x=>rw[aQ h]
 case convSB x=>rw[aQ h]
 case convBS x=>rw[aQ h]
 case mkFunc f a b=>rw[gu fun t ht=>h t (.inl ht),gu (l:=b) fun t ht=>h t (.inr ht)]
 case mkIface t x=>rw[aQ h]
 case mkSlice b z a x=>rw[aQ fun t ht=>h t (.inl ht),aQ (x:=x) fun t ht=>h t (.inr ht)]
 case sl n x a b c=>rw[aQ fun t ht=>h t (.inl ht),eK (x:=a) fun t ht=>h t (.inr (.inl ht)),eK (x:=b) fun t ht=>h t (.inr (.inr (.inl ht))),eK (x:=c) fun t ht=>h t (.inr (.inr (.inr ht)))]
 case slStr x a b=>rw[aQ fun t ht=>h t (.inl ht),eK (x:=a) fun t ht=>h t (.inr (.inl ht)),eK (x:=b) fun t ht=>h t (.inr (.inr ht))]
 case fieldA o x=>rw[aQ h]
 case field a n o x=>rw[aQ h]
 case idxA n a x=>rw[aQ fun t ht=>h t (.inl ht),aQ (x:=x) fun t ht=>h t (.inr ht)]
 case idxArr m n a x=>rw[aQ fun t ht=>h t (.inl ht),aQ (x:=x) fun t ht=>h t (.inr ht)]
 case idx m n g a x=>rw[aQ fun t ht=>h t (.inl ht),aQ (x:=x) fun t ht=>h t (.inr ht)]
 case idxS a x=>rw[aQ fun t ht=>h t (.inl ht),aQ (x:=x) fun t ht=>h t (.inr ht)]
 case extract i x=>rw[aQ h]
 case append n b a x=>rw[aQ fun t ht=>h t (.inl ht),aQ (x:=x) fun t ht=>h t (.inr ht)]
 case len s x=>rw[aQ h]
 case call f l=>rw[gu h]
 case callv f l=>rw[aQ fun t ht=>h t (.inl ht),gu (l:=l) fun t ht=>h t (.inr ht)]
 case pf f l=>rw[gu h]
 case slA m n x a b c=>rw[aQ fun t ht=>h t (.inl ht),eK (x:=a) fun t ht=>h t (.inr (.inl ht)),eK (x:=b) fun t ht=>h t (.inr (.inr (.inl ht))),eK (x:=c) fun t ht=>h t (.inr (.inr (.inr ht)))]
 case hf f l=>rw[gu h]
theorem lU{x:Option af}{nx:Nx}(h:vv H x=some (nx,H')):H'=H/\(∃v,nx=.val v)/\∀H2,vv H2 x=some (nx,H2):=by
 cases x with
 | none=>simp[vv]at h
 | some v=>simp only[vv,sJ,pJ]at h; obtain⟨rfl,rfl⟩:=h; exact⟨rfl,⟨v,rfl⟩,fun _=>rfl⟩
theorem eB{o:gT}(hp:iE o=true){nx:Nx}(h:bG tb T H o=some (nx,H')):H'=H/\(∃v,nx=.val v)/\∀H2,bG tb T H2 o=some (nx,H2):=by
 cases o <;> simp only[iE,PD]at hp <;> simp only[bG]at h ⊢
 case mv x=>simp only[sJ,pJ]at h; obtain⟨rfl,rfl⟩:=h; exact⟨rfl,⟨_,rfl⟩,fun _=>rfl⟩
 case pick c a b=>
  split at h
  ·simp only[sJ,pJ]at h; obtain⟨rfl,rfl⟩:=h; exact⟨rfl,⟨_,rfl⟩,fun _=>rfl⟩
  ·simp at h
 case mkFunc f a b=>simp only[sJ,pJ]at h; obtain⟨rfl,rfl⟩:=h; exact⟨rfl,⟨_,rfl⟩,fun _=>rfl⟩
 case mkIface t x=>simp only[sJ,pJ]at h; obtain⟨rfl,rfl⟩:=h; exact⟨rfl,⟨_,rfl⟩,fun _=>rfl⟩
 all_goals exact lU h
theorem gG{o:gT}(hp:cZ o=true){nx:Nx}(h:bG tb T H o=some (nx,H')):H'=H/\∃v,nx=.val v:=by
 cases o <;> simp only[cZ,PD]at hp
 case load=>simp only[bG]at h; have:=lU h; exact⟨this.1,this.2.1⟩
 case claim=>simp only[bG]at h; have:=lU h; exact⟨this.1,this.2.1⟩
end
end Go.Abs
namespace Go.Abs
section
variable (tb:FuncId->Bool) (call:FuncId->List af->ae->Option (af×ae))
def bw(o:ak)(T:Tr af)(H:ae):Option (af×ae):=
 bif fR T o.guard then
  match bG tb T H o.op with
  | some (.val v,H')=>some (v,H')
  | some (.enter f args,H')=>call f args H'
  | none=>none
 else some (aN,H)
def cp:List ak->Tr af->ae->Option (List (af×ae))
 | [],_,_=>some []
 | o::r,T,H=>match bw tb call o T H with
  | some (v,H')=>match cp r (aO T o.dst v) H' with
   | some s=>some ((v,H')::s)
   | none=>none
  | none=>none
def eH(hs:List ae):List ak->List (List Nat)->List (af×ae)->Tr af->Bool
 | o::os,ps::pss,(v,_)::ss,T=>
  (ps.all fun p=>match hs[p]? with
   | some Hp=>bif fR T o.guard then (match bG tb T Hp o.op with | some (.val u,_)=>aeq u v | _=>false) else true
   | none=>false)&&eH hs os pss ss (aO T o.dst v)
 | _,_,_,_=>true
end
def bn(m:Nat->Bool):Nat->List ak->List (af×ae)->Tr af->Tr af
 | i,o::os,(v,_)::ss,T=>bn m (i+1) os ss (bif m i then aO T o.dst v else T)
 | _,_,_,T=>T
def dK(H:ae)(ss:List (af×ae)):Nat->ae
 | 0=>H
 | j+1=>match ss[j]? with
  | some (_,H')=>H'
  | none=>H
def aA(m:Nat->Bool):Nat->List ak->Nat
 | i,[]=>i
 | i,o::r=>bif aD o.op&&!m i then i else aA m (i+1) r
theorem j8(T:Tr af)(d:Option Nat)(v:af)(t:Nat):(aO T d v).get t=if d=some t then some v else T.get t:=by
 cases d with
 | none=>simp[aO]
 | some d=>
  simp only[aO,Tr.get_set]
  by_cases e:t=d
  ·subst e; simp
  ·rw[if_neg e,if_neg (by intro q; simp at q; exact e q.symm)]
theorem eO{m m':Nat->Bool}{t:Nat}:∀(l:List ak) (ss:List (af×ae)) (k:Nat) (T T':Tr af),T.get t=T'.get t ->
  (∀i o,l[i]?=some o->o.dst=some t->m (k+i)=m' (k+i))->(bn m k l ss T).get t=(bn m' k l ss T').get t:=by
 intro l
 induction l with
 | nil=>intro ss k T T' h _; cases ss <;> exact h
 | cons o r ih=>
  intro ss k T T' h hm
  cases ss with
  | nil=>exact h
  | cons s ss=>
   obtain⟨v,H'⟩:=s
   simp only[bn]
   refine ih ss (k+1) _ _ ?_ fun i o' h1 h2=>by have:=hm (i+1) o' (by simpa using h1) h2; rw[show k+1+i=k+(i+1) by omega]; exact this
   by_cases hd:o.dst=some t
   ·have:=hm 0 o rfl hd
    simp only[Nat.add_zero]at this
    rw[this]
    cases m' k
    ·exact h
    ·simp only[cond_true,j8,hd,if_true]
   ·have e1:∀(b:Bool) (T:Tr af),(bif b then aO T o.dst v else T).get t=T.get t:=fun b T=>by
     cases b
     ·rfl
     ·simp only[cond_true,j8,if_neg hd]
    rw[e1,e1,h]
theorem iH{m:Nat->Bool}{t:Nat}:∀(l:List ak) (ss:List (af×ae)) (k j:Nat) (T:Tr af) (o:ak) (v:af) (H':ae),l[j]?=some o->ss[j]?=some (v,H')->o.dst=some t->m (k+j)=true ->
  (∀i o',j<i->l[i]?=some o'->o'.dst=some t->m (k+i)=false)->(bn m k l ss T).get t=some v:=by
 intro l
 induction l with
 | nil=>intro ss k j T o v H' h; simp at h
 | cons o r ih=>
  intro ss k j T o' v H' h1 h2 h3 h4 h5
  cases ss with
  | nil=>simp at h2
  | cons s ss=>
   obtain⟨u,H1⟩:=s
   simp only[bn]
   cases j with
   | zero=>
    simp only[PA,sJ,pJ]at h1 h2
    obtain⟨rfl,rfl⟩:=h2
    subst h1
    simp only[Nat.add_zero]at h4
    rw[h4]
    have:=eO (m:=m) (m':=fun _=>false) (t:=t) r ss (k+1) (bif true then aO T o.dst u else T) (aO T o.dst u) rfl fun i o' q1 q2=>by
     have:=h5 (i+1) o' om (by simpa using q1) q2
     rw[show k+1+i=k+(i+1) by omega]; exact this
    rw[this]
    have hn:∀(l:List ak) (ss:List (af×ae)) (k:Nat) (T:Tr af),bn (fun _=>false) k l ss T=T:=by
     intro l
     induction l with
     | nil=>intro ss k T; cases ss <;> rfl
     | cons o r ih=>intro ss k T; cases ss with
      | nil=>rfl
      | cons s ss=>obtain⟨a,b⟩:=s; simp only[bn,cond_false,ih]
    rw[hn,j8,if_pos h3]
   | succ j=>
    refine ih ss (k+1) j _ o' v H' (by simpa using h1) (by simpa using h2) h3 (by rw[show k+1+j=k+(j+1) by omega]; exact h4) fun i o2 q0 q1 q2=>?_
    rw[show k+1+i=k+(i+1) by omega]
    exact h5 (i+1) o2 om (by simpa using q1) q2
section
variable {tb:FuncId->Bool} {call:FuncId->List af->ae->Option (af×ae)}
theorem fO:∀(l:List ak) (T:Tr af) (H:ae) (ss:List (af×ae)) (k:Nat),cp tb call l T H=some ss ->
  ss.length=l.length/\∀j o,l[j]?=some o->∃v H',ss[j]?=some (v,H')/\bw tb call o (bn (fun i=>Nat.blt i (k+j)) k l ss T) (dK H ss j)=some (v,H'):=by
 intro l
 induction l with
 | nil=>intro T H ss k h; simp only[cp,sJ]at h; subst h; exact⟨rfl,fun j o h=>by simp at h⟩
 | cons o r ih=>
  intro T H ss k h
  simp only[cp]at h
  split at h
  ·rename_i v H' hs
   split at h
   ·rename_i s hr
    simp only[sJ]at h
    subst h
    obtain⟨h1,h2⟩:=ih _ _ _ (k+1) hr
    refine⟨by simp[h1],fun j o' hj=>?_⟩
    cases j with
    | zero=>
     simp only[PA,sJ]at hj
     subst hj
     refine⟨v,H',rfl,?_⟩
     have e:bn (fun i=>Nat.blt i (k+0)) k (o::r) ((v,H')::s) T=T:=by
      have hn:∀(l:List ak) (ss:List (af×ae)) (k':Nat) (T:Tr af),k<=k'->bn (fun i=>Nat.blt i (k+0)) k' l ss T=T:=by
       intro l
       induction l with
       | nil=>intro ss k' T _; cases ss <;> rfl
       | cons o r ih=>intro ss k' T hk; cases ss with
        | nil=>rfl
        | cons s ss=>
         obtain⟨a,b⟩:=s
         have:Nat.blt k' (k+0)=false:=by
          cases hb:Nat.blt k' (k+0) with
          | false=>rfl
          | true=>have:=Px hb; omega
         simp only[bn,this,cond_false]
         exact ih ss (k'+1) T om
      exact hn _ _ k T rL
     rw[e]
     exact hs
    | succ j=>
     simp only[PC]at hj
     obtain⟨u,H2,q1,q2⟩:=h2 j o' hj
     refine⟨u,H2,by simpa using q1,?_⟩
     have hb:Nat.blt k (k+(j+1))=true:=by
      show Nat.ble (k+1) (k+(j+1))=true
      exact Pt om
     simp only[bn,hb,cond_true]
     rw[show k+(j+1)=k+1+j by omega]
     have hh:dK H ((v,H')::s) (j+1)=dK H' s j:=by
      cases j with
      | zero=>rfl
      | succ j=>
       simp only[dK,PC]
       have:j<s.length:=by
        have:=(Ps.1 hj).1
        omega
       rw[Pr this]
     rw[hh]
     exact q2
   ·simp at h
  ·simp at h
end
end Go.Abs
namespace Go.Abs
def aX(o:Oper):List Nat:=(o.after.toList.filter (Region.binds .any)).map (·.on)
def FN(ms:List Nat):List Nat->Nat
 | []=>0
 | e::r=>(1 <<< e) ||| (ms.getD e 0) ||| FN ms r
def aZ(acc:List Nat):List (List Nat)->List Nat
 | []=>acc
 | es::r=>aZ (acc++[FN acc es]) r
def iF(ms:List Nat)(j i:Nat):Bool:=Nat.blt i j&&(ms.getD j 0).testBit i
theorem jA{ms:List Nat}{j i:Nat}(h:iF ms j i=true):i<j:=by
 unfold iF at h
 rw[Pu]at h
 exact Px h.1
def fy(es:List (List Nat))(ms:List Nat):Bool:=
 (List.range es.length).all fun j=>(es.getD j []).all (fun e=>Nat.blt e j)&&(List.range j).all fun i=>!iF ms j i||(es.getD j []).any fun e=>Nat.beq e i||(Nat.blt i e&&iF ms e i)
def uZ(a b:ak):Bool:=
 (match a.dst with | none=>true | some d=>!(iB b).contains d&&!(b.dst==some d))&&(match b.dst with | none=>true | some d=>!(iB a).contains d)
def fw(ms:List Nat)(i j:Nat)(a b:ak):Bool:=iF ms j i||(!(aD a.op&&aD b.op)&&uZ a b)
def dJ(l:List ak)(ms:List Nat):Bool:=
 (List.range l.length).all fun j=>match l[j]? with
  | some b=>(List.range j).all fun i=>match l[i]? with
   | some a=>fw ms i j a b
   | none=>true
  | none=>true
def kH(l:List ak)(p:Nat):Bool:=match l[p]? with | some o=>aD o.op | none=>Nat.beq p l.length
def sS(l:List ak)(ms:List Nat)(j p:Nat):Bool:=
 kH l p&&(List.range l.length).all fun c=>match l[c]? with
  | some o=>!aD o.op||(bif Nat.blt c p then !iF ms c j else !iF ms j c)
  | none=>true
def ol(l:List ak)(j p:Nat):Bool:=Nat.ble j p&&(List.range p).all fun c=>Nat.blt c j||(match l[c]? with | some o=>!aD o.op | none=>true)
def dL(l:List ak)(ms:List Nat)(j:Nat):List Nat:=
 match l[j]? with
 | some o=>bif cZ o.op then (List.range (l.length+1)).filter (fun p=>!ol l j p&&sS l ms j p) else []
 | none=>[]
theorem oC{es:List (List Nat)}{ms:List Nat}(h:fy es ms=true){m:Nat->Bool}(hm:∀j,j<es.length->m j=true->∀e∈es.getD j [],m e=true) :
  ∀j,j<es.length->(∀e∈es.getD j [],m e=true)->∀i,i<j->iF ms j i=true->m i=true:=by
 intro j
 induction j using Nat.strongRecOn with
 | _ j ih=>
  intro hj hr i hi hb
  unfold fy at h
  rw[List.all_eq_true]at h
  have h1:=h j (List.mem_range.2 hj)
  simp only[Pu,List.all_eq_true,List.mem_range,Bool.or_eq_true,Bool.not_eq_true',List.any_eq_true]at h1
  obtain⟨h2,h3⟩:=h1
  rcases h3 i hi with h4 | ⟨e,he,h5⟩
  ·rw[hb]at h4; simp at h4
  ·have hej:e<j:=Px (h2 e he)
   rcases h5 with h5 | ⟨h5,h6⟩
   ·rw[<- nb h5]; exact hr e he
   ·exact ih e hej om (hm e om (hr e he)) i (Px h5) h6
section
variable (P:Program)
def dd(n:Nat):Option Nat->Bool
 | none=>true
 | some d=>Nat.blt d n
def gK(n:Nat)(ops:Array Oper):Option (Nat×Bool)->Option (Option (Nat×Bool))
 | none=>some none
 | some (j,b)=>match (ops[j]?).bind (·.dst) with
  | some d=>bif Nat.blt d n&&Nat.blt d SK then some (some (d,b)) else none
  | none=>none
def dC(n:Nat)(ops:Array Oper)(o:Oper):Option ak:=
 match tM P o.op,gK n ops o.guard with
 | some a,some g=>bif dd n o.dst then some ⟨o.dst,a,g⟩ else none
 | _,_=>none
def cA(n:Nat)(ops:Array Oper):List Oper->Option (List ak)
 | []=>some []
 | o::r=>match dC P n ops o,cA n ops r with
  | some a,some l=>some (a::l)
  | _,_=>none
end
section
variable {P:Program} {Prot:Gh} {w0:World} {ρ:Pl} {H H':ae} {w:World}
theorem bu{n:Nat}{T:Tr af}{a:Act}(h:aJ ρ n T a.tmps){dst:Option Nat}(hd:dd n dst=true){x:af}{v:Value}(hx:ag ρ x v):aJ ρ n (aO T dst x) (a.put dst v).tmps:=by
 cases dst with
 | none=>exact h
 | some d=>
  have hd:d<n:=Px hd
  refine⟨by simp[Act.put,h.size],fun t=>?_⟩
  simp only[aO,ev,Tr.get_set,Act.put]
  by_cases e:t=d
  ·subst e
   rw[if_pos rfl]
   have:t<a.tmps.size:=by rw[h.size]; exact hd
   simpa[this] using hx
  ·rw[if_neg e]
   have:=h.at_ t
   simp only[ev]at this
   rw[Array.getD_eq_getD_getElem?,Array.getElem?_setIfInBounds_ne (fun q=>e q.symm),<- Array.getD_eq_getD_getElem?]
   exact this
theorem dG:ag ρ aN undef:=by simp only[aN,ag,undef]; exact⟨#[],rfl,by simp[ah]⟩
theorem Ja{x:af}{b:Bool}(h:ag ρ x (.bool b)):x=.bool b:=by
 cases x with
 | bool c=>simp only[ag,Value.bool.injEq]at h; rw[h]
 | ptr a=>cases a <;> simp[ag]at h
 | slice a n r=>cases a with
  | none=>simp[ag]at h
  | some a=>
   simp only[ag]at h
   obtain⟨L,_,_,h⟩:=h
   cases r <;> simp[bL]at h
 | map a=>cases a <;> simp[ag]at h
 | val x=>simp only[ag]at h; obtain⟨rfl,h⟩:=h; simp[Mg]at h
 | _=>simp[ag]at h
theorem eU{n:Nat}{T:Tr af}{a:Act}(h:aJ ρ n T a.tmps){ops:Array Oper}{o:Oper}{g:Option (Nat×Bool)}(hg:gK n ops o.guard=some g):Region.wanted o (yielded ops a.tmps)=fR T g:=by
 unfold Region.wanted
 cases ho:o.guard with
 | none=>rw[ho]at hg; simp only[gK,sJ]at hg; subst hg; rfl
 | some jb=>
  obtain⟨j,b⟩:=jb
  rw[ho]at hg
  simp only[gK]at hg
  split at hg
  ·rename_i d hd
   cases hb:Nat.blt d n&&Nat.blt d SK with
   | false=>rw[hb]at hg; simp at hg
   | true=>
    rw[hb]at hg
    simp only[Pu]at hb
    simp only[cond_true,sJ]at hg
    subst hg
    have hlt:d<a.tmps.size:=by rw[h.size]; exact Px hb.1
    obtain⟨k1,k2⟩:=MN hb.2
    have hat:=h.at_ d
    simp only[yielded,hd,Option.bind_some,fR,gV,k1,k2,cond_false]
    rw[Array.getElem?_eq_getElem hlt]
    have e:a.tmps.getD d undef=a.tmps[d]:=by simp[hlt]
    rw[e]at hat
    cases hv:a.tmps[d] with
    | bool c=>
     rw[hv]at hat
     rw[Ja hat]
     cases b <;> cases c <;> rfl
    | _=>
     rw[hv]at hat
     cases hT:ev T (.t d) with
     | bool c=>rw[hT]at hat; simp[ag]at hat
     | _=>rfl
  ·simp at hg
def gR(P:Program)(call:FuncId->List af->ae->Option (af×ae)):Prop:=
 ∀f args H v H',Nat.blt f bO=true->call f args H=some (v,H')->∀Prot w0 ρ w (vs:Array Value),Rel Prot w0 ρ H w->ah ρ args vs.toList ->
  Calls P f vs w fun e w'=>∃ρ' u,ρ.le ρ'/\e=.returned u/\Rel Prot w0 ρ' H' w'/\ag ρ' v u
end
theorem p6{P:Program}{n:Nat}{ops:Array Oper}:∀{rest:List Oper} {l:List ak},cA P n ops rest=some l->l.length=rest.length/\∀(j:Nat) (o:Oper),rest[j]?=some o->∃a,l[j]?=some a/\dC P n ops o=some a:=by
 intro rest
 induction rest with
 | nil=>intro l h; simp only[cA,sJ]at h; subst h; exact⟨rfl,fun j o h=>by simp at h⟩
 | cons o r ih=>
  intro l h
  simp only[cA]at h
  split at h
  ·rename_i a l' h1 h2
   simp only[sJ]at h
   subst h
   obtain⟨q1,q2⟩:=ih h2
   refine⟨by simp[q1],fun j o' hj=>?_⟩
   cases j with
   | zero=>simp only[PA,sJ]at hj; subst hj; exact⟨a,rfl,h1⟩
   | succ j=>simpa using q2 j o' (by simpa using hj)
  ·simp at h
theorem dt(m:Nat->Bool):∀(l:List ak) (k:Nat),k<=aA m k l/\aA m k l<=k+l.length/\(∀c o,l[c]?=some o->aD o.op=true->k+c<aA m k l->m (k+c)=true) /\
  (∀o,aA m k l<k+l.length->l[aA m k l-k]?=some o->aD o.op=true/\m (aA m k l)=false):=by
 intro l
 induction l with
 | nil=>intro k; exact⟨Nat.le_refl _,Nat.le_refl _,fun c o h=>by simp at h,fun o h=>by simp[aA]at h⟩
 | cons o r ih=>
  intro k
  simp only[aA]
  cases hb:(aD o.op&&!m k) with
  | true=>
   simp only[cond_true,Pu,Bool.not_eq_true']at hb ⊢
   refine⟨Nat.le_refl _,by simp,fun c o' _ _ h=>om,fun o' _ h=>?_⟩
   simp only[Nat.sub_self,PA,sJ]at h
   subst h
   exact hb
  | false=>
   simp only[cond_false]
   obtain⟨h1,h2,h3,h4⟩:=ih (k+1)
   refine⟨om,by simp only[Pv]; omega,fun c o' hc hch hlt=>?_,fun o' hlt ho=>?_⟩
   ·cases c with
    | zero=>
     simp only[PA,sJ]at hc
     subst hc
     rw[hch]at hb
     simpa using hb
    | succ c=>
     rw[show k+(c+1)=k+1+c by omega]
     exact h3 c o' (by simpa using hc) hch om
   ·simp only[Pv]at hlt
    refine h4 o' om ?_
    rw[show aA m (k+1) r-k=(aA m (k+1) r-(k+1))+1 by omega]at ho
    simpa using ho
end Go.Abs
namespace Go.Abs
def dR:gT->Option (List af×Option (Nat×Nat))
 | .new z=>some (z,none)
 | .mkSlice by_ z (.c l) (.c c)=>match eq l,eq c with
  | some l,some c=>bif Nat.ble l c&&Nat.ble (by_*c) 281474976710656 then some (me z c,some (l,c)) else none
  | _,_=>none
 | _=>none
def aB:Nat->List ak->List ak
 | _,[]=>[]
 | b,o::r=>match dR o.op with
  | some (z,s)=>⟨o.dst,.claim b z s,o.guard⟩::aB (b+1) r
  | none=>o::aB b r
def bT:ae->List ak->ae
 | H,[]=>H
 | H,o::r=>match dR o.op with
  | some (z,_)=>bT (H.push (.cells z 0 false)) r
  | none=>bT H r
structure ri(a b:ak):Prop where
 dst:a.dst=b.dst
 chain:aD a.op=aD b.op
 load:cZ a.op=cZ b.op
 reads:iB a=iB b
theorem ri.refl(a:ak):ri a a:=⟨rfl,rfl,rfl,rfl⟩
structure od(l m:List ak):Prop where
 len:l.length=m.length
 at_:∀(i:Nat) (a:ak),l[i]?=some a->∃b,m[i]?=some b/\ri a b
theorem od.cons{a b:ak}{l m:List ak}(h:ri a b)(k:od l m):od (a::l) (b::m):=by
 refine⟨by simp[k.len],fun i x hx=>?_⟩
 cases i with
 | zero=>simp at hx; subst hx; exact⟨b,by simp,h⟩
 | succ i=>simp at hx; simpa using k.at_ i x hx
theorem ik:∀(l:List ak) (b c:Nat),od (aB b l) (aB c l)
 | [],b,c=>⟨rfl,fun i a h=>by simp[aB]at h⟩
 | o::r,b,c=>by
  simp only[aB]
  cases dR o.op with
  | none=>exact od.cons (ri.refl _) (ik r _ _)
  | some p=>
   obtain⟨z,s⟩:=p
   exact od.cons ⟨rfl,rfl,rfl,rfl⟩ (ik r _ _)
theorem od.none{l m:List ak}(h:od l m){i:Nat}(hi:l[i]?=none):m[i]?=none:=by
 rw[List.getElem?_eq_none_iff]at hi ⊢
 rw[<- h.len]; exact hi
theorem wE{ms:List Nat}{i j:Nat}{a b a' b':ak}(h:ri a a')(k:ri b b'):fw ms i j a b=fw ms i j a' b':=by
 unfold fw uZ
 rw[h.chain,k.chain,h.dst,k.dst,h.reads,k.reads]
theorem my{l m:List ak}(h:od l m)(ms:List Nat):dJ l ms=dJ m ms:=by
 unfold dJ
 rw[h.len]
 congr 1
 funext j
 cases hj:l[j]? with
 | none=>rw[h.none hj]
 | some b=>
  obtain⟨b',hb',kb⟩:=h.at_ j b hj
  rw[hb']
  simp only
  congr 1
  funext i
  cases hi:l[i]? with
  | none=>rw[h.none hi]
  | some a=>
   obtain⟨a',ha',ka⟩:=h.at_ i a hi
   rw[ha']
   simp only
   exact wE ka kb
theorem uQ{l m:List ak}(h:od l m)(p:Nat):kH l p=kH m p:=by
 unfold kH
 cases hj:l[p]? with
 | none=>rw[h.none hj,h.len]
 | some b=>
  obtain⟨b',hb',kb⟩:=h.at_ p b hj
  rw[hb']
  exact kb.chain
theorem zA{l m:List ak}(h:od l m)(ms:List Nat)(j p:Nat):sS l ms j p=sS m ms j p:=by
 unfold sS
 rw[uQ h,h.len]
 congr 2
 funext c
 cases hj:l[c]? with
 | none=>rw[h.none hj]
 | some b=>
  obtain⟨b',hb',kb⟩:=h.at_ c b hj
  rw[hb']
  simp only[kb.chain]
theorem yM{l m:List ak}(h:od l m)(j p:Nat):ol l j p=ol m j p:=by
 unfold ol
 congr 2
 funext c
 cases hj:l[c]? with
 | none=>rw[h.none hj]
 | some b=>
  obtain⟨b',hb',kb⟩:=h.at_ c b hj
  rw[hb']
  simp only[kb.chain]
theorem qD{l m:List ak}(h:od l m)(ms:List Nat)(j:Nat):dL l ms j=dL m ms j:=by
 unfold dL
 cases hj:l[j]? with
 | none=>rw[h.none hj]
 | some b=>
  obtain⟨b',hb',kb⟩:=h.at_ j b hj
  rw[hb']
  simp only[kb.load,h.len]
  congr 1
  congr 1
  funext p
  rw[yM h,zA h]
theorem vf{P:Program}{c:Call}{z:List af}(h:ja P c=some (.new z)):False:=by
 unfold ja at h
 repeat' split at h
 all_goals first
  | (simp at h; done)
  | (cases hb:(Nat.beq _ _&&lD P _) <;> simp[hb]at h; done)
  | skip
 all_goals (revert h; intro h; simp only[cond_eq_ite]at h; split at h <;> simp at h)
theorem vj{P:Program}{o:Op}{z:List af}(h:nS P o=some (.new z)):False:=by
 unfold nS at h
 repeat' split at h
 all_goals first
  | (simp at h; done)
  | (simp only[cond_eq_ite]at h; split at h <;> first | (simp at h; done) | (split at h <;> simp at h))
theorem KP{P:Program}{o:Op}{z:List af}(h:tM P o=some (.new z)):∃e,o=.alloc e/\cB P e=some z:=by
 unfold tM at h
 split at h
 ·rename_i a ha
  simp only[sJ]at h
  subst h
  exact (vj ha).elim
 ·split at h
  ·rename_i a ha
   simp only[sJ]at h
   subst h
   cases o <;> simp only[xJ,reduceCtorEq]at ha
   case alloc e _=>
    split at ha
    ·rename_i z' hz
     simp only[sJ,gT.new.injEq]at ha
     subst ha
     exact⟨e,rfl,hz⟩
    ·simp at ha
   case call c=>exact (vf ha).elim
   all_goals
    exfalso
    repeat' split at ha
    all_goals first
     | (simp at ha; done)
     | (simp only[cond_eq_ite]at ha; split at ha <;> simp at ha)
  ·simp at h
theorem xG{P:Program}{c:Call}{b:Nat}{z:List af}{x y:bb}(h:ja P c=some (.mkSlice b z x y)):False:=by
 unfold ja at h
 repeat' split at h
 all_goals first
  | (simp at h; done)
  | (cases hb:(Nat.beq _ _&&lD P _) <;> simp[hb]at h; done)
  | skip
 all_goals (revert h; intro h; simp only[cond_eq_ite]at h; split at h <;> simp at h)
theorem xI{P:Program}{o:Op}{b:Nat}{z:List af}{x y:bb}(h:nS P o=some (.mkSlice b z x y)):False:=by
 unfold nS at h
 repeat' split at h
 all_goals first
  | (simp at h; done)
  | (simp only[cond_eq_ite]at h; split at h <;> first | (simp at h; done) | (split at h <;> simp at h))
theorem MJ{P:Program}{o:Op}{b:Nat}{z:List af}{x y:bb}(h:tM P o=some (.mkSlice b z x y)) :
  ∃t l c e m,o=.makeSlice t l c/\P.underlying t=some (.slice e)/\nO P e=some (m,b)/\cB P e=some z/\bI l=some x/\bI c=some y:=by
 unfold tM at h
 split at h
 ·rename_i a ha
  simp only[sJ]at h
  subst h
  exact (xI ha).elim
 ·split at h
  ·rename_i a ha
   simp only[sJ]at h
   subst h
   cases o <;> simp only[xJ,reduceCtorEq]at ha
   case makeSlice t l c _=>
    split at ha
    ·rename_i e hu
     split at ha
     ·rename_i m b' z' l' c' h1 h2 h3 h4
      simp only[sJ,gT.mkSlice.injEq]at ha
      obtain⟨rfl,rfl,rfl,rfl⟩:=ha
      exact⟨t,l,c,e,m,rfl,hu,h1,h2,h3,h4⟩
     ·simp at ha
    ·simp at ha
   case call c=>exact (xG ha).elim
   all_goals
    exfalso
    repeat' split at ha
    all_goals first
     | (simp at ha; done)
     | (simp only[cond_eq_ite]at ha; split at ha <;> simp at ha)
  ·simp at h
def vB(P:Program)(o:Op)(z:List af)(s:Option (Nat×Nat)):Prop:=
 (∃e,o=.alloc e/\cB P e=some z/\s=none) ∨
 ∃t l c e m by_ z0 x y ln cn,o=.makeSlice t l c/\P.underlying t=some (.slice e)/\nO P e=some (m,by_)/\cB P e=some z0/\bI l=some (.c x)/\bI c=some (.c y) /\
  eq x=some ln/\eq y=some cn/\(ln<=cn/\by_*cn<=281474976710656)/\z=me z0 cn/\s=some (ln,cn)
theorem FE{P:Program}{o:Op}{a:gT}{z:List af}{s:Option (Nat×Nat)}(h:tM P o=some a)(hn:dR a=some (z,s)):vB P o z s:=by
 unfold dR at hn
 split at hn
 ·simp only[sJ,pJ]at hn
  obtain⟨rfl,rfl⟩:=hn
  obtain⟨e,he,hz⟩:=KP h
  exact .inl ⟨e,he,hz,rfl⟩
 ·rename_i by_ z0 x y
  obtain⟨t,l,c,e,m,h1,h2,h3,h4,h5,h6⟩:=MJ h
  split at hn
  ·rename_i ln cn hl hc
   cases hb:(Nat.ble ln cn&&Nat.ble (by_*cn) 281474976710656) with
   | false=>rw[hb]at hn; simp at hn
   | true=>
    rw[hb]at hn
    simp only[cond_true,sJ,pJ]at hn
    obtain⟨rfl,rfl⟩:=hn
    simp only[Pu,Nat.ble_eq]at hb
    exact .inr ⟨t,l,c,e,m,by_,z0,x,y,ln,cn,h1,h2,h3,h4,h5,h6,hl,hc,hb,rfl,rfl⟩
  ·simp at hn
 ·simp at hn
def DR(P:Program)(n:Nat)(ops:Array Oper)(o:Oper)(a:ak)(b:Nat):Prop:=
 ∃z s g,vB P o.op z s/\gK n ops o.guard=some g/\dd n o.dst=true/\a=⟨o.dst,.claim b z s,g⟩
theorem kN{P:Program}{n:Nat}{ops:Array Oper}:∀{rest:List Oper} {l:List ak},cA P n ops rest=some l->∀b,(aB b l).length=rest.length /\
  ∀(j:Nat) (o:Oper),rest[j]?=some o->∃a,(aB b l)[j]?=some a/\(dC P n ops o=some a∨∃c,b<=c/\DR P n ops o a c):=by
 intro rest
 induction rest with
 | nil=>intro l h b; simp only[cA,sJ]at h; subst h; exact⟨rfl,fun j o h=>by simp at h⟩
 | cons o r ih=>
  intro l h b
  simp only[cA]at h
  split at h
  ·rename_i a l' ha hl'
   simp only[sJ]at h
   subst h
   have key:∀(x:ak) (b':Nat),b<=b'->(dC P n ops o=some x∨∃c,b<=c/\DR P n ops o x c)->aB b (a::l')=x::aB b' l' ->
     (aB b (a::l')).length=(o::r).length/\∀(j:Nat) (o':Oper),(o::r)[j]?=some o'->∃a',(aB b (a::l'))[j]?=some a'/\(dC P n ops o'=some a'∨∃c,b<=c/\DR P n ops o' a' c):=by
    intro x b' hb hx he
    rw[he]
    obtain⟨i1,i2⟩:=ih hl' b'
    refine⟨by simp[i1],fun j o' hj=>?_⟩
    cases j with
    | zero=>simp at hj; subst hj; exact⟨x,by simp,hx⟩
    | succ j=>
     simp at hj
     obtain⟨a',h1,h2⟩:=i2 j o' hj
     refine⟨a',by simpa using h1,?_⟩
     rcases h2 with h2 | ⟨c,h2,h3⟩
     ·exact .inl h2
     ·exact .inr ⟨c,om,h3⟩
   cases hop:dR a.op with
   | some p=>
    obtain⟨z,s⟩:=p
    refine key ⟨a.dst,.claim b z s,a.guard⟩ (b+1) om ?_ (by simp only[aB,hop])
    unfold dC at ha
    split at ha
    ·rename_i ax g hopc hg
     cases hdst:dd n o.dst with
     | false=>rw[hdst]at ha; simp at ha
     | true=>
      rw[hdst]at ha
      simp only[cond_true,sJ]at ha
      subst ha
      exact .inr ⟨b,Nat.le_refl _,z,s,g,FE hopc hop,hg,hdst,rfl⟩
    ·simp at ha
   | none=>exact key a b rL (.inl ha) (by simp only[aB,hop])
  ·simp at h
end Go.Abs
