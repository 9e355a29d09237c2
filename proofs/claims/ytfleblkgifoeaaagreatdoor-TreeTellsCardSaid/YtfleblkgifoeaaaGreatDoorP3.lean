/- Part of a proof (A9 A10 D1 D2 D3 D3b); no condition. -/
import Derived.Orders
import Derived.Test.YtfleblkgifoeaaaGreatDoorP2
set_option linter.unusedSimpArgs false
set_option linter.unusedVariables false
set_option linter.unnecessarySimpa false
namespace Go.Abs
def cA:Nat:=1024
inductive bu where
 | t (i:Nat)
 | c (v:ab)
 | f (id:FuncId)
inductive jv where
 | mv (x:bu)
 | pick (c a b:bu)
 | new (zero:List ab)
 | box (x:bu)
 | build (zero:List ab) (parts:List (Nat×Nat×bu))
 | buildSl (len:Nat) (zero:List ab) (parts:List (Nat×Nat×bu))
 | load (agg:Bool) (size:Nat) (x:bu)
 | store (size:Nat) (a x:bu)
 | nilChk (x:bu)
 | bin (op:BinOp) (x y:bu)
 | un (op:UnOp) (x:bu)
 | conv (k:IntKind) (x:bu)
 | convSB (x:bu)
 | convBS (x:bu)
 | mkFunc (fn:Fn) (first captured:List bu)
 | mkIface (t:TypeId) (x:bu)
 | mkSlice (bytes:Nat) (zero:List ab) (l c:bu)
 | sl (size:Nat) (x:bu) (lo hi mx:Option bu)
 | slStr (x:bu) (lo hi:Option bu)
 | fieldA (off:Nat) (x:bu)
 | field (agg:Bool) (size off:Nat) (x:bu)
 | idxA (size:Nat) (x i:bu)
 | idxArr (n size:Nat) (x i:bu)
 | idx (n size:Nat) (agg:Bool) (x i:bu)
 | idxS (x i:bu)
 | extract (i:Nat) (x:bu)
 | append (size bytes:Nat) (s x:bu)
 | len (str:Bool) (x:bu)
 | call (f:FuncId) (args:List bu)
 | callv (f:bu) (args:List bu)
 | pf (f:PF) (xs:List bu)
 | hf (f:HF) (xs:List bu)
 | bad
 | claim (b:Nat) (zero:List ab) (s:Option (Nat×Nat))
 | slA (n size:Nat) (x:bu) (lo hi mx:Option bu)
inductive Nx where
 | val (v:ab)
 | enter (f:FuncId) (args:List ab)
def aX:ab:=.tuple []
def ev(T:Tr ab):bu->ab
 | .t i=>match T.get i with
  | some v=>v
  | none=>aX
 | .c v=>v
 | .f id=>.func (.func id) [] []
def gA(T:Tr ab):List bu->List ab
 | []=>[]
 | x::r=>ev T x::gA T r
def yK(T:Tr ab):Option bu->Option ab
 | none=>none
 | some x=>some (ev T x)
def z8(T:Tr ab):List (Nat×Nat×bu)->List (Nat×Nat×ab)
 | []=>[]
 | (o,n,x)::r=>(o,n,ev T x)::z8 T r
def vv(H:aa):Option ab->Option (Nx×aa)
 | some v=>some (.val v,H)
 | none=>none
def vh:Option (ab×aa)->Option (Nx×aa)
 | some (v,H)=>some (.val v,H)
 | none=>none
def cL:ab->Option ab
 | .ptr none=>none
 | .nilIface=>none
 | .nilFunc=>none
 | .func (.method _) _ _=>none
 | .val _=>none
 | x=>some x
def gv(str:Bool):ab->Option ab
 | .str s=>bif str then some (.int .i64 s.length) else none
 | .slice _ n _=>bif str then none else some (.int .i64 n)
 | .val (.slice _ n _)=>bif str then none else some (.int .i64 n)
 | _=>none
def ct(tb:FuncId->Bool)(T:Tr ab)(H:aa):jv->Option (Nx×aa)
 | .mv x=>some (.val (ev T x),H)
 | .pick c a b=>match ev T c with
  | .bool b'=>some (.val (bif b' then ev T a else ev T b),H)
  | _=>none
 | .new z=>vh (some (go H z))
 | .box x=>vh (some (go H (ev T x).cells))
 | .build z ps=>vv H (bB z (z8 T ps))
 | .buildSl n z ps=>vh (cD n z H (z8 T ps))
 | .load a n x=>vv H (am a n H (ev T x))
 | .store n a x=>match a8 n H (ev T a) (ev T x) with
  | some H'=>some (.val aX,H')
  | none=>none
 | .nilChk x=>vv H (cL (ev T x))
 | .bin op x y=>vv H (be op (ev T x) (ev T y))
 | .un op x=>vv H (J8 op (ev T x))
 | .conv k x=>vv H (qJ k (ev T x))
 | .convSB x=>vh (MW H (ev T x))
 | .convBS x=>vv H (EQ H (ev T x))
 | .mkFunc fn a b=>some (.val (.func fn (gA T a) (gA T b)),H)
 | .mkIface t x=>some (.val (.iface t (ev T x)),H)
 | .mkSlice b z l c=>vh (qI b z H (ev T l) (ev T c))
 | .sl n x lo hi mx=>vv H (MV n (ev T x) (yK T lo) (yK T hi) (yK T mx))
 | .slStr x lo hi=>vv H (dT (ev T x) (yK T lo) (yK T hi))
 | .fieldA o x=>vv H (iG o (ev T x))
 | .field a n o x=>vv H (m0 a n o (ev T x))
 | .idxA n x i=>vv H (eH n (ev T x) (ev T i))
 | .idxArr m n x i=>vv H (jJ m n (ev T x) (ev T i))
 | .idx m n a x i=>vv H (BL m n a (ev T x) (ev T i))
 | .idxS x i=>vv H (kr (ev T x) (ev T i))
 | .extract i x=>vv H (fH i (ev T x))
 | .append n b s x=>vh (bJ n b H (ev T s) (ev T x))
 | .len s x=>vv H (gv s (ev T x))
 | .call f args=>bif tb f then some (.enter f (gA T args),H) else none
 | .callv f args=>match ev T f with
  | .func (.func f) a b=>bif Nat.blt f cA&&tb f then some (.enter f (a++gA T args++b),H) else none
  | _=>none
 | .pf f xs=>vv H (jt f (gA T xs))
 | .hf f xs=>vh (Dq f H (gA T xs))
 | .bad=>none
 | .claim b z s=>vv H (fT H b z s)
 | .slA m n x lo hi mx=>vv H (mC m n (ev T x) (yK T lo) (yK T hi) (yK T mx))
section
variable (P:Program)
def ck:Operand->Option bu
 | .tmp t=>some (.t t)
 | .const v=>match J6 v with
  | some x=>some (.c x)
  | none=>none
 | .global _=>none
 | .func f=>some (.f f)
def dN:List Operand->Option (List bu)
 | []=>some []
 | x::r=>match ck x,dN r with
  | some y,some l=>some (y::l)
  | _,_=>none
def nu:Option Operand->Option (Option bu)
 | none=>some none
 | some x=>match ck x with
  | some y=>some (some y)
  | none=>none
def mt(place:Nat->Option (Nat×Nat)):List (Nat×Operand)->Option (List (Nat×Nat×bu))
 | []=>some []
 | (i,x)::r=>match place i,ck x,mt place r with
  | some (o,n),some y,some l=>some ((o,n,y)::l)
  | _,_,_=>none
def bX(f:FuncId):Bool:=
 Nat.blt f cA&&match P.funcs[f]? with
 | some fn => fn.body.isSome && !(fn.name == "runtime.NumGoroutine")
 | none=>false
def nQ(t:TypeId):Bool:=
 match P.underlying t with
 | some (.slice _)=>true
 | some .string=>true
 | _=>false
def kf(c:Call):Option jv:=
 match c.callee with
 | .value (.func f)=>bif Nat.blt f cA then match dN c.args.toList with
   | some l=>some (.call f l)
   | none=>none
  else none
 | .value x=>match ck x,dN c.args.toList with
  | some y,some l=>some (.callv y l)
  | _,_=>none
 | .builtin .append=>match c.argTypes.toList,dN c.args.toList with
  | [sT,xT],some [s,x]=>match P.underlying sT with
   | some (.slice e)=>match ge P e,pU P e with
    | some (_,n),some (n',b)=>bif Nat.beq n n'&&nQ P xT then some (.append n b s x) else none
    | _,_=>none
   | _=>none
  | _,_=>none
 | .builtin .len=>match c.argTypes.toList,dN c.args.toList with
  | [T],some [x]=>match P.underlying T with
   | some (.slice _)=>some (.len false x)
   | some .string=>some (.len true x)
   | _=>none
  | _,_=>none
 | _=>none
def yY(o:Op):Option jv:=
 match o with
 | .move x=>match ck x with | some y=>some (.mv y) | none=>none
 | .assign x=>match ck x with | some y=>some (.mv y) | none=>none
 | .pick c a b=>match ck c,ck a,ck b with | some c,some a,some b=>some (.pick c a b) | _,_,_=>none
 | .alloc e=>match dF P e with | some z=>some (.new z) | none=>none
 | .box _ x=>match ck x with | some y=>some (.box y) | none=>none
 | .build t ps=>match P.underlying t,dF P t with
  | some (.struct fs),some z=>match jZ P fs.toList with
   | some pl=>match mt (fun i=>pl[i]?) ps.toList with
    | some l=>some (.build z l)
    | none=>none
   | none=>none
  | some (.array _ e),some z=>match ge P e with
   | some (_,n)=>match mt (fun i=>some (i*n,n)) ps.toList with
    | some l=>some (.build z l)
    | none=>none
   | none=>none
  | _,_=>none
 | .buildSlice t len ps=>match P.underlying t with
  | some (.slice e)=>match ge P e,dF P e with
   | some (_,n),some z=>match mt (fun i=>some (i*n,n)) ps.toList with
    | some l=>bif Nat.beq z.length n&&Nat.ble (len*n) 16777216 then some (.buildSl len z l) else none
    | none=>none
   | _,_=>none
  | _=>none
 | .load t a=>match ge P t,ck a with | some (g,n),some y=>some (.load g n y) | _,_=>none
 | .store t a x=>match ge P t,ck a,ck x with | some (_,n),some a,some y=>some (.store n a y) | _,_,_=>none
 | .nilCheck x=>match ck x with | some y=>some (.nilChk y) | none=>none
 | .binOp op _ x y _=>match ck x,ck y with | some a,some b=>some (.bin op a b) | _,_=>none
 | .unOp op _ x=>match ck x with | some y=>some (.un op y) | none=>none
 | .convert s d x=>match ck x with
  | some y=>match P.underlying s,P.underlying d with
   | some _,some (.int k)=>some (.conv k y)
   | some .string,some (.slice e)=>match P.underlying e with
    | some (.int .u8)=>some (.convSB y)
    | _=>none
   | some (.slice e),some .string=>match P.underlying e with
    | some (.int .u8)=>some (.convBS y)
    | _=>none
   | _,_=>none
  | none=>none
 | .makeInterface t x=>match ck x,P.underlying t with
  | some _,some (.interface _)=>none
  | some y,some _=>some (.mkIface t y)
  | _,_=>none
 | .makeFunc fn a b=>match dN a.toList,dN b.toList with | some a,some b=>some (.mkFunc fn a b) | _,_=>none
 | .makeSlice t l c=>match P.underlying t with
  | some (.slice e)=>match pU P e,dF P e,ck l,ck c with
   | some (_,b),some z,some l,some c=>some (.mkSlice b z l c)
   | _,_,_,_=>none
  | _=>none
 | .slice t x lo hi mx=>match P.underlying t,ck x,nu lo,nu hi,nu mx with
  | some .string,some x,some lo,some hi,some none=>some (.slStr x lo hi)
  | some (.slice e),some x,some lo,some hi,some mx=>match ge P e with
   | some (_,n)=>some (.sl n x lo hi mx)
   | none=>none
  | _,_,_,_,_=>none
 | .fieldAddr s x i=>match P.underlying s,ck x with
  | some (.struct fs),some y=>match fs[i]? with
   | some f=>match ge P f.type with
    | some (_,n)=>bif Nat.beq n 0 then none else some (.fieldA f.offset y)
    | none=>none
   | none=>none
  | _,_=>none
 | .field s x i=>match P.underlying s,ck x with
  | some (.struct fs),some y=>match fs[i]? with
   | some f=>match ge P f.type with
    | some (g,n)=>some (.field g n f.offset y)
    | none=>none
   | none=>none
  | _,_=>none
 | .indexAddr t x i=>match P.underlying t,ck x,ck i with
  | some (.slice e),some x,some i=>match ge P e with
   | some (_,n)=>some (.idxA n x i)
   | none=>none
  | some (.array m e),some x,some i=>match ge P e with
   | some (_,n)=>some (.idxArr m n x i)
   | none=>none
  | _,_,_=>none
 | .index t x i=>match P.underlying t,ck x,ck i with
  | some .string,some x,some i=>some (.idxS x i)
  | some (.array m e),some x,some i=>match ge P e with
   | some (g,n)=>some (.idx m n g x i)
   | none=>none
  | _,_,_=>none
 | .extract x i=>match ck x with | some y=>some (.extract i y) | none=>none
 | .call c=>kf P c
 | _=>none
def pW(o:Op):Option jv:=
 match o with
 | .binOp .eql t x y _=>match ck x,ck y with
  | some a,some b=>match qF P t x y with
   | some k=>some (.pf (.eqv false k) [a,b])
   | none=>match wE P t with
    | some fs=>some (.pf (.eqS false fs) [a,b])
    | none=>none
  | _,_=>none
 | .binOp .neq t x y _=>match ck x,ck y with
  | some a,some b=>match qF P t x y with
   | some k=>some (.pf (.eqv true k) [a,b])
   | none=>match wE P t with
    | some fs=>some (.pf (.eqS true fs) [a,b])
    | none=>none
  | _,_=>none
 | .range t x=>match P.underlying t,ck x with
  | some .string,some y=>some (.hf .strRange [y])
  | _,_=>none
 | .next x true=>match ck x with
  | some y=>some (.hf .strNext [y])
  | none=>none
 | .slice t x lo hi mx=>match P.underlying t,ck x,nu lo,nu hi,nu mx with
  | some (.array m e),some x,some lo,some hi,some mx=>match ge P e with
   | some (_,n)=>some (.slA m n x lo hi mx)
   | none=>none
  | _,_,_,_,_=>none
 | .convert s d x=>bif Nat.beq s d then (match P.underlying s,ck x with
  | some (.slice e),some y=>match P.underlying e with
   | some (.int .u8)=>some (.hf .mark [y])
   | _=>none
  | _,_=>none) else none
 | .call c=>match c.callee with
  | .builtin .max=>match dN c.args.toList with
   | some l=>some (.pf (.mm true) l)
   | none=>none
  | .builtin .clear=>match c.argTypes.toList,dN c.args.toList with
   | [t],some [x]=>match P.underlying t with
    | some (.slice e)=>match dF P e with
     | some z=>some (.hf (.clr z) [x])
     | none=>none
    | _=>none
   | _,_=>none
  | .builtin .copy=>match c.argTypes.toList,dN c.args.toList with
   | [t,_],some [s,x]=>match P.underlying t with
    | some (.slice e)=>match ge P e with
     | some (_,n)=>some (.hf (.cpy n) [s,x])
     | none=>none
    | _=>none
   | _,_=>none
  | .builtin .min=>match dN c.args.toList with
   | some l=>some (.pf (.mm false) l)
   | none=>none
  | .value (.func f)=>bif Cx P f then match dN c.args.toList with
    | some l=>some (.pf .ibs l)
    | none=>none
   else bif Cy P f then match dN c.args.toList with
    | some l=>some (.pf .cbs l)
    | none=>none
   else none
  | _=>none
 | .indexAddr t (.global g) i=>match P.underlying t,ck i with
  | some (.array m e),some i=>match ge P e with
   | some (_,n)=>some (.hf (.gIdx g m n) [i])
   | none=>none
  | _,_=>none
 | .load t (.global g)=>match ge P t with
  | some (a,n)=>some (.hf (.gLd g a n) [])
  | none=>none
 | .fieldAddr s (.global g) i=>match P.underlying s with
  | some (.struct fs)=>match fs[i]? with
   | some f=>match ge P f.type with
    | some (_,n)=>bif Nat.beq n 0 then none else some (.hf (.gFld g f.offset) [])
    | none=>none
   | none=>none
  | _=>none
 | .sliceToArrayPointer t x=>match P.underlying t,ck x with
  | some (.array n _),some y=>some (.pf (.s2a n) [y])
  | _,_=>none
 | .makeMap _ none=>some (.hf .mkMap [])
 | .lookup t m k ok=>match P.underlying t,ck m,ck k with
  | some (.map kt el),some m,some k=>match sE P kt,rz P el with
   | some kc,some z=>some (.hf (.mLook kc ok z) [m,k])
   | _,_=>none
  | _,_,_=>none
 | .mapEntry t m k=>match P.underlying t,ck m,ck k with
  | some (.map kt el),some m,some k=>match sE P kt,rz P el with
   | some kc,some z=>some (.hf (.mf (.entry kc z)) [m,k])
   | _,_=>none
  | _,_,_=>none
 | .entryStore _ m n x=>match ck m,ck n,ck x with
  | some m,some n,some x=>some (.hf (.mf .store) [m,n,x])
  | _,_,_=>none
 | .mapUpdate t m k x=>match P.underlying t,ck m,ck k,ck x with
  | some (.map kt _),some m,some k,some x=>match sE P kt with
   | some kc=>some (.hf (.mf (.upd kc)) [m,k,x])
   | none=>none
  | _,_,_,_=>none
 | .insert t m k x=>match P.underlying t,ck m,ck k,ck x with
  | some (.map kt _),some m,some k,some x=>match sE P kt with
   | some kc=>some (.hf (.mf (.upd kc)) [m,k,x])
   | none=>none
  | _,_,_,_=>none
 | .typeAssert x _ t ok=>match P.underlying t,rz P t,ck x with
  | some (.interface _),_,_=>none
  | some _,some z,some y=>some (.pf (.tAss t ok z) [y])
  | _,_,_=>none
 | _=>none
def wP(o:Op):Option jv:=
 match pW P o with
 | some a=>some a
 | none=>match yY P o with
  | some a=>some a
  | none=>some .bad
end
section
variable {P:Program} {Prot:Gh} {w0:World} {ρ:Pl} {H H':aa} {w:World}
structure bx(ρ:Pl)(n:Nat)(T:Tr ab)(tmps:Array Value):Prop where
 size:tmps.size=n
 at_:∀t,ak ρ (ev T (.t t)) (tmps.getD t undef)
theorem bx.mono{ρ ρ':Pl}{n:Nat}{T:Tr ab}{tmps:Array Value}(h:ρ.le ρ')(t:bx ρ n T tmps):bx ρ' n T tmps:=⟨t.size,fun i=>ak.mono h _ _ (t.at_ i)⟩
theorem aH{n:Nat}{T:Tr ab}{a:Act}(h:bx ρ n T a.tmps){x:Operand}{y:bu}(hc:ck x=some y):ak ρ (ev T y) (a.eval x):=by
 cases x with
 | tmp t=>simp only[ck,sJ]at hc; subst hc; exact h.at_ t
 | const v=>
  simp only[ck]at hc
  split at hc
  ·rename_i x hx
   simp only[sJ]at hc
   subst hc
   exact Dp hx
  ·simp at hc
 | global g=>simp[ck]at hc
 | func f=>
  simp only[ck,sJ]at hc
  subst hc
  simp only[ev,Act.eval,ak]
  exact⟨#[],#[],rfl,by simp[ap],by simp[ap]⟩
theorem gY{n:Nat}{T:Tr ab}{a:Act}(h:bx ρ n T a.tmps):∀{l:List Operand} {m:List bu},dN l=some m->ap ρ (gA T m) (l.map a.eval):=by
 intro l
 induction l with
 | nil=>intro m hc; simp only[dN,sJ]at hc; subst hc; simp[gA,ap]
 | cons x r ih=>
  intro m hc
  simp only[dN]at hc
  split at hc
  ·rename_i y l' h1 h2
   simp only[sJ]at hc
   subst hc
   simp only[gA,List.map_cons,ap]
   exact⟨_,_,rfl,aH h h1,ih h2⟩
  ·simp at hc
theorem jy{n:Nat}{T:Tr ab}{a:Act}(h:bx ρ n T a.tmps){x:Option Operand}{y:Option bu}(hc:nu x=some y):gw ρ (yK T y) (x.map a.eval):=by
 cases x with
 | none=>simp only[nu,sJ]at hc; subst hc; rfl
 | some x=>
  simp only[nu]at hc
  split at hc
  ·rename_i z hz
   simp only[sJ]at hc
   subst hc
   exact⟨_,rfl,aH h hz⟩
  ·simp at hc
theorem oF{n:Nat}{T:Tr ab}{a:Act}(h:bx ρ n T a.tmps){place:Nat->Option (Nat×Nat)}:∀{l:List (Nat×Operand)} {m:List (Nat×Nat×bu)},mt place l=some m ->
  eV ρ place (z8 T m) (l.map fun p=>(p.1,a.eval p.2)):=by
 intro l
 induction l with
 | nil=>intro m hc; simp only[mt,sJ]at hc; subst hc; simp[z8,eV]
 | cons x r ih=>
  intro m hc
  obtain⟨i,x⟩:=x
  simp only[mt]at hc
  split at hc
  ·rename_i o k y l' h1 h2 h3
   simp only[sJ]at hc
   subst hc
   simp only[z8,List.map_cons,eV]
   exact⟨_,_,_,rfl,h1,aH h h2,ih h3⟩
  ·simp at hc
def kw(P:Program)(ρ:Pl):Nx->Next->Prop
 | .val x,.value v=>ak ρ x v
 | .val x,.skip=>ak ρ x undef
 | .enter f l,.enter g vs=>g=f/\Nat.blt f cA=true/\ap ρ l vs.toList
 | _,_=>False
def bt(P:Program)(Prot:Gh)(w0:World)(ρ:Pl)(w:World)(s:Sem Next)(nx:Nx)(H':aa):Prop:=
 ∃ρ' w' n,ρ.le ρ'/\s.run P w=.ok n w'/\cg Prot w0 ρ' H' w'/\kw P ρ' nx n
theorem bt.val(R:cg Prot w0 ρ H w){x:ab}{s:Sem Value}(h:∃u,s.run P w=.ok u w/\ak ρ x u):bt P Prot w0 ρ w (do pure (.value (<- s))) (.val x) H:=by
 obtain⟨u,h1,h2⟩:=h
 exact⟨ρ,w,.value u,Pl.le_refl _,by simp only[Sem.run_bind,h1,Result.andThen_ok]; rfl,R,h2⟩
theorem bt.good{x:ab}{s:Sem Value}(h:ey P Prot w0 ρ w s x H'):bt P Prot w0 ρ w (do pure (.value (<- s))) (.val x) H':=by
 obtain⟨ρ',w',u,h1,h2,h3,h4⟩:=h
 exact⟨ρ',w',.value u,h1,by simp only[Sem.run_bind,h2,Result.andThen_ok]; rfl,h3,h4⟩
theorem bN{x:Option ab}{nx:Nx}(h:vv H x=some (nx,H')):∃y,x=some y/\nx=.val y/\H'=H:=by
 unfold vv at h
 split at h
 ·simp only[sJ,pJ]at h; exact⟨_,rfl,h.1.symm,h.2.symm⟩
 ·simp at h
theorem cT{x:Option (ab×aa)}{nx:Nx}(h:vh x=some (nx,H')):∃y,x=some (y,H')/\nx=.val y:=by
 unfold vh at h
 split at h
 ·simp only[sJ,pJ]at h; obtain⟨rfl,rfl⟩:=h; exact⟨_,rfl,rfl⟩
 ·simp at h
theorem DY(R:cg Prot w0 ρ H w){x y:ab}{v:Value}(hx:ak ρ x v)(h:cL x=some y)(o:Oper){q:Operand}(ev':Operand->Value)(hv:ev' q=v) :
  bt P Prot w0 ρ w (execOp ev' { o with op:=.nilCheck q }) (.val y) H:=by
 have hy:y=x/\(∀b,execOp ev' { o with op:=.nilCheck q }=pure (.value v)∨b=true):=by
  cases x with
  | val a=>simp[cL]at h
  | ptr a=>
   cases a with
   | none=>simp[cL]at h
   | some a=>
    simp only[cL,sJ]at h
    simp only[ak]at hx
    obtain⟨L,_,_,rfl⟩:=hx
    exact⟨h.symm,fun _=>.inl (by simp[execOp,hv])⟩
  | nilIface=>simp[cL]at h
  | nilFunc=>simp[cL]at h
  | func fn a b=>
   cases fn <;> simp only[cL,sJ,reduceCtorEq]at h
   all_goals
    simp only[ak]at hx
    obtain⟨f,c,rfl,_⟩:=hx
    exact⟨h.symm,fun _=>.inl (by simp[execOp,hv])⟩
  | slice a n r=>
   simp only[cL,sJ]at h
   have:∃b m c,v=.slice b m c:=by
    cases a with
    | none=>simp only[ak]at hx; exact⟨_,_,_,hx.2.2⟩
    | some a=>obtain⟨_,_,_,_,_,h3,_⟩:=cV hx; exact⟨_,_,_,h3⟩
   obtain⟨b,m,c,rfl⟩:=this
   exact⟨h.symm,fun _=>.inl (by simp[execOp,hv])⟩
  | map a=>
   simp only[cL,sJ]at h
   cases a with
   | none=>simp only[ak]at hx; subst hx; exact⟨h.symm,fun _=>.inl (by simp[execOp,hv])⟩
   | some a=>simp only[ak]at hx; obtain⟨L,_,rfl⟩:=hx; exact⟨h.symm,fun _=>.inl (by simp[execOp,hv])⟩
  | bool b=>simp only[cL,sJ]at h; simp only[ak]at hx; subst hx; exact⟨h.symm,fun _=>.inl (by simp[execOp,hv])⟩
  | int b c=>simp only[cL,sJ]at h; simp only[ak]at hx; subst hx; exact⟨h.symm,fun _=>.inl (by simp[execOp,hv])⟩
  | str b=>simp only[cL,sJ]at h; simp only[ak]at hx; subst hx; exact⟨h.symm,fun _=>.inl (by simp[execOp,hv])⟩
  | iface t b=>simp only[cL,sJ]at h; simp only[ak]at hx; obtain⟨_,rfl,_⟩:=hx; exact⟨h.symm,fun _=>.inl (by simp[execOp,hv])⟩
  | agg l=>simp only[cL,sJ]at h; simp only[ak]at hx; obtain⟨_,rfl,_⟩:=hx; exact⟨h.symm,fun _=>.inl (by simp[execOp,hv])⟩
  | tuple l=>simp only[cL,sJ]at h; simp only[ak]at hx; obtain⟨_,rfl,_⟩:=hx; exact⟨h.symm,fun _=>.inl (by simp[execOp,hv])⟩
 obtain⟨rfl,h2⟩:=hy
 rcases h2 false with h2 | h2
 ·exact⟨ρ,w,.value v,Pl.le_refl _,by rw[h2]; rfl,R,hx⟩
 ·simp at h2
end
end Go.Abs
namespace Go.Abs
section
variable {P:Program} {Prot:Gh} {w0:World} {ρ:Pl} {H H':aa} {w:World}
theorem Bh{op:BinOp}{t:TypeId}{x y:Operand}{u v:Value}{p q r:ab}(hx:ak ρ p u)(hy:ak ρ q v)(h:be op p q=some r):(eqGuard op t x y u v).run P w=.ok () w:=by
 unfold be at h
 split at h
 ·simp only[ak]at hx hy
  subst hx hy
  cases op <;> rfl
 ·simp only[ak]at hx hy
  subst hx hy
  cases op <;> rfl
 ·simp at h
theorem EM{b:Bool}{v:Value}(h:ak ρ (.bool b) v):(asBool v).run P w=.ok b w:=by
 simp only[ak]at h; subst h; rfl
theorem fY{f:FuncId}(h:bX P f=true)(args:Array Value):(callFunc f args).run P w=.ok (.enter f args) w:=by
 unfold bX at h
 rw[QT]at h
 replace h:=h.2
 split at h
 ·rename_i fn hf
  simp only[QT,Bool.not_eq_true']at h
  have h1:fn.body.isNone=false:=by
   cases hb:fn.body with
   | none=>rw[hb]at h; simp at h
   | some b=>rfl
  simp only[callFunc,Sem.run_bind,run_program,Result.andThen_ok,hf,h.2,Q1,if_false,h1]
  rfl
 ·simp at h
theorem I5{t:TypeId}(h:nQ P t=true):IE P t:=by
 unfold nQ at h
 split at h
 ·rename_i e he; exact .inl ⟨e,he⟩
 ·rename_i he; exact .inr he
 ·simp at h
theorem BS{α:Type}{x y:α}{arr:Array α}(h:arr.toList=[x,y]):arr=#[x,y]:=Array.toList_inj.1 (by simpa using h)
theorem yb{x y:bu}{l:List Operand}(h:dN l=some [x,y]):∃p q,l=[p,q]/\ck p=some x/\ck q=some y:=by
 cases l with
 | nil=>simp[dN]at h
 | cons p l=>
  cases l with
  | nil=>
   simp only[dN]at h
   split at h
   ·rename_i a b h1 h2
    simp only[sJ,List.cons.injEq]at h h2
    rw[<- h2]at h
    simp at h
   ·simp at h
  | cons q l=>
   cases l with
   | nil=>
    simp only[dN]at h
    split at h
    ·rename_i a b h1 h2
     split at h2
     ·rename_i c d h3 h4
      simp only[sJ]at h4 h2
      subst h4
      subst h2
      simp only[sJ,List.cons.injEq,and_true]at h
      obtain⟨rfl,rfl⟩:=h
      exact⟨p,q,rfl,h1,h3⟩
     ·simp at h2
    ·simp at h
   | cons r l=>
    simp only[dN]at h
    split at h
    ·rename_i a b h1 h2
     split at h2
     ·rename_i c d h3 h4
      split at h4
      ·rename_i e f h5 h6
       simp only[sJ]at h4 h2
       subst h4
       subst h2
       simp at h
      ·simp at h4
     ·simp at h2
    ·simp at h
theorem yc{x:bu}{l:List Operand}(h:dN l=some [x]):∃p,l=[p]/\ck p=some x:=by
 cases l with
 | nil=>simp[dN]at h
 | cons p l=>
  cases l with
  | nil=>
   simp only[dN]at h
   split at h
   ·rename_i a b h1 h2
    simp only[sJ,List.cons.injEq]at h h2
    subst h2
    obtain⟨rfl,_⟩:=h
    exact⟨p,rfl,h1⟩
   ·simp at h
  | cons q l=>
   simp only[dN]at h
   split at h
   ·rename_i a b h1 h2
    split at h2
    ·rename_i c d h3 h4
     simp only[sJ]at h2
     subst h2
     simp at h
    ·simp at h2
   ·simp at h
theorem HL{tb:FuncId->Bool}(htb:∀f,Nat.blt f cA=true->tb f=true->bX P f=true)(R:cg Prot w0 ρ H w){n:Nat}{T:Tr ab}{a:Act}(ht:bx ρ n T a.tmps)(o:Oper)(c:Call){ao:jv}(hc:kf P c=some ao)
  {nx:Nx} (h:ct tb T H ao=some (nx,H')):bt P Prot w0 ρ w (execOp a.eval { o with op:=.call c }) nx H':=by
 obtain⟨callee,args,argTypes⟩:=c
 unfold kf at hc
 split at hc
 ·-- a function
  rename_i f heq
  simp only at heq
  subst heq
  cases hbig:Nat.blt f cA with
  | false=>rw[hbig]at hc; simp at hc
  | true=>
  rw[hbig]at hc
  simp only[cond_true]at hc
  split at hc
  ·rename_i l hl
   simp only[sJ]at hc
   subst hc
   simp only[ct]at h
   cases hb:tb f with
   | false=>rw[hb]at h; simp at h
   | true=>
    rw[hb]at h
    simp only[cond_true,sJ,pJ]at h
    obtain⟨rfl,rfl⟩:=h
    refine⟨ρ,w,.enter f (args.map a.eval),Pl.le_refl _,?_,R,rfl,hbig,?_⟩
    ·have:=fY (P:=P) (w:=w) (htb f hbig hb) (args.map a.eval)
     simp[execOp,resolve,Act.eval,Deferred.ofValue,invoke,this]
    ·simpa using gY ht hl
  ·simp at hc
 ·rename_i x _ heq
  simp only at heq
  subst heq
  split at hc
  ·rename_i y l hy hl
   simp only[sJ]at hc
   subst hc
   simp only[ct]at h
   split at h
   ·rename_i f fs cs hev
    cases hb':(Nat.blt f cA&&tb f) with
    | false=>rw[hb']at h; simp at h
    | true=>
     rw[hb']at h
     simp only[QT]at hb'
     obtain⟨hbig,hb⟩:=hb'
     simp only[cond_true,sJ,pJ]at h
     obtain⟨rfl,rfl⟩:=h
     have hv:=aH ht hy
     rw[hev]at hv
     simp only[ak]at hv
     obtain⟨fv,cv,hfv,h1,h2⟩:=hv
     refine⟨ρ,w,.enter f (fv++args.map a.eval++cv),Pl.le_refl _,?_,R,rfl,hbig,?_⟩
     ·have:=fY (P:=P) (w:=w) (htb f hbig hb) (fv++args.map a.eval++cv)
      simp only[Array.append_assoc]at this
      simp[execOp,resolve,hfv,Deferred.ofValue,invoke,this]
     ·simpa using ap.append (ap.append h1 (gY ht hl)) h2
   ·simp at h
  ·simp at hc
 ·-- append
  rename_i heq
  simp only at heq
  subst heq
  split at hc
  ·rename_i sT xT s x hT hO
   simp only at hT hO
   obtain⟨p,q,hpq,hp,hq⟩:=yb hO
   have ha:=BS hT
   have hb:=BS hpq
   subst ha hb
   split at hc
   ·rename_i e he
    split at hc
    ·rename_i g m m' b h1 h2
     cases hg:(Nat.beq m m'&&nQ P xT) with
     | false=>rw[hg]at hc; simp at hc
     | true=>
      rw[hg]at hc
      simp only[QT]at hg
      simp only[cond_true,sJ]at hc
      subst hc
      have:=QX hg.1
      subst this
      simp only[ct]at h
      obtain⟨y,hy,rfl⟩:=cT h
      have:=bt.good (EN (P:=P) (t:=o.type) R he (ek h1) (wF h2) (I5 hg.2) (aH ht hp) (aH ht hq) hy)
      simpa[execOp,resolve,invoke,builtin] using this
    ·simp at hc
   ·simp at hc
  ·simp at hc
 ·-- len
  rename_i heq
  simp only at heq
  subst heq
  split at hc
  ·rename_i T1 x hT hO
   simp only at hT hO
   obtain⟨p,hpq,hp⟩:=yc hO
   have ha:argTypes=#[T1]:=Array.toList_inj.1 (by simpa using hT)
   have hb:args=#[p]:=Array.toList_inj.1 (by simpa using hpq)
   subst ha hb
   split at hc
   ·rename_i e he
    simp only[sJ]at hc
    subst hc
    simp only[ct]at h
    obtain⟨y,hy,rfl,rfl⟩:=bN h
    have hx:=aH ht hp
    unfold gv at hy
    split at hy
    ·simp at hy
    ·rename_i a1 n1 r1 hev
     simp only[cond_false,sJ]at hy
     have:=bt.val R (AO (P:=P) (w:=w) (t:=o.type) (.inl ⟨e,he⟩) hx (by rw[hev]; simp only[BK,sJ]; exact hy) (.inr (.inl ⟨a1,n1,r1,e,hev,he⟩)))
     simpa[execOp,resolve,invoke,builtin] using this
    ·rename_i a1 n1 c1 hev
     simp only[cond_false,sJ]at hy
     have:=bt.val R (AO (P:=P) (w:=w) (t:=o.type) (.inl ⟨e,he⟩) hx (by rw[hev]; simp only[BK,sJ]; exact hy) (.inr (.inr ⟨a1,n1,c1,e,hev,he⟩)))
     simpa[execOp,resolve,invoke,builtin] using this
    ·simp at hy
   ·rename_i he
    simp only[sJ]at hc
    subst hc
    simp only[ct]at h
    obtain⟨y,hy,rfl,rfl⟩:=bN h
    have hx:=aH ht hp
    unfold gv at hy
    split at hy
    ·rename_i s1 hev
     simp only[cond_true,sJ]at hy
     have:=bt.val R (AO (P:=P) (w:=w) (t:=o.type) (.inr he) hx (by rw[hev]; simp only[BK,sJ]; exact hy) (.inl ⟨s1,hev,he⟩))
     simpa[execOp,resolve,invoke,builtin] using this
    ·simp at hy
    ·simp at hy
    ·simp at hy
   ·simp at hc
  ·simp at hc
 ·simp at hc
theorem Jk{tb:FuncId->Bool}(htb:∀f,Nat.blt f cA=true->tb f=true->bX P f=true)(R:cg Prot w0 ρ H w){n:Nat}{T:Tr ab}{a:Act}(ht:bx ρ n T a.tmps)(o:Oper){ao:jv}(hc:yY P o.op=some ao)
  {nx:Nx} (h:ct tb T H ao=some (nx,H')):bt P Prot w0 ρ w (execOp a.eval o) nx H':=by
 obtain⟨dst,op,type,pos,after,guard⟩:=o
 simp only at hc
 cases op <;> simp only[yY,reduceCtorEq]at hc
 case move x=>
  split at hc
  ·rename_i y hy
   simp only[sJ]at hc; subst hc
   simp only[ct,sJ,pJ]at h
   obtain⟨rfl,rfl⟩:=h
   exact⟨ρ,w,_,Pl.le_refl _,rfl,R,aH ht hy⟩
  ·simp at hc
 case assign x=>
  split at hc
  ·rename_i y hy
   simp only[sJ]at hc; subst hc
   simp only[ct,sJ,pJ]at h
   obtain⟨rfl,rfl⟩:=h
   exact⟨ρ,w,_,Pl.le_refl _,rfl,R,aH ht hy⟩
  ·simp at hc
 case pick c x y=>
  split at hc
  ·rename_i c' x' y' h1 h2 h3
   simp only[sJ]at hc; subst hc
   simp only[ct]at h
   split at h
   ·rename_i b hb
    simp only[sJ,pJ]at h
    obtain⟨rfl,rfl⟩:=h
    have hcv:=aH ht h1
    rw[hb]at hcv
    refine⟨ρ,w,.value (if b then a.eval x else a.eval y),Pl.le_refl _,?_,R,?_⟩
    ·simp only[execOp,Sem.run_bind,EM hcv,Result.andThen_ok]; rfl
    ·cases b
     ·exact aH ht h3
     ·exact aH ht h2
   ·simp at h
  ·simp at hc
 case alloc e=>
  split at hc
  ·rename_i z hz
   simp only[sJ]at hc; subst hc
   simp only[ct]at h
   obtain⟨y,hy,rfl⟩:=cT h
   simp only[sJ]at hy
   have:=bt.good (Iq (P:=P) R hz)
   rw[hy]at this
   exact this
  ·simp at hc
 case box e x=>
  split at hc
  ·rename_i y hy
   simp only[sJ]at hc; subst hc
   simp only[ct]at h
   obtain⟨z,hz,rfl⟩:=cT h
   simp only[sJ]at hz
   have:=bt.good (LL (P:=P) R e (aH ht hy))
   rw[hz]at this
   exact this
  ·simp at hc
 case build t ps=>
  split at hc
  ·rename_i fs z hu hz
   split at hc
   ·rename_i pl hpl
    split at hc
    ·rename_i l hl
     simp only[sJ]at hc; subst hc
     simp only[ct]at h
     obtain⟨y,hy,rfl,rfl⟩:=bN h
     have:=bt.val R (zj (P:=P) (w:=w) (qs:=ps.map fun p=>(p.1,a.eval p.2)) hu hpl hz (by simpa using oF ht hl) hy)
     simpa[execOp] using this
    ·simp at hc
   ·simp at hc
  ·rename_i m e z hu hz
   split at hc
   ·rename_i g k hk
    split at hc
    ·rename_i l hl
     simp only[sJ]at hc; subst hc
     simp only[ct]at h
     obtain⟨y,hy,rfl,rfl⟩:=bN h
     have:=bt.val R (zw (P:=P) (w:=w) (qs:=ps.map fun p=>(p.1,a.eval p.2)) hu (ek hk) hz (by simpa using oF ht hl) hy)
     simpa[execOp] using this
    ·simp at hc
   ·simp at hc
  ·simp at hc
 case buildSlice t len ps=>
  split at hc
  ·rename_i e hu
   split at hc
   ·rename_i g k z hk hz
    split at hc
    ·rename_i l hl
     cases hg:(Nat.beq z.length k&&Nat.ble (len*k) 16777216) with
     | false=>rw[hg]at hc; simp at hc
     | true=>
      rw[hg]at hc
      simp only[QT,Nat.ble_eq]at hg
      simp only[cond_true,sJ]at hc; subst hc
      simp only[ct]at h
      obtain⟨y,hy,rfl⟩:=cT h
      have:=bt.good (Bx (P:=P) (qs:=ps.map fun p=>(p.1,a.eval p.2)) R hu (ek hk) hz (QX hg.1) hg.2 (by simpa using oF ht hl) hy)
      simpa[execOp] using this
    ·simp at hc
   ·simp at hc
  ·simp at hc
 case load t x=>
  split at hc
  ·rename_i g k y hk hy
   simp only[sJ]at hc; subst hc
   simp only[ct]at h
   obtain⟨z,hz,rfl,rfl⟩:=bN h
   exact bt.val R (wu (P:=P) R (ek hk) (aH ht hy) hz)
  ·simp at hc
 case store t x y=>
  split at hc
  ·rename_i g k x' y' hk hx hy
   simp only[sJ]at hc; subst hc
   simp only[ct]at h
   split at h
   ·rename_i H1 h1
    simp only[sJ,pJ]at h
    obtain⟨rfl,rfl⟩:=h
    obtain⟨w',q1,q2⟩:=FI (P:=P) R (ek hk) (aH ht hx) (aH ht hy) h1
    refine⟨ρ,w',.skip,Pl.le_refl _,?_,q2,?_⟩
    ·simp only[execOp,Sem.run_bind,q1,Result.andThen_ok]; rfl
    ·simp only[kw,aX,ak,undef]; exact⟨#[],rfl,by simp[ap]⟩
   ·simp at h
  ·simp at hc
 case nilCheck x=>
  split at hc
  ·rename_i y hy
   simp only[sJ]at hc; subst hc
   simp only[ct]at h
   obtain⟨z,hz,rfl,rfl⟩:=bN h
   exact DY R (aH ht hy) hz ⟨dst,.nilCheck x,type,pos,after,guard⟩ a.eval rfl
  ·simp at hc
 case binOp op t x y yt=>
  split at hc
  ·rename_i x' y' hx hy
   simp only[sJ]at hc; subst hc
   simp only[ct]at h
   obtain⟨z,hz,rfl,rfl⟩:=bN h
   obtain⟨u,h1,h2⟩:=Mv (P:=P) (t:=t) (aH ht hx) (aH ht hy) hz w
   refine bt.val R ⟨u,?_,h2⟩
   simp only[Sem.run_bind,Bh (aH ht hx) (aH ht hy) hz,Result.andThen_ok,h1]
  ·simp at hc
 case unOp op t x=>
  split at hc
  ·rename_i y hy
   simp only[sJ]at hc; subst hc
   simp only[ct]at h
   obtain⟨z,hz,rfl,rfl⟩:=bN h
   exact bt.val R (N6 (P:=P) (aH ht hy) hz w)
  ·simp at hc
 case convert s d x=>
  split at hc
  ·rename_i y hy
   split at hc
   ·rename_i d1 k h1 h2
    simp only[sJ]at hc; subst hc
    simp only[ct]at h
    obtain⟨z,hz,rfl,rfl⟩:=bN h
    exact bt.val R (JR (P:=P) h1 h2 (aH ht hy) hz w)
   ·rename_i e _ h1 h2
    split at hc
    ·rename_i he
     simp only[sJ]at hc; subst hc
     simp only[ct]at h
     obtain⟨z,hz,rfl⟩:=cT h
     exact bt.good (Od (P:=P) R h1 h2 he (aH ht hy) hz)
    ·simp at hc
   ·rename_i e _ h1 h2
    split at hc
    ·rename_i he
     simp only[sJ]at hc; subst hc
     simp only[ct]at h
     obtain⟨z,hz,rfl,rfl⟩:=bN h
     exact bt.val R (Pe (P:=P) R h1 he h2 (aH ht hy) hz)
    ·simp at hc
   ·simp at hc
  ·simp at hc
 case makeInterface t x=>
  split at hc
  ·simp at hc
  ·rename_i y d hno hy hu
   simp only[sJ]at hc; subst hc
   simp only[ct,sJ,pJ]at h
   obtain⟨rfl,rfl⟩:=h
   refine bt.val R ⟨.iface t (a.eval x),?_,by simp only[ak]; exact⟨_,rfl,aH ht (by assumption)⟩⟩
   cases d <;> first
    | exact (hno _ rfl).elim
    | (simp only[Instr.makeInterface,Sem.run_bind,run_underlying hu,Result.andThen_ok]; rfl)
  ·simp at hc
 case makeFunc fn x y=>
  split at hc
  ·rename_i x' y' hx hy
   simp only[sJ]at hc; subst hc
   simp only[ct,sJ,pJ]at h
   obtain⟨rfl,rfl⟩:=h
   refine bt.val R ⟨.func fn (x.map a.eval) (y.map a.eval),rfl,?_⟩
   simp only[ak]
   exact⟨_,_,rfl,by simpa using gY ht hx,by simpa using gY ht hy⟩
  ·simp at hc
 case makeSlice t l c=>
  split at hc
  ·rename_i e hu
   split at hc
   ·rename_i m b z l' c' h1 h2 h3 h4
    simp only[sJ]at hc; subst hc
    simp only[ct]at h
    obtain⟨y,hy,rfl⟩:=cT h
    exact bt.good (Js (P:=P) R hu (wF h1) h2 (aH ht h3) (aH ht h4) hy)
   ·simp at hc
  ·simp at hc
 case slice t x lo hi mx=>
  split at hc
  ·rename_i x' lo' hi' hu hx hlo hhi hmx
   simp only[sJ]at hc; subst hc
   simp only[ct]at h
   obtain⟨y,hy,rfl,rfl⟩:=bN h
   have hmn:mx=none:=by
    cases mx with
    | none=>rfl
    | some m=>simp only[nu]at hmx; split at hmx <;> simp at hmx
   subst hmn
   obtain⟨u,q1,q2⟩:=FT (P:=P) (w:=w) hu (aH ht hx) (jy ht hlo) (jy ht hhi) hy
   refine bt.val R ⟨u,?_,q2⟩
   simp only[Instr.sliceAt,Sem.run_bind,run_underlying hu,Result.andThen_ok]
   exact q1
  ·rename_i e x' lo' hi' mx' hu hx hlo hhi hmx
   split at hc
   ·rename_i g k hk
    simp only[sJ]at hc; subst hc
    simp only[ct]at h
    obtain⟨y,hy,rfl,rfl⟩:=bN h
    obtain⟨u,q1,q2⟩:=Oa (P:=P) (w:=w) hu (ek hk) (aH ht hx) (jy ht hlo) (jy ht hhi) (jy ht hmx) hy
    refine bt.val R ⟨u,?_,q2⟩
    simp only[Instr.sliceAt,Sem.run_bind,run_underlying hu,Result.andThen_ok]
    exact q1
   ·simp at hc
  ·simp at hc
 case fieldAddr s x i=>
  split at hc
  ·rename_i fs y hu hy
   split at hc
   ·rename_i f hf
    split at hc
    ·rename_i g k hk
     cases hg:Nat.beq k 0 with
     | true=>rw[hg]at hc; simp at hc
     | false=>
      rw[hg]at hc
      simp only[cond_false,sJ]at hc; subst hc
      simp only[ct]at h
      obtain⟨z,hz,rfl,rfl⟩:=bN h
      exact bt.val R (vl (P:=P) (w:=w) hu hf (ek hk) (fun e=>by rw[e]at hg; simp at hg) (aH ht hy) hz)
    ·simp at hc
   ·simp at hc
  ·simp at hc
 case field s x i=>
  split at hc
  ·rename_i fs y hu hy
   split at hc
   ·rename_i f hf
    split at hc
    ·rename_i g k hk
     simp only[sJ]at hc; subst hc
     simp only[ct]at h
     obtain⟨z,hz,rfl,rfl⟩:=bN h
     exact bt.val R (Et (P:=P) (w:=w) hu hf (ek hk) (aH ht hy) hz)
    ·simp at hc
   ·simp at hc
  ·simp at hc
 case indexAddr t x i=>
  split at hc
  ·rename_i e x' i' hu hx hi
   split at hc
   ·rename_i g k hk
    simp only[sJ]at hc; subst hc
    simp only[ct]at h
    obtain⟨z,hz,rfl,rfl⟩:=bN h
    exact bt.val R (JI (P:=P) (w:=w) hu (ek hk) (aH ht hx) (aH ht hi) hz)
   ·simp at hc
  ·rename_i m e x' i' hu hx hi
   split at hc
   ·rename_i g k hk
    simp only[sJ]at hc; subst hc
    simp only[ct]at h
    obtain⟨z,hz,rfl,rfl⟩:=bN h
    exact bt.val R (vf (P:=P) (w:=w) hu (ek hk) (aH ht hx) (aH ht hi) hz)
   ·simp at hc
  ·simp at hc
 case index t x i=>
  split at hc
  ·rename_i x' i' hu hx hi
   simp only[sJ]at hc; subst hc
   simp only[ct]at h
   obtain⟨z,hz,rfl,rfl⟩:=bN h
   exact bt.val R (JH (P:=P) (w:=w) hu (aH ht hx) (aH ht hi) hz)
  ·rename_i m e x' i' hu hx hi
   split at hc
   ·rename_i g k hk
    simp only[sJ]at hc; subst hc
    simp only[ct]at h
    obtain⟨z,hz,rfl,rfl⟩:=bN h
    exact bt.val R (LR (P:=P) (w:=w) hu (ek hk) (aH ht hx) (aH ht hi) hz)
   ·simp at hc
  ·simp at hc
 case extract x i=>
  split at hc
  ·rename_i y hy
   simp only[sJ]at hc; subst hc
   simp only[ct]at h
   obtain⟨z,hz,rfl,rfl⟩:=bN h
   exact bt.val R (Bd (P:=P) (w:=w) (aH ht hy) hz)
  ·simp at hc
 case call c=>exact HL htb R ht ⟨dst,.call c,type,pos,after,guard⟩ c hc h
theorem bt.skip{s:Sem Unit}{w':World}(hr:s.run P w=.ok () w')(hR:cg Prot w0 ρ H' w'):bt P Prot w0 ρ w (do s; pure .skip) (.val (.tuple [])) H':=
 ⟨ρ,w',.skip,Pl.le_refl _,by simp only[Sem.run_bind,hr,Result.andThen_ok]; rfl,hR,by simp only[kw,ak,undef]; exact⟨#[],rfl,by simp[ap]⟩⟩
theorem Jj{tb:FuncId->Bool}(R:cg Prot w0 ρ H w){n:Nat}{T:Tr ab}{a:Act}(ht:bx ρ n T a.tmps)(o:Oper){ao:jv}(hc:pW P o.op=some ao)
  {nx:Nx} (h:ct tb T H ao=some (nx,H')):bt P Prot w0 ρ w (execOp a.eval o) nx H':=by
 obtain⟨dst,op,type,pos,after,guard⟩:=o
 simp only at hc
 unfold pW at hc
 split at hc
 ·rename_i t x y yt
  split at hc
  ·rename_i x' y' hx hy
   split at hc
   ·rename_i k hk
    simp only[sJ]at hc; subst hc
    simp only[ct]at h
    obtain⟨z,hz,rfl,rfl⟩:=bN h
    simp only[jt,gA,MB]at hz
    split at hz
    ·rename_i b hb
     simp only[cond_false,sJ]at hz
     subst hz
     exact bt.val R ⟨_,Hz (op:=.eql) (.inl rfl) hk (aH ht hx) (aH ht hy) hb,rfl⟩
    ·simp at hz
   ·split at hc
    ·rename_i fs hk
     simp only[sJ]at hc; subst hc
     simp only[ct]at h
     obtain⟨z,hz,rfl,rfl⟩:=bN h
     simp only[jt,gA]at hz
     unfold Dr at hz
     split at hz
     ·rename_i l m hlm
      simp only[List.cons.injEq,and_true]at hlm
      obtain⟨e1,e2⟩:=hlm
      have p1:=aH ht hx
      have p2:=aH ht hy
      rw[e1]at p1
      rw[e2]at p2
      split at hz
      ·rename_i b hb
       simp only[cond_false,sJ]at hz
       subst hz
       exact bt.val R ⟨_,CH (op:=.eql) (.inl rfl) hk p1 p2 hb,rfl⟩
      ·simp at hz
     ·simp at hz
    ·simp at hc
  ·simp at hc
 ·rename_i t x y yt
  split at hc
  ·rename_i x' y' hx hy
   split at hc
   ·rename_i k hk
    simp only[sJ]at hc; subst hc
    simp only[ct]at h
    obtain⟨z,hz,rfl,rfl⟩:=bN h
    simp only[jt,gA,MB]at hz
    split at hz
    ·rename_i b hb
     simp only[cond_true,sJ]at hz
     subst hz
     exact bt.val R ⟨_,Hz (op:=.neq) (.inr rfl) hk (aH ht hx) (aH ht hy) hb,rfl⟩
    ·simp at hz
   ·split at hc
    ·rename_i fs hk
     simp only[sJ]at hc; subst hc
     simp only[ct]at h
     obtain⟨z,hz,rfl,rfl⟩:=bN h
     simp only[jt,gA]at hz
     unfold Dr at hz
     split at hz
     ·rename_i l m hlm
      simp only[List.cons.injEq,and_true]at hlm
      obtain⟨e1,e2⟩:=hlm
      have p1:=aH ht hx
      have p2:=aH ht hy
      rw[e1]at p1
      rw[e2]at p2
      split at hz
      ·rename_i b hb
       simp only[cond_true,sJ]at hz
       subst hz
       exact bt.val R ⟨_,CH (op:=.neq) (.inr rfl) hk p1 p2 hb,rfl⟩
      ·simp at hz
     ·simp at hz
    ·simp at hc
  ·simp at hc
 ·rename_i t x
  split at hc
  ·rename_i y hu hy
   simp only[sJ]at hc; subst hc
   simp only[ct]at h
   obtain⟨z,hz,rfl⟩:=cT h
   exact bt.good (Gg (P:=P) R hu (aH ht hy) hz)
  ·simp at hc
 ·rename_i x
  split at hc
  ·rename_i y hy
   simp only[sJ]at hc; subst hc
   simp only[ct]at h
   obtain⟨z,hz,rfl⟩:=cT h
   exact bt.good (Jn (P:=P) (t:=type) R (aH ht hy) hz)
  ·simp at hc
 ·rename_i t x lo hi mx
  split at hc
  ·rename_i m e x' lo' hi' mx' hu hx hlo hhi hmx
   split at hc
   ·rename_i g k hk
    simp only[sJ]at hc; subst hc
    simp only[ct]at h
    obtain⟨y,hy,rfl,rfl⟩:=bN h
    exact bt.val R (FU (P:=P) (w:=w) hu (ek hk) (aH ht hx) (jy ht hlo) (jy ht hhi) (jy ht hmx) hy)
   ·simp at hc
  ·simp at hc
 ·rename_i s d x
  cases hb:Nat.beq s d with
  | false=>rw[hb]at hc; simp at hc
  | true=>
   rw[hb]at hc
   have:=QX hb
   subst this
   simp only[cond_true]at hc
   split at hc
   ·rename_i e y hu hy
    split at hc
    ·rename_i he
     simp only[sJ]at hc; subst hc
     simp only[ct]at h
     obtain⟨z,hz,rfl⟩:=cT h
     exact bt.good (Jr (P:=P) R hu he (aH ht hy) hz)
    ·simp at hc
   ·simp at hc
 ·rename_i c
  obtain⟨callee,args,argTypes⟩:=c
  split at hc
  ·rename_i heq
   simp only at heq
   subst heq
   split at hc
   ·rename_i l hl
    simp only[sJ]at hc; subst hc
    simp only[ct]at h
    obtain⟨z,hz,rfl,rfl⟩:=bN h
    have hv:=gY ht hl
    simp only[jt]at hz
    cases hl':gA T l with
    | nil=>rw[hl']at hz; simp[Ix]at hz
    | cons x r=>
     rw[hl']at hz hv
     simp only[ap]at hv
     obtain⟨v,vs,e,hx,hr⟩:=hv
     obtain⟨q,hq,hrun⟩:=Gx (P:=P) (w:=w) (g:=true) hx hr hz
     refine bt.val R (s:=Builtin.max_ argTypes type (args.map a.eval)) ⟨q,?_,hq⟩
     unfold Builtin.max_
     simp only[Array.toList_map,e]
     exact hrun
   ·simp at hc
  ·rename_i heq
   simp only at heq
   subst heq
   split at hc
   ·rename_i T1 x hT hO
    simp only at hT hO
    obtain⟨p,hpq,hp⟩:=yc hO
    have ha:argTypes=#[T1]:=Array.toList_inj.1 (by simpa using hT)
    have hb:args=#[p]:=Array.toList_inj.1 (by simpa using hpq)
    subst ha hb
    split at hc
    ·rename_i e he
     split at hc
     ·rename_i zz hzz
      simp only[sJ]at hc
      subst hc
      simp only[ct]at h
      obtain⟨y,hy,rfl⟩:=cT h
      simp only[Dq,gA]at hy
      have:=bt.good (L7 (P:=P) R he hzz (ty:=type) (aH ht hp) hy)
      simpa[execOp,resolve,invoke,builtin] using this
     ·simp at hc
    ·simp at hc
   ·simp at hc
  ·rename_i heq
   simp only at heq
   subst heq
   split at hc
   ·rename_i T1 T2 x1 x2 hT hO
    simp only at hT hO
    obtain⟨p,q,hpq,hp,hq⟩:=yb hO
    have ha:argTypes=#[T1,T2]:=Array.toList_inj.1 (by simpa using hT)
    have hb:args=#[p,q]:=Array.toList_inj.1 (by simpa using hpq)
    subst ha hb
    split at hc
    ·rename_i e he
     split at hc
     ·rename_i gg nn hzz
      simp only[sJ]at hc
      subst hc
      simp only[ct]at h
      obtain⟨y,hy,rfl⟩:=cT h
      simp only[Dq,gA]at hy
      have:=bt.good (L6 (P:=P) R he (t2:=T2) (ek hzz) (ty:=type) (aH ht hp) (aH ht hq) hy)
      simpa[execOp,resolve,invoke,builtin] using this
     ·simp at hc
    ·simp at hc
   ·simp at hc
  ·rename_i heq
   simp only at heq
   subst heq
   split at hc
   ·rename_i l hl
    simp only[sJ]at hc; subst hc
    simp only[ct]at h
    obtain⟨z,hz,rfl,rfl⟩:=bN h
    have hv:=gY ht hl
    simp only[jt]at hz
    cases hl':gA T l with
    | nil=>rw[hl']at hz; simp[Ix]at hz
    | cons x r=>
     rw[hl']at hz hv
     simp only[ap]at hv
     obtain⟨v,vs,e,hx,hr⟩:=hv
     obtain⟨q,hq,hrun⟩:=Gx (P:=P) (w:=w) (g:=false) hx hr hz
     refine bt.val R (s:=Builtin.min_ argTypes type (args.map a.eval)) ⟨q,?_,hq⟩
     unfold Builtin.min_
     simp only[Array.toList_map,e]
     exact hrun
   ·simp at hc
  ·rename_i f heq
   simp only at heq
   subst heq
   cases hf:Cx P f with
   | false=>
    rw[hf]at hc
    simp only[cond_false]at hc
    cases hf2:Cy P f with
    | false=>rw[hf2]at hc; simp at hc
    | true=>
     rw[hf2]at hc
     simp only[cond_true]at hc
     split at hc
     ·rename_i l hl
      simp only[sJ]at hc; subst hc
      simp only[ct]at h
      obtain⟨z,hz,rfl,rfl⟩:=bN h
      simp only[jt]at hz
      obtain⟨q,hq,hrun⟩:=L9 (P:=P) (w:=w) hf2 hz (vs:=args.map a.eval) (by simpa using gY ht hl)
      exact⟨ρ,w,.value q,Pl.le_refl _,by simpa[execOp,resolve,Act.eval,Deferred.ofValue,invoke] using hrun,R,hq⟩
     ·simp at hc
   | true=>
    rw[hf]at hc
    simp only[cond_true]at hc
    split at hc
    ·rename_i l hl
     simp only[sJ]at hc; subst hc
     simp only[ct]at h
     obtain⟨z,hz,rfl,rfl⟩:=bN h
     simp only[jt]at hz
     obtain⟨q,hq,hrun⟩:=LS (P:=P) (w:=w) hf hz (vs:=args.map a.eval) (by simpa using gY ht hl)
     exact⟨ρ,w,.value q,Pl.le_refl _,by simpa[execOp,resolve,Act.eval,Deferred.ofValue,invoke] using hrun,R,hq⟩
    ·simp at hc
  ·simp at hc
 ·rename_i t g i
  split at hc
  ·rename_i m e i' hu hi
   split at hc
   ·rename_i gg k hk
    simp only[sJ]at hc; subst hc
    simp only[ct]at h
    obtain⟨z,hz,rfl⟩:=cT h
    simp only[Dq,gA,IB]at hz
    split at hz
    ·rename_i p hp
     split at hz
     ·rename_i v hv
      simp only[sJ,pJ]at hz
      obtain⟨rfl,rfl⟩:=hz
      exact bt.val R (vf (P:=P) (w:=w) hu (ek hk) (sQ R hp) (aH ht hi) hv)
     ·simp at hz
    ·simp at hz
   ·simp at hc
  ·simp at hc
 ·rename_i t g
  split at hc
  ·rename_i gg k hk
   simp only[sJ]at hc; subst hc
   simp only[ct]at h
   obtain⟨z,hz,rfl⟩:=cT h
   simp only[Dq,gA,Pk]at hz
   split at hz
   ·rename_i p hp
    split at hz
    ·rename_i v hv
     simp only[sJ,pJ]at hz
     obtain⟨rfl,rfl⟩:=hz
     exact bt.val R (wu (P:=P) R (ek hk) (sQ R hp) hv)
    ·simp at hz
   ·simp at hz
  ·simp at hc
 ·rename_i s g i
  split at hc
  ·rename_i fs hu
   split at hc
   ·rename_i f hf
    split at hc
    ·rename_i gg k hk
     cases hb:Nat.beq k 0 with
     | true=>rw[hb]at hc; simp at hc
     | false=>
      rw[hb]at hc
      simp only[cond_false,sJ]at hc; subst hc
      simp only[ct]at h
      obtain⟨z,hz,rfl⟩:=cT h
      simp only[Dq,gA,Lm]at hz
      split at hz
      ·rename_i p hp
       split at hz
       ·rename_i v hv
        simp only[sJ,pJ]at hz
        obtain⟨rfl,rfl⟩:=hz
        exact bt.val R (vl (P:=P) (w:=w) hu hf (ek hk) (fun e=>by rw[e]at hb; simp at hb) (sQ R hp) hv)
       ·simp at hz
      ·simp at hz
    ·simp at hc
   ·simp at hc
  ·simp at hc
 ·rename_i t x
  split at hc
  ·rename_i n e y hu hx
   simp only[sJ]at hc; subst hc
   simp only[ct]at h
   obtain⟨z,hz,rfl,rfl⟩:=bN h
   exact bt.val R (LE (P:=P) (w:=w) hu (aH ht hx) hz)
  ·simp at hc
 ·rename_i t
  simp only[sJ]at hc; subst hc
  simp only[ct]at h
  obtain⟨z,hz,rfl⟩:=cT h
  exact bt.good (Gy (P:=P) R t hz)
 ·rename_i t m k ok
  split at hc
  ·rename_i kt el m' k' hu hm hk
   split at hc
   ·rename_i kc z0 hkc hz0
    simp only[sJ]at hc; subst hc
    simp only[ct]at h
    obtain⟨z,hz,rfl⟩:=cT h
    exact bt.good (GD (P:=P) R hu hkc hz0 (aH ht hm) (aH ht hk) hz)
   ·simp at hc
  ·simp at hc
 ·rename_i t m k
  split at hc
  ·rename_i kt el m' k' hu hm hk
   split at hc
   ·rename_i kc z0 hkc hz0
    simp only[sJ]at hc; subst hc
    simp only[ct]at h
    obtain⟨z,hz,rfl⟩:=cT h
    exact bt.good (Eh (P:=P) R hu hkc hz0 (aH ht hm) (aH ht hk) hz)
   ·simp at hc
  ·simp at hc
 ·rename_i t m n x
  split at hc
  ·rename_i m' n' x' hm hn hx
   simp only[sJ]at hc; subst hc
   simp only[ct]at h
   obtain⟨z,hz,rfl⟩:=cT h
   obtain⟨rfl,w',hr,hR⟩:=Ee (P:=P) R t (aH ht hm) (aH ht hn) (aH ht hx) hz
   exact bt.skip hr hR
  ·simp at hc
 ·rename_i t m k x
  split at hc
  ·rename_i kt el m' k' x' hu hm hk hx
   split at hc
   ·rename_i kc hkc
    simp only[sJ]at hc; subst hc
    simp only[ct]at h
    obtain⟨z,hz,rfl⟩:=cT h
    obtain⟨rfl,w',hr,hR⟩:=Ct (P:=P) R hu hkc (aH ht hm) (aH ht hk) (aH ht hx) hz
    exact bt.skip hr hR
   ·simp at hc
  ·simp at hc
 ·rename_i t m k x
  split at hc
  ·rename_i kt el m' k' x' hu hm hk hx
   split at hc
   ·rename_i kc hkc
    simp only[sJ]at hc; subst hc
    simp only[ct]at h
    obtain⟨z,hz,rfl⟩:=cT h
    obtain⟨rfl,w',hr,hR⟩:=Ct (P:=P) R hu hkc (aH ht hm) (aH ht hk) (aH ht hx) hz
    exact bt.skip hr hR
   ·simp at hc
  ·simp at hc
 ·rename_i x xt t ok
  split at hc
  ·simp at hc
  ·rename_i d z y hni hu hz hy
   simp only[sJ]at hc; subst hc
   simp only[ct]at h
   obtain⟨r,hr,rfl,rfl⟩:=bN h
   obtain⟨zv,hz1,hz2⟩:=ry hz
   have hx:=aH ht hy
   simp only[jt,gA]at hr
   generalize ev T y=q at hr hx
   unfold Ll at hr
   split at hr
   ·rename_i heq
    simp only[List.cons.injEq,and_true]at heq
    subst heq
    cases ok with
    | false=>simp at hr
    | true=>
     simp only[cond_true,sJ]at hr
     subst hr
     simp only[ak]at hx
     refine bt.val R ⟨.tuple #[zv,.bool false],?_,?_⟩
     ·show (Instr.typeAssert (a.eval x) xt t true).run P w=_
      rw[hx]
      cases d <;> simp_all [Instr.typeAssert,run_underlying hu]
     ·simp only[ak,ap]
      exact⟨_,rfl,_,_,rfl,hz2 ρ,_,_,rfl,rfl,rfl⟩
   ·rename_i u v heq
    simp only[List.cons.injEq,and_true]at heq
    subst heq
    simp only[ak]at hx
    obtain⟨yv,hx1,hx2⟩:=hx
    cases hb:Nat.beq u t with
    | true=>
     have:=QX hb
     subst this
     rw[hb]at hr
     simp only[cond_true]at hr
     cases ok with
     | false=>
      simp only[cond_false,sJ]at hr
      subst hr
      refine bt.val R ⟨yv,?_,hx2⟩
      show (Instr.typeAssert (a.eval x) xt u false).run P w=_
      rw[hx1]
      cases d <;> simp_all [Instr.typeAssert,run_underlying hu]
     | true=>
      simp only[cond_true,sJ]at hr
      subst hr
      refine bt.val R ⟨.tuple #[yv,.bool true],?_,?_⟩
      ·show (Instr.typeAssert (a.eval x) xt u true).run P w=_
       rw[hx1]
       cases d <;> simp_all [Instr.typeAssert,run_underlying hu]
      ·simp only[ak,ap]
       exact⟨_,rfl,_,_,rfl,hx2,_,_,rfl,rfl,rfl⟩
    | false=>
     have hne:¬u=t:=fun e=>by rw[e,Nat.beq_refl]at hb; simp at hb
     rw[hb]at hr
     simp only[cond_false]at hr
     cases ok with
     | false=>simp at hr
     | true=>
      simp only[cond_true,sJ]at hr
      subst hr
      refine bt.val R ⟨.tuple #[zv,.bool false],?_,?_⟩
      ·show (Instr.typeAssert (a.eval x) xt t true).run P w=_
       rw[hx1]
       cases d <;> simp_all [Instr.typeAssert,run_underlying hu]
      ·simp only[ak,ap]
       exact⟨_,rfl,_,_,rfl,hz2 ρ,_,_,rfl,rfl,rfl⟩
   ·simp at hr
  ·simp at hc
 ·simp at hc
theorem jN{tb:FuncId->Bool}(htb:∀f,Nat.blt f cA=true->tb f=true->bX P f=true)(R:cg Prot w0 ρ H w){n:Nat}{T:Tr ab}{a:Act}(ht:bx ρ n T a.tmps)(o:Oper){ao:jv}(hc:wP P o.op=some ao)
  {nx:Nx} (h:ct tb T H ao=some (nx,H')):bt P Prot w0 ρ w (execOp a.eval o) nx H':=by
 unfold wP at hc
 split at hc
 ·rename_i x hx
  simp only[sJ]at hc; subst hc
  exact Jj R ht o hx h
 ·split at hc
  ·rename_i x hx
   simp only[sJ]at hc; subst hc
   exact Jk htb R ht o hx h
  ·simp only[sJ]at hc; subst hc
   simp[ct]at h
theorem zQ(R:cg Prot w0 ρ H w){t:TypeId}{l:List ab}(h:dF P t=some l){b:Nat}(hd:Prot.dead b)(hx:H.get b=some (.cells l 0 false)) :
  ∃ρ' w' u,ρ.le ρ'/\(Instr.alloc t true (.tuple #[])).run P w=.ok u w'/\cg ⟨Prot.prot,fun d=>Prot.dead d/\d≠b⟩ w0 ρ' H w'/\ak ρ' (.ptr (some ⟨b,l.length,0⟩)) u:=by
 obtain⟨z,h1,h2⟩:=iH h
 have hnone:=(R.dead b hd).2
 have hv:=h2 ρ
 have hlen:l.length=z.cells.size:=by have:=ap.len hv; simpa using this
 obtain⟨q1,q2⟩:=R.claim' hd (w':=w.alloc (.cells z.cells t)) rfl rfl rfl (by simp) (fun i hi=>RowKit.Below.heap_alloc _ _ _ hi) hx (o:=.cells z.cells t) (lim:=l.length) (n:=z.cells.size) (cl:=true) (by show (w.heap.push _)[w.heap.size]?=_; simp) (by
  simp only[eW]
  refine⟨z.cells,t,0,0,rfl,rfl,fun _=>⟨fun i _=>om,Nat.le_refl _⟩,Nat.le_refl _,fun _ i i1 i2=>?_⟩
  have hx:l[i]?=some l[i]:=QQ i2
  obtain⟨v,u1,u2⟩:=hv.nth _ _ hx
  refine⟨_,v,hx,?_,ak.mono (pD fun L' h'=>by rw[hnone]at h'; simp at h') _ _ u2⟩
  simpa using u1)
 refine⟨_,_,.pointer (some ⟨w.heap.size,0,none⟩),q1,?_,q2,?_⟩
 ·simp only[Instr.alloc,Sem.run_bind,h1,Result.andThen_ok,newVar]; rfl
 ·simp only[ak]; exact⟨_,hY _ _ _ _,Nat.zero_le _,rfl⟩
theorem uH(R:cg Prot w0 ρ H w){l:List ab}{C:Array Value}(t:TypeId)(hv:ap ρ l C.toList){b:Nat}(hd:Prot.dead b)(hx:H.get b=some (.cells l 0 false)) :
  ∃ρ',ρ.le ρ'/\cg ⟨Prot.prot,fun d=>Prot.dead d/\d≠b⟩ w0 ρ' H (w.alloc (.cells C t))/\ρ' b l.length=some ⟨w.heap.size,0,C.size,true⟩:=by
 have hnone:=(R.dead b hd).2
 have hlen:l.length=C.size:=by have:=ap.len hv; simpa using this
 obtain⟨q1,q2⟩:=R.claim' hd (w':=w.alloc (.cells C t)) rfl rfl rfl (by simp) (fun i hi=>RowKit.Below.heap_alloc _ _ _ hi) hx (o:=.cells C t) (lim:=l.length) (n:=C.size) (cl:=true) (by show (w.heap.push _)[w.heap.size]?=_; simp) (by
  simp only[eW]
  refine⟨C,t,0,0,rfl,rfl,fun _=>⟨fun i _=>om,Nat.le_refl _⟩,Nat.le_refl _,fun _ i i1 i2=>?_⟩
  have hx:l[i]?=some l[i]:=QQ i2
  obtain⟨v,u1,u2⟩:=hv.nth _ _ hx
  refine⟨_,v,hx,?_,ak.mono (pD fun L' h'=>by rw[hnone]at h'; simp at h') _ _ u2⟩
  simpa using u1)
 exact⟨_,q1,q2,hY _ _ _ _⟩
theorem AK(R:cg Prot w0 ρ H w){sT elem:TypeId}{size bytes:Nat}{z:List ab}(hu:P.underlying sT=some (.slice elem))(E:IJ P elem size bytes)(hz:dF P elem=some z)
  {l c:ab} {lv cv:Value} (hl:ak ρ l lv) (hc:ak ρ c cv) {ln cn:Nat} (hln:jA l=some ln) (hcn:jA c=some cn) (hg:ln<=cn/\bytes*cn<=281474976710656) {b:Nat} (hd:Prot.dead b) (hx:H.get b=some (.cells (ud z cn) 0 false)) :
  ∃ρ' w' u,ρ.le ρ'/\(Instr.makeSlice sT lv cv).run P w=.ok u w'/\cg ⟨Prot.prot,fun d=>Prot.dead d/\d≠b⟩ w0 ρ' H w'/\ak ρ' (.slice (some ⟨b,(ud z cn).length,0⟩) ln (.known cn)) u:=by
 obtain⟨rfl,b1⟩:=oP hln
 obtain⟨rfl,b2⟩:=oP hcn
 simp only[ak]at hl hc
 subst hl hc
 obtain⟨i,zv,hi,rfl,rfl,hzero,hzs⟩:=E.ex
 obtain⟨zv',hzr,hzl⟩:=iH hz
 have hzv:zv'=zv:=by
  have:=hzr w
  simp[zeroValue,run_typeInfo w hi,hzero]at this
  exact this.symm
 subst hzv
 have hlen:=ap.len (hzl ρ)
 simp only[Array.length_toList,hzs]at hlen
 obtain⟨ρ',q1,q3,q4⟩:=uH R elem (lP (hzl ρ) cn) hd hx
 have q2:(newRow elem (dw zv'.cells (cn*z.length))).run P w=.ok ⟨w.heap.size,0,none⟩ (w.alloc (.cells (dw zv'.cells (cn*z.length)) elem)):=rfl
 have hnb:¬((281474976710656:Int)<(i.bytes:Int)*(cn:Int)):=by
  have:(i.bytes*cn:Nat)<=281474976710656:=hg.2
  rw[<- Int.natCast_mul]; omega
 have hcells:dw zv'.cells (cn*i.size)=dw zv'.cells (cn*z.length):=by rw[hlen]
 refine⟨ρ',_,.slice (some ⟨w.heap.size,0,none⟩) ln cn,q1,?_,q3,?_⟩
 ·have hsz:∀W,(sizeOf elem).run P W=.ok i.size W:=fun W=>by simp[sizeOf,run_typeInfo W hi]
  have e1:¬((cn:Int)<0):=om
  have e2:¬((ln:Int)<0):=om
  have e3:¬((cn:Int)<(ln:Int)):=om
  by_cases hn:cn*i.size=0
  ·have hm:dw zv'.cells (cn*z.length)=#[]:=by rw[<- hcells,hn]; simp[dw]
   rw[hm]at q2 ⊢
   simp only[Instr.makeSlice,Sem.run_bind,run_underlying hu,Result.andThen_ok,asInt,asIntOf,Sem.run_pure,run_typeInfo _ hi,hJ b1,hJ b2]
   simp[e1,e2,e3,hnb,hsz,hn,show Array.range 0=#[] by simp,q2]
  ·simp only[Instr.makeSlice,Sem.run_bind,run_underlying hu,Result.andThen_ok,asInt,asIntOf,Sem.run_pure,run_typeInfo _ hi,hJ b1,hJ b2]
   rw[<- hcells]at q2 ⊢
   unfold dw at q2 ⊢
   simp[e1,e2,e3,hnb,hsz,hn,hzr,q2]
 ·simp only[ak]
  exact⟨_,q4,Nat.zero_le _,hg.1,rfl⟩
end
end Go.Abs
namespace Go.Abs
structure an where
 dst:Option Nat
 op:jv
 guard:Option (Nat×Bool)
def SK:Nat:=1000000
def gS(t:Nat):Nat:=bif Nat.ble SK t then t-SK else t
def Ps(b:Bool):ab->Bool
 | .bool c=>bif b then c else !c
 | _=>false
def gV(t:Nat)(b:Bool)(v:ab):Bool:=bif Nat.ble SK t then !gp v else Ps b v
def im(T:Tr ab):Option (Nat×Bool)->Bool
 | none=>true
 | some (t,b)=>gV t b (ev T (.t (gS t)))
theorem Ot{t:Nat}(h:Nat.blt t SK=true):gS t=t/\Nat.ble SK t=false:=by
 have h1:t<SK:=QW h
 have h2:Nat.ble SK t=false:=by
  cases hb:Nat.ble SK t with
  | false=>rfl
  | true=>have:=QW hb; omega
 exact⟨by unfold gS; rw[h2]; rfl,h2⟩
def cQ(T:Tr ab):Option Nat->ab->Tr ab
 | some d,v=>T.set d v
 | none,_=>T
def dH:jv->Bool
 | .load .. | .claim ..=>true
 | _=>false
def jQ:jv->Bool
 | .mv _ | .pick .. | .build .. | .nilChk _ | .bin .. | .un .. | .conv .. | .mkFunc .. | .mkIface .. | .sl .. | .slStr .. | .fieldA .. | .field .. | .idxA .. | .idxArr .. | .idx .. | .idxS .. | .extract .. | .len .. | .pf .. | .slA ..=>true
 | _=>false
def aI(o:jv):Bool:=!(jQ o)&&!(dH o)
def Cg:bu->List Nat
 | .t i=>[i]
 | _=>[]
def xV:List bu->List Nat
 | []=>[]
 | x::r=>Cg x++xV r
def DQ:Option bu->List Nat
 | none=>[]
 | some x=>Cg x
def Oi:List (Nat×Nat×bu)->List Nat
 | []=>[]
 | (_,_,x)::r=>Cg x++Oi r
def reads:jv->List Nat
 | .mv x | .box x | .load _ _ x | .nilChk x | .un _ x | .conv _ x | .convSB x | .convBS x | .mkIface _ x | .fieldA _ x | .field _ _ _ x | .extract _ x | .len _ x=>Cg x
 | .pick c a b=>Cg c++(Cg a++Cg b)
 | .new _=>[]
 | .build _ ps=>Oi ps
 | .buildSl _ _ ps=>Oi ps
 | .store _ a x | .bin _ a x | .mkSlice _ _ a x | .idxA _ a x | .idxArr _ _ a x | .idx _ _ _ a x | .idxS a x | .append _ _ a x=>Cg a++Cg x
 | .mkFunc _ a b=>xV a++xV b
 | .sl _ x a b c | .slA _ _ x a b c=>Cg x++(DQ a++(DQ b++DQ c))
 | .slStr x a b=>Cg x++(DQ a++DQ b)
 | .call _ l=>xV l
 | .callv f l=>Cg f++xV l
 | .pf _ l | .hf _ l=>xV l
 | .bad | .claim _ _ _=>[]
def jL(o:an):List Nat:=reads o.op++(match o.guard with | none=>[] | some (t,_)=>[gS t])
section
variable {tb:FuncId->Bool} {T T':Tr ab} {H H' H2:aa}
theorem aR{x:bu}(h:∀t∈Cg x,T.get t=T'.get t):ev T x=ev T' x:=by
 cases x with
 | t i=>simp only[ev]; rw[h i (by simp[Cg])]
 | _=>rfl
theorem iT{l:List bu}(h:∀t∈xV l,T.get t=T'.get t):gA T l=gA T' l:=by
 induction l with
 | nil=>rfl
 | cons x r ih=>simp only[xV,List.mem_append]at h; simp only[gA]; rw[aR fun t ht=>h t (.inl ht),ih fun t ht=>h t (.inr ht)]
theorem fX{x:Option bu}(h:∀t∈DQ x,T.get t=T'.get t):yK T x=yK T' x:=by
 cases x with
 | none=>rfl
 | some x=>simp only[yK]; rw[aR h]
theorem vn{l:List (Nat×Nat×bu)}(h:∀t∈Oi l,T.get t=T'.get t):z8 T l=z8 T' l:=by
 induction l with
 | nil=>rfl
 | cons x r ih=>obtain⟨a,b,x⟩:=x; simp only[Oi,List.mem_append]at h; simp only[z8]; rw[aR fun t ht=>h t (.inl ht),ih fun t ht=>h t (.inr ht)]
theorem vK{o:jv}(h:∀t∈reads o,T.get t=T'.get t):ct tb T H o=ct tb T' H o:=by
 cases o <;> simp only[reads,List.mem_append]at h <;> simp only[ct]
 case mv x=>rw[aR h]
 case pick c a b=>rw[aR fun t ht=>h t (.inl ht),aR (x:=a) fun t ht=>h t (.inr (.inl ht)),aR (x:=b) fun t ht=>h t (.inr (.inr ht))]
 case box x=>rw[aR h]
 case build z ps=>rw[vn h]
 case buildSl n z ps=>rw[vn h]
 case load a n x=>rw[aR h]
 case store n a x=>rw[aR fun t ht=>h t (.inl ht),aR (x:=x) fun t ht=>h t (.inr ht)]
 case nilChk x=>rw[aR h]
 case bin op a x=>rw[aR fun t ht=>h t (.inl ht),aR (x:=x) fun t ht=>h t (.inr ht)]
 case un op x=>rw[aR h]
 case conv k x=>rw[aR h]
 case convSB x=>rw[aR h]
 case convBS x=>rw[aR h]
 case mkFunc f a b=>rw[iT fun t ht=>h t (.inl ht),iT (l:=b) fun t ht=>h t (.inr ht)]
 case mkIface t x=>rw[aR h]
 case mkSlice b z a x=>rw[aR fun t ht=>h t (.inl ht),aR (x:=x) fun t ht=>h t (.inr ht)]
 case sl n x a b c=>rw[aR fun t ht=>h t (.inl ht),fX (x:=a) fun t ht=>h t (.inr (.inl ht)),fX (x:=b) fun t ht=>h t (.inr (.inr (.inl ht))),fX (x:=c) fun t ht=>h t (.inr (.inr (.inr ht)))]
 case slStr x a b=>rw[aR fun t ht=>h t (.inl ht),fX (x:=a) fun t ht=>h t (.inr (.inl ht)),fX (x:=b) fun t ht=>h t (.inr (.inr ht))]
 case fieldA o x=>rw[aR h]
 case field a n o x=>rw[aR h]
 case idxA n a x=>rw[aR fun t ht=>h t (.inl ht),aR (x:=x) fun t ht=>h t (.inr ht)]
 case idxArr m n a x=>rw[aR fun t ht=>h t (.inl ht),aR (x:=x) fun t ht=>h t (.inr ht)]
 case idx m n g a x=>rw[aR fun t ht=>h t (.inl ht),aR (x:=x) fun t ht=>h t (.inr ht)]
 case idxS a x=>rw[aR fun t ht=>h t (.inl ht),aR (x:=x) fun t ht=>h t (.inr ht)]
 case extract i x=>rw[aR h]
 case append n b a x=>rw[aR fun t ht=>h t (.inl ht),aR (x:=x) fun t ht=>h t (.inr ht)]
 case len s x=>rw[aR h]
 case call f l=>rw[iT h]
 case callv f l=>rw[aR fun t ht=>h t (.inl ht),iT (l:=l) fun t ht=>h t (.inr ht)]
 case pf f l=>rw[iT h]
 case slA m n x a b c=>rw[aR fun t ht=>h t (.inl ht),fX (x:=a) fun t ht=>h t (.inr (.inl ht)),fX (x:=b) fun t ht=>h t (.inr (.inr (.inl ht))),fX (x:=c) fun t ht=>h t (.inr (.inr (.inr ht)))]
 case hf f l=>rw[iT h]
theorem oi{x:Option ab}{nx:Nx}(h:vv H x=some (nx,H')):H'=H/\(∃v,nx=.val v)/\∀H2,vv H2 x=some (nx,H2):=by
 cases x with
 | none=>simp[vv]at h
 | some v=>simp only[vv,sJ,pJ]at h; obtain⟨rfl,rfl⟩:=h; exact⟨rfl,⟨v,rfl⟩,fun _=>rfl⟩
theorem fL{o:jv}(hp:jQ o=true){nx:Nx}(h:ct tb T H o=some (nx,H')):H'=H/\(∃v,nx=.val v)/\∀H2,ct tb T H2 o=some (nx,H2):=by
 cases o <;> simp only[jQ,Q1]at hp <;> simp only[ct]at h ⊢
 case mv x=>simp only[sJ,pJ]at h; obtain⟨rfl,rfl⟩:=h; exact⟨rfl,⟨_,rfl⟩,fun _=>rfl⟩
 case pick c a b=>
  split at h
  ·simp only[sJ,pJ]at h; obtain⟨rfl,rfl⟩:=h; exact⟨rfl,⟨_,rfl⟩,fun _=>rfl⟩
  ·simp at h
 case mkFunc f a b=>simp only[sJ,pJ]at h; obtain⟨rfl,rfl⟩:=h; exact⟨rfl,⟨_,rfl⟩,fun _=>rfl⟩
 case mkIface t x=>simp only[sJ,pJ]at h; obtain⟨rfl,rfl⟩:=h; exact⟨rfl,⟨_,rfl⟩,fun _=>rfl⟩
 all_goals exact oi h
theorem jg{o:jv}(hp:dH o=true){nx:Nx}(h:ct tb T H o=some (nx,H')):H'=H/\∃v,nx=.val v:=by
 cases o <;> simp only[dH,Q1]at hp
 case load=>simp only[ct]at h; have:=oi h; exact⟨this.1,this.2.1⟩
 case claim=>simp only[ct]at h; have:=oi h; exact⟨this.1,this.2.1⟩
end
end Go.Abs
namespace Go.Abs
section
variable (tb:FuncId->Bool) (call:FuncId->List ab->aa->Option (ab×aa))
def bI(o:an)(T:Tr ab)(H:aa):Option (ab×aa):=
 bif im T o.guard then
  match ct tb T H o.op with
  | some (.val v,H')=>some (v,H')
  | some (.enter f args,H')=>call f args H'
  | none=>none
 else some (aX,H)
def cP:List an->Tr ab->aa->Option (List (ab×aa))
 | [],_,_=>some []
 | o::r,T,H=>match bI tb call o T H with
  | some (v,H')=>match cP r (cQ T o.dst v) H' with
   | some s=>some ((v,H')::s)
   | none=>none
  | none=>none
def fR(hs:List aa):List an->List (List Nat)->List (ab×aa)->Tr ab->Bool
 | o::os,ps::pss,(v,_)::ss,T=>
  (ps.all fun p=>match hs[p]? with
   | some Hp=>bif im T o.guard then (match ct tb T Hp o.op with | some (.val u,_)=>aeq u v | _=>false) else true
   | none=>false)&&fR hs os pss ss (cQ T o.dst v)
 | _,_,_,_=>true
end
def bF(m:Nat->Bool):Nat->List an->List (ab×aa)->Tr ab->Tr ab
 | i,o::os,(v,_)::ss,T=>bF m (i+1) os ss (bif m i then cQ T o.dst v else T)
 | _,_,_,T=>T
def eF(H:aa)(ss:List (ab×aa)):Nat->aa
 | 0=>H
 | j+1=>match ss[j]? with
  | some (_,H')=>H'
  | none=>H
def aC(m:Nat->Bool):Nat->List an->Nat
 | i,[]=>i
 | i,o::r=>bif aI o.op&&!m i then i else aC m (i+1) r
theorem lV(T:Tr ab)(d:Option Nat)(v:ab)(t:Nat):(cQ T d v).get t=if d=some t then some v else T.get t:=by
 cases d with
 | none=>simp[cQ]
 | some d=>
  simp only[cQ,Tr.get_set]
  by_cases e:t=d
  ·subst e; simp
  ·rw[if_neg e,if_neg (by intro q; simp at q; exact e q.symm)]
theorem gh{m m':Nat->Bool}{t:Nat}:∀(l:List an) (ss:List (ab×aa)) (k:Nat) (T T':Tr ab),T.get t=T'.get t ->
  (∀i o,l[i]?=some o->o.dst=some t->m (k+i)=m' (k+i))->(bF m k l ss T).get t=(bF m' k l ss T').get t:=by
 intro l
 induction l with
 | nil=>intro ss k T T' h _; cases ss <;> exact h
 | cons o r ih=>
  intro ss k T T' h hm
  cases ss with
  | nil=>exact h
  | cons s ss=>
   obtain⟨v,H'⟩:=s
   simp only[bF]
   refine ih ss (k+1) _ _ ?_ fun i o' h1 h2=>by have:=hm (i+1) o' (by simpa using h1) h2; rw[show k+1+i=k+(i+1) by omega]; exact this
   by_cases hd:o.dst=some t
   ·have:=hm 0 o rfl hd
    simp only[Nat.add_zero]at this
    rw[this]
    cases m' k
    ·exact h
    ·simp only[cond_true,lV,hd,if_true]
   ·have e1:∀(b:Bool) (T:Tr ab),(bif b then cQ T o.dst v else T).get t=T.get t:=fun b T=>by
     cases b
     ·rfl
     ·simp only[cond_true,lV,if_neg hd]
    rw[e1,e1,h]
theorem jW{m:Nat->Bool}{t:Nat}:∀(l:List an) (ss:List (ab×aa)) (k j:Nat) (T:Tr ab) (o:an) (v:ab) (H':aa),l[j]?=some o->ss[j]?=some (v,H')->o.dst=some t->m (k+j)=true ->
  (∀i o',j<i->l[i]?=some o'->o'.dst=some t->m (k+i)=false)->(bF m k l ss T).get t=some v:=by
 intro l
 induction l with
 | nil=>intro ss k j T o v H' h; simp at h
 | cons o r ih=>
  intro ss k j T o' v H' h1 h2 h3 h4 h5
  cases ss with
  | nil=>simp at h2
  | cons s ss=>
   obtain⟨u,H1⟩:=s
   simp only[bF]
   cases j with
   | zero=>
    simp only[QZ,sJ,pJ]at h1 h2
    obtain⟨rfl,rfl⟩:=h2
    subst h1
    simp only[Nat.add_zero]at h4
    rw[h4]
    have:=gh (m:=m) (m':=fun _=>false) (t:=t) r ss (k+1) (bif true then cQ T o.dst u else T) (cQ T o.dst u) rfl fun i o' q1 q2=>by
     have:=h5 (i+1) o' om (by simpa using q1) q2
     rw[show k+1+i=k+(i+1) by omega]; exact this
    rw[this]
    have hn:∀(l:List an) (ss:List (ab×aa)) (k:Nat) (T:Tr ab),bF (fun _=>false) k l ss T=T:=by
     intro l
     induction l with
     | nil=>intro ss k T; cases ss <;> rfl
     | cons o r ih=>intro ss k T; cases ss with
      | nil=>rfl
      | cons s ss=>obtain⟨a,b⟩:=s; simp only[bF,cond_false,ih]
    rw[hn,lV,if_pos h3]
   | succ j=>
    refine ih ss (k+1) j _ o' v H' (by simpa using h1) (by simpa using h2) h3 (by rw[show k+1+j=k+(j+1) by omega]; exact h4) fun i o2 q0 q1 q2=>?_
    rw[show k+1+i=k+(i+1) by omega]
    exact h5 (i+1) o2 om (by simpa using q1) q2
section
variable {tb:FuncId->Bool} {call:FuncId->List ab->aa->Option (ab×aa)}
theorem hZ:∀(l:List an) (T:Tr ab) (H:aa) (ss:List (ab×aa)) (k:Nat),cP tb call l T H=some ss ->
  ss.length=l.length/\∀j o,l[j]?=some o->∃v H',ss[j]?=some (v,H')/\bI tb call o (bF (fun i=>Nat.blt i (k+j)) k l ss T) (eF H ss j)=some (v,H'):=by
 intro l
 induction l with
 | nil=>intro T H ss k h; simp only[cP,sJ]at h; subst h; exact⟨rfl,fun j o h=>by simp at h⟩
 | cons o r ih=>
  intro T H ss k h
  simp only[cP]at h
  split at h
  ·rename_i v H' hs
   split at h
   ·rename_i s hr
    simp only[sJ]at h
    subst h
    obtain⟨h1,h2⟩:=ih _ _ _ (k+1) hr
    refine⟨by simp[h1],fun j o' hj=>?_⟩
    cases j with
    | zero=>
     simp only[QZ,sJ]at hj
     subst hj
     refine⟨v,H',rfl,?_⟩
     have e:bF (fun i=>Nat.blt i (k+0)) k (o::r) ((v,H')::s) T=T:=by
      have hn:∀(l:List an) (ss:List (ab×aa)) (k':Nat) (T:Tr ab),k<=k'->bF (fun i=>Nat.blt i (k+0)) k' l ss T=T:=by
       intro l
       induction l with
       | nil=>intro ss k' T _; cases ss <;> rfl
       | cons o r ih=>intro ss k' T hk; cases ss with
        | nil=>rfl
        | cons s ss=>
         obtain⟨a,b⟩:=s
         have:Nat.blt k' (k+0)=false:=by
          cases hb:Nat.blt k' (k+0) with
          | false=>rfl
          | true=>have:=QW hb; omega
         simp only[bF,this,cond_false]
         exact ih ss (k'+1) T om
      exact hn _ _ k T rL
     rw[e]
     exact hs
    | succ j=>
     simp only[Q0]at hj
     obtain⟨u,H2,q1,q2⟩:=h2 j o' hj
     refine⟨u,H2,by simpa using q1,?_⟩
     have hb:Nat.blt k (k+(j+1))=true:=by
      show Nat.ble (k+1) (k+(j+1))=true
      exact QS om
     simp only[bF,hb,cond_true]
     rw[show k+(j+1)=k+1+j by omega]
     have hh:eF H ((v,H')::s) (j+1)=eF H' s j:=by
      cases j with
      | zero=>rfl
      | succ j=>
       simp only[eF,Q0]
       have:j<s.length:=by
        have:=(QR.1 hj).1
        omega
       rw[QQ this]
     rw[hh]
     exact q2
   ·simp at h
  ·simp at h
end
end Go.Abs
namespace Go.Abs
def bi(o:Oper):List Nat:=(o.after.toList.filter (Region.binds .any)).map (·.on)
def Gz(ms:List Nat):List Nat->Nat
 | []=>0
 | e::r=>(1 <<< e) ||| (ms.getD e 0) ||| Gz ms r
def br(acc:List Nat):List (List Nat)->List Nat
 | []=>acc
 | es::r=>br (acc++[Gz acc es]) r
def jR(ms:List Nat)(j i:Nat):Bool:=Nat.blt i j&&(ms.getD j 0).testBit i
theorem kQ{ms:List Nat}{j i:Nat}(h:jR ms j i=true):i<j:=by
 unfold jR at h
 rw[QT]at h
 exact QW h.1
def gN(es:List (List Nat))(ms:List Nat):Bool:=
 (List.range es.length).all fun j=>(es.getD j []).all (fun e=>Nat.blt e j)&&(List.range j).all fun i=>!jR ms j i||(es.getD j []).any fun e=>Nat.beq e i||(Nat.blt i e&&jR ms e i)
def wI(a b:an):Bool:=
 (match a.dst with | none=>true | some d=>!(jL b).contains d&&!(b.dst==some d))&&(match b.dst with | none=>true | some d=>!(jL a).contains d)
def gM(ms:List Nat)(i j:Nat)(a b:an):Bool:=jR ms j i||(!(aI a.op&&aI b.op)&&wI a b)
def eE(l:List an)(ms:List Nat):Bool:=
 (List.range l.length).all fun j=>match l[j]? with
  | some b=>(List.range j).all fun i=>match l[i]? with
   | some a=>gM ms i j a b
   | none=>true
  | none=>true
def mT(l:List an)(p:Nat):Bool:=match l[p]? with | some o=>aI o.op | none=>Nat.beq p l.length
def uV(l:List an)(ms:List Nat)(j p:Nat):Bool:=
 mT l p&&(List.range l.length).all fun c=>match l[c]? with
  | some o=>!aI o.op||(bif Nat.blt c p then !jR ms c j else !jR ms j c)
  | none=>true
def qq(l:List an)(j p:Nat):Bool:=Nat.ble j p&&(List.range p).all fun c=>Nat.blt c j||(match l[c]? with | some o=>!aI o.op | none=>true)
def eG(l:List an)(ms:List Nat)(j:Nat):List Nat:=
 match l[j]? with
 | some o=>bif dH o.op then (List.range (l.length+1)).filter (fun p=>!qq l j p&&uV l ms j p) else []
 | none=>[]
theorem qx{es:List (List Nat)}{ms:List Nat}(h:gN es ms=true){m:Nat->Bool}(hm:∀j,j<es.length->m j=true->∀e∈es.getD j [],m e=true) :
  ∀j,j<es.length->(∀e∈es.getD j [],m e=true)->∀i,i<j->jR ms j i=true->m i=true:=by
 intro j
 induction j using Nat.strongRecOn with
 | _ j ih=>
  intro hj hr i hi hb
  unfold gN at h
  rw[List.all_eq_true]at h
  have h1:=h j (List.mem_range.2 hj)
  simp only[QT,List.all_eq_true,List.mem_range,Bool.or_eq_true,Bool.not_eq_true',List.any_eq_true]at h1
  obtain⟨h2,h3⟩:=h1
  rcases h3 i hi with h4 | ⟨e,he,h5⟩
  ·rw[hb]at h4; simp at h4
  ·have hej:e<j:=QW (h2 e he)
   rcases h5 with h5 | ⟨h5,h6⟩
   ·rw[<- nb h5]; exact hr e he
   ·exact ih e hej om (hm e om (hr e he)) i (QW h5) h6
section
variable (P:Program)
def dW(n:Nat):Option Nat->Bool
 | none=>true
 | some d=>Nat.blt d n
def jo(n:Nat)(ops:Array Oper):Option (Nat×Bool)->Option (Option (Nat×Bool))
 | none=>some none
 | some (j,b)=>match (ops[j]?).bind (·.dst) with
  | some d=>bif Nat.blt d n&&Nat.blt d SK then some (some (d,b)) else none
  | none=>none
def eu(n:Nat)(ops:Array Oper)(o:Oper):Option an:=
 match wP P o.op,jo n ops o.guard with
 | some a,some g=>bif dW n o.dst then some ⟨o.dst,a,g⟩ else none
 | _,_=>none
def dd(n:Nat)(ops:Array Oper):List Oper->Option (List an)
 | []=>some []
 | o::r=>match eu P n ops o,dd n ops r with
  | some a,some l=>some (a::l)
  | _,_=>none
end
section
variable {P:Program} {Prot:Gh} {w0:World} {ρ:Pl} {H H':aa} {w:World}
theorem cu{n:Nat}{T:Tr ab}{a:Act}(h:bx ρ n T a.tmps){dst:Option Nat}(hd:dW n dst=true){x:ab}{v:Value}(hx:ak ρ x v):bx ρ n (cQ T dst x) (a.put dst v).tmps:=by
 cases dst with
 | none=>exact h
 | some d=>
  have hd:d<n:=QW hd
  refine⟨by simp[Act.put,h.size],fun t=>?_⟩
  simp only[cQ,ev,Tr.get_set,Act.put]
  by_cases e:t=d
  ·subst e
   rw[if_pos rfl]
   have:t<a.tmps.size:=by rw[h.size]; exact hd
   simpa[this] using hx
  ·rw[if_neg e]
   have:=h.at_ t
   simp only[ev]at this
   rw[Array.getD_eq_getD_getElem?,Array.getElem?_setIfInBounds_ne (fun q=>e q.symm),<- Array.getD_eq_getD_getElem?]
   exact this
theorem ez:ak ρ aX undef:=by simp only[aX,ak,undef]; exact⟨#[],rfl,by simp[ap]⟩
theorem JZ{x:ab}{b:Bool}(h:ak ρ x (.bool b)):x=.bool b:=by
 cases x with
 | bool c=>simp only[ak,Value.bool.injEq]at h; rw[h]
 | ptr a=>cases a <;> simp[ak]at h
 | slice a n r=>cases a with
  | none=>simp[ak]at h
  | some a=>
   simp only[ak]at h
   obtain⟨L,_,_,h⟩:=h
   cases r <;> simp[co]at h
 | map a=>cases a <;> simp[ak]at h
 | val x=>simp only[ak]at h; obtain⟨rfl,h⟩:=h; simp[MS]at h
 | _=>simp[ak]at h
theorem gq{n:Nat}{T:Tr ab}{a:Act}(h:bx ρ n T a.tmps){ops:Array Oper}{o:Oper}{g:Option (Nat×Bool)}(hg:jo n ops o.guard=some g):Region.wanted o (yielded ops a.tmps)=im T g:=by
 unfold Region.wanted
 cases ho:o.guard with
 | none=>rw[ho]at hg; simp only[jo,sJ]at hg; subst hg; rfl
 | some jb=>
  obtain⟨j,b⟩:=jb
  rw[ho]at hg
  simp only[jo]at hg
  split at hg
  ·rename_i d hd
   cases hb:Nat.blt d n&&Nat.blt d SK with
   | false=>rw[hb]at hg; simp at hg
   | true=>
    rw[hb]at hg
    simp only[QT]at hb
    simp only[cond_true,sJ]at hg
    subst hg
    have hlt:d<a.tmps.size:=by rw[h.size]; exact QW hb.1
    obtain⟨k1,k2⟩:=Ot hb.2
    have hat:=h.at_ d
    simp only[yielded,hd,Option.bind_some,im,gV,k1,k2,cond_false]
    rw[Array.getElem?_eq_getElem hlt]
    have e:a.tmps.getD d undef=a.tmps[d]:=by simp[hlt]
    rw[e]at hat
    cases hv:a.tmps[d] with
    | bool c=>
     rw[hv]at hat
     rw[JZ hat]
     cases b <;> cases c <;> rfl
    | _=>
     rw[hv]at hat
     cases hT:ev T (.t d) with
     | bool c=>rw[hT]at hat; simp[ak]at hat
     | _=>rfl
  ·simp at hg
def js(P:Program)(call:FuncId->List ab->aa->Option (ab×aa)):Prop:=
 ∀f args H v H',Nat.blt f cA=true->call f args H=some (v,H')->∀Prot w0 ρ w (vs:Array Value),cg Prot w0 ρ H w->ap ρ args vs.toList ->
  Calls P f vs w fun e w'=>∃ρ' u,ρ.le ρ'/\e=.returned u/\cg Prot w0 ρ' H' w'/\ak ρ' v u
end
theorem sj{P:Program}{n:Nat}{ops:Array Oper}:∀{rest:List Oper} {l:List an},dd P n ops rest=some l->l.length=rest.length/\∀(j:Nat) (o:Oper),rest[j]?=some o->∃a,l[j]?=some a/\eu P n ops o=some a:=by
 intro rest
 induction rest with
 | nil=>intro l h; simp only[dd,sJ]at h; subst h; exact⟨rfl,fun j o h=>by simp at h⟩
 | cons o r ih=>
  intro l h
  simp only[dd]at h
  split at h
  ·rename_i a l' h1 h2
   simp only[sJ]at h
   subst h
   obtain⟨q1,q2⟩:=ih h2
   refine⟨by simp[q1],fun j o' hj=>?_⟩
   cases j with
   | zero=>simp only[QZ,sJ]at hj; subst hj; exact⟨a,rfl,h1⟩
   | succ j=>simpa using q2 j o' (by simpa using hj)
  ·simp at h
theorem ed(m:Nat->Bool):∀(l:List an) (k:Nat),k<=aC m k l/\aC m k l<=k+l.length/\(∀c o,l[c]?=some o->aI o.op=true->k+c<aC m k l->m (k+c)=true) /\
  (∀o,aC m k l<k+l.length->l[aC m k l-k]?=some o->aI o.op=true/\m (aC m k l)=false):=by
 intro l
 induction l with
 | nil=>intro k; exact⟨Nat.le_refl _,Nat.le_refl _,fun c o h=>by simp at h,fun o h=>by simp[aC]at h⟩
 | cons o r ih=>
  intro k
  simp only[aC]
  cases hb:(aI o.op&&!m k) with
  | true=>
   simp only[cond_true,QT,Bool.not_eq_true']at hb ⊢
   refine⟨Nat.le_refl _,by simp,fun c o' _ _ h=>om,fun o' _ h=>?_⟩
   simp only[Nat.sub_self,QZ,sJ]at h
   subst h
   exact hb
  | false=>
   simp only[cond_false]
   obtain⟨h1,h2,h3,h4⟩:=ih (k+1)
   refine⟨om,by simp only[QU]; omega,fun c o' hc hch hlt=>?_,fun o' hlt ho=>?_⟩
   ·cases c with
    | zero=>
     simp only[QZ,sJ]at hc
     subst hc
     rw[hch]at hb
     simpa using hb
    | succ c=>
     rw[show k+(c+1)=k+1+c by omega]
     exact h3 c o' (by simpa using hc) hch om
   ·simp only[QU]at hlt
    refine h4 o' om ?_
    rw[show aC m (k+1) r-k=(aC m (k+1) r-(k+1))+1 by omega]at ho
    simpa using ho
end Go.Abs
namespace Go.Abs
def et:jv->Option (List ab×Option (Nat×Nat))
 | .new z=>some (z,none)
 | .mkSlice by_ z (.c l) (.c c)=>match jA l,jA c with
  | some l,some c=>bif Nat.ble l c&&Nat.ble (by_*c) 281474976710656 then some (ud z c,some (l,c)) else none
  | _,_=>none
 | _=>none
def aF:Nat->List an->List an
 | _,[]=>[]
 | b,o::r=>match et o.op with
  | some (z,s)=>⟨o.dst,.claim b z s,o.guard⟩::aF (b+1) r
  | none=>o::aF b r
def bY:aa->List an->aa
 | H,[]=>H
 | H,o::r=>match et o.op with
  | some (z,_)=>bY (H.push (.cells z 0 false)) r
  | none=>bY H r
structure tO(a b:an):Prop where
 dst:a.dst=b.dst
 chain:aI a.op=aI b.op
 load:dH a.op=dH b.op
 reads:jL a=jL b
theorem tO.refl(a:an):tO a a:=⟨rfl,rfl,rfl,rfl⟩
structure qe(l m:List an):Prop where
 len:l.length=m.length
 at_:∀(i:Nat) (a:an),l[i]?=some a->∃b,m[i]?=some b/\tO a b
theorem qe.cons{a b:an}{l m:List an}(h:tO a b)(k:qe l m):qe (a::l) (b::m):=by
 refine⟨by simp[k.len],fun i x hx=>?_⟩
 cases i with
 | zero=>simp at hx; subst hx; exact⟨b,by simp,h⟩
 | succ i=>simp at hx; simpa using k.at_ i x hx
theorem jD:∀(l:List an) (b c:Nat),qe (aF b l) (aF c l)
 | [],b,c=>⟨rfl,fun i a h=>by simp[aF]at h⟩
 | o::r,b,c=>by
  simp only[aF]
  cases et o.op with
  | none=>exact qe.cons (tO.refl _) (jD r _ _)
  | some p=>
   obtain⟨z,s⟩:=p
   exact qe.cons ⟨rfl,rfl,rfl,rfl⟩ (jD r _ _)
theorem qe.none{l m:List an}(h:qe l m){i:Nat}(hi:l[i]?=none):m[i]?=none:=by
 rw[List.getElem?_eq_none_iff]at hi ⊢
 rw[<- h.len]; exact hi
theorem yj{ms:List Nat}{i j:Nat}{a b a' b':an}(h:tO a a')(k:tO b b'):gM ms i j a b=gM ms i j a' b':=by
 unfold gM wI
 rw[h.chain,k.chain,h.dst,k.dst,h.reads,k.reads]
theorem oL{l m:List an}(h:qe l m)(ms:List Nat):eE l ms=eE m ms:=by
 unfold eE
 rw[h.len]
 congr 1
 funext j
 cases hj:l[j]? with
 | none=>rw[h.none hj]
 | some b=>
  obtain⟨b',hb',kb⟩:=h.at_ j b hj
  rw[hb']
  simp only
  congr 1
  funext i
  cases hi:l[i]? with
  | none=>rw[h.none hi]
  | some a=>
   obtain⟨a',ha',ka⟩:=h.at_ i a hi
   rw[ha']
   simp only
   exact yj ka kb
theorem wz{l m:List an}(h:qe l m)(p:Nat):mT l p=mT m p:=by
 unfold mT
 cases hj:l[p]? with
 | none=>rw[h.none hj,h.len]
 | some b=>
  obtain⟨b',hb',kb⟩:=h.at_ p b hj
  rw[hb']
  exact kb.chain
theorem AJ{l m:List an}(h:qe l m)(ms:List Nat)(j p:Nat):uV l ms j p=uV m ms j p:=by
 unfold uV
 rw[wz h,h.len]
 congr 2
 funext c
 cases hj:l[c]? with
 | none=>rw[h.none hj]
 | some b=>
  obtain⟨b',hb',kb⟩:=h.at_ c b hj
  rw[hb']
  simp only[kb.chain]
theorem Aq{l m:List an}(h:qe l m)(j p:Nat):qq l j p=qq m j p:=by
 unfold qq
 congr 2
 funext c
 cases hj:l[c]? with
 | none=>rw[h.none hj]
 | some b=>
  obtain⟨b',hb',kb⟩:=h.at_ c b hj
  rw[hb']
  simp only[kb.chain]
theorem th{l m:List an}(h:qe l m)(ms:List Nat)(j:Nat):eG l ms j=eG m ms j:=by
 unfold eG
 cases hj:l[j]? with
 | none=>rw[h.none hj]
 | some b=>
  obtain⟨b',hb',kb⟩:=h.at_ j b hj
  rw[hb']
  simp only[kb.load,h.len]
  congr 1
  congr 1
  funext p
  rw[Aq h,AJ h]
theorem wK{P:Program}{c:Call}{z:List ab}(h:kf P c=some (.new z)):False:=by
 unfold kf at h
 repeat' split at h
 all_goals first
  | (simp at h; done)
  | (cases hb:(Nat.beq _ _&&nQ P _) <;> simp[hb]at h; done)
  | skip
 all_goals (revert h; intro h; simp only[cond_eq_ite]at h; split at h <;> simp at h)
theorem wN{P:Program}{o:Op}{z:List ab}(h:pW P o=some (.new z)):False:=by
 unfold pW at h
 repeat' split at h
 all_goals first
  | (simp at h; done)
  | (simp only[cond_eq_ite]at h; split at h <;> first | (simp at h; done) | (split at h <;> simp at h))
theorem LM{P:Program}{o:Op}{z:List ab}(h:wP P o=some (.new z)):∃e,o=.alloc e/\dF P e=some z:=by
 unfold wP at h
 split at h
 ·rename_i a ha
  simp only[sJ]at h
  subst h
  exact (wN ha).elim
 ·split at h
  ·rename_i a ha
   simp only[sJ]at h
   subst h
   cases o <;> simp only[yY,reduceCtorEq]at ha
   case alloc e _=>
    split at ha
    ·rename_i z' hz
     simp only[sJ,jv.new.injEq]at ha
     subst ha
     exact⟨e,rfl,hz⟩
    ·simp at ha
   case call c=>exact (wK ha).elim
   all_goals
    exfalso
    repeat' split at ha
    all_goals first
     | (simp at ha; done)
     | (simp only[cond_eq_ite]at ha; split at ha <;> simp at ha)
  ·simp at h
theorem yV{P:Program}{c:Call}{b:Nat}{z:List ab}{x y:bu}(h:kf P c=some (.mkSlice b z x y)):False:=by
 unfold kf at h
 repeat' split at h
 all_goals first
  | (simp at h; done)
  | (cases hb:(Nat.beq _ _&&nQ P _) <;> simp[hb]at h; done)
  | skip
 all_goals (revert h; intro h; simp only[cond_eq_ite]at h; split at h <;> simp at h)
theorem yX{P:Program}{o:Op}{b:Nat}{z:List ab}{x y:bu}(h:pW P o=some (.mkSlice b z x y)):False:=by
 unfold pW at h
 repeat' split at h
 all_goals first
  | (simp at h; done)
  | (simp only[cond_eq_ite]at h; split at h <;> first | (simp at h; done) | (split at h <;> simp at h))
theorem Om{P:Program}{o:Op}{b:Nat}{z:List ab}{x y:bu}(h:wP P o=some (.mkSlice b z x y)) :
  ∃t l c e m,o=.makeSlice t l c/\P.underlying t=some (.slice e)/\pU P e=some (m,b)/\dF P e=some z/\ck l=some x/\ck c=some y:=by
 unfold wP at h
 split at h
 ·rename_i a ha
  simp only[sJ]at h
  subst h
  exact (yX ha).elim
 ·split at h
  ·rename_i a ha
   simp only[sJ]at h
   subst h
   cases o <;> simp only[yY,reduceCtorEq]at ha
   case makeSlice t l c _=>
    split at ha
    ·rename_i e hu
     split at ha
     ·rename_i m b' z' l' c' h1 h2 h3 h4
      simp only[sJ,jv.mkSlice.injEq]at ha
      obtain⟨rfl,rfl,rfl,rfl⟩:=ha
      exact⟨t,l,c,e,m,rfl,hu,h1,h2,h3,h4⟩
     ·simp at ha
    ·simp at ha
   case call c=>exact (yV ha).elim
   all_goals
    exfalso
    repeat' split at ha
    all_goals first
     | (simp at ha; done)
     | (simp only[cond_eq_ite]at ha; split at ha <;> simp at ha)
  ·simp at h
def xa(P:Program)(o:Op)(z:List ab)(s:Option (Nat×Nat)):Prop:=
 (∃e,o=.alloc e/\dF P e=some z/\s=none) ∨
 ∃t l c e m by_ z0 x y ln cn,o=.makeSlice t l c/\P.underlying t=some (.slice e)/\pU P e=some (m,by_)/\dF P e=some z0/\ck l=some (.c x)/\ck c=some (.c y) /\
  jA x=some ln/\jA y=some cn/\(ln<=cn/\by_*cn<=281474976710656)/\z=ud z0 cn/\s=some (ln,cn)
theorem Gw{P:Program}{o:Op}{a:jv}{z:List ab}{s:Option (Nat×Nat)}(h:wP P o=some a)(hn:et a=some (z,s)):xa P o z s:=by
 unfold et at hn
 split at hn
 ·simp only[sJ,pJ]at hn
  obtain⟨rfl,rfl⟩:=hn
  obtain⟨e,he,hz⟩:=LM h
  exact .inl ⟨e,he,hz,rfl⟩
 ·rename_i by_ z0 x y
  obtain⟨t,l,c,e,m,h1,h2,h3,h4,h5,h6⟩:=Om h
  split at hn
  ·rename_i ln cn hl hc
   cases hb:(Nat.ble ln cn&&Nat.ble (by_*cn) 281474976710656) with
   | false=>rw[hb]at hn; simp at hn
   | true=>
    rw[hb]at hn
    simp only[cond_true,sJ,pJ]at hn
    obtain⟨rfl,rfl⟩:=hn
    simp only[QT,Nat.ble_eq]at hb
    exact .inr ⟨t,l,c,e,m,by_,z0,x,y,ln,cn,h1,h2,h3,h4,h5,h6,hl,hc,hb,rfl,rfl⟩
  ·simp at hn
 ·simp at hn
def EX(P:Program)(n:Nat)(ops:Array Oper)(o:Oper)(a:an)(b:Nat):Prop:=
 ∃z s g,xa P o.op z s/\jo n ops o.guard=some g/\dW n o.dst=true/\a=⟨o.dst,.claim b z s,g⟩
theorem mV{P:Program}{n:Nat}{ops:Array Oper}:∀{rest:List Oper} {l:List an},dd P n ops rest=some l->∀b,(aF b l).length=rest.length /\
  ∀(j:Nat) (o:Oper),rest[j]?=some o->∃a,(aF b l)[j]?=some a/\(eu P n ops o=some a∨∃c,b<=c/\EX P n ops o a c):=by
 intro rest
 induction rest with
 | nil=>intro l h b; simp only[dd,sJ]at h; subst h; exact⟨rfl,fun j o h=>by simp at h⟩
 | cons o r ih=>
  intro l h b
  simp only[dd]at h
  split at h
  ·rename_i a l' ha hl'
   simp only[sJ]at h
   subst h
   have key:∀(x:an) (b':Nat),b<=b'->(eu P n ops o=some x∨∃c,b<=c/\EX P n ops o x c)->aF b (a::l')=x::aF b' l' ->
     (aF b (a::l')).length=(o::r).length/\∀(j:Nat) (o':Oper),(o::r)[j]?=some o'->∃a',(aF b (a::l'))[j]?=some a'/\(eu P n ops o'=some a'∨∃c,b<=c/\EX P n ops o' a' c):=by
    intro x b' hb hx he
    rw[he]
    obtain⟨i1,i2⟩:=ih hl' b'
    refine⟨by simp[i1],fun j o' hj=>?_⟩
    cases j with
    | zero=>simp at hj; subst hj; exact⟨x,by simp,hx⟩
    | succ j=>
     simp at hj
     obtain⟨a',h1,h2⟩:=i2 j o' hj
     refine⟨a',by simpa using h1,?_⟩
     rcases h2 with h2 | ⟨c,h2,h3⟩
     ·exact .inl h2
     ·exact .inr ⟨c,om,h3⟩
   cases hop:et a.op with
   | some p=>
    obtain⟨z,s⟩:=p
    refine key ⟨a.dst,.claim b z s,a.guard⟩ (b+1) om ?_ (by simp only[aF,hop])
    unfold eu at ha
    split at ha
    ·rename_i ax g hopc hg
     cases hdst:dW n o.dst with
     | false=>rw[hdst]at ha; simp at ha
     | true=>
      rw[hdst]at ha
      simp only[cond_true,sJ]at ha
      subst ha
      exact .inr ⟨b,Nat.le_refl _,z,s,g,Gw hopc hop,hg,hdst,rfl⟩
    ·simp at ha
   | none=>exact key a b rL (.inl ha) (by simp only[aF,hop])
  ·simp at h
end Go.Abs
