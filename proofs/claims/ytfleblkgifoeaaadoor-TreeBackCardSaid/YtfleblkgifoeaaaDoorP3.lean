/- Part of a proof (A9 A10 D1 D2 D3 D3b); no condition. -/
import Derived.Orders
import Derived.Test.YtfleblkgifoeaaaDoorP2
set_option linter.unusedSimpArgs false
set_option linter.unusedVariables false
set_option linter.unnecessarySimpa false
namespace Go.Abs
def bN:Nat:=1024
inductive aV where
 | t (i:Nat)
 | c (v:aa)
 | f (id:FuncId)
inductive gZ where
 | mv (x:aV)
 | pick (c a b:aV)
 | new (zero:List aa)
 | box (x:aV)
 | build (zero:List aa) (parts:List (Nat×Nat×aV))
 | buildSl (len:Nat) (zero:List aa) (parts:List (Nat×Nat×aV))
 | load (agg:Bool) (size:Nat) (x:aV)
 | store (size:Nat) (a x:aV)
 | nilChk (x:aV)
 | bin (op:BinOp) (x y:aV)
 | un (op:UnOp) (x:aV)
 | conv (k:IntKind) (x:aV)
 | convSB (x:aV)
 | convBS (x:aV)
 | mkFunc (fn:Fn) (first captured:List aV)
 | mkIface (t:TypeId) (x:aV)
 | mkSlice (bytes:Nat) (zero:List aa) (l c:aV)
 | sl (size:Nat) (x:aV) (lo hi mx:Option aV)
 | slStr (x:aV) (lo hi:Option aV)
 | fieldA (off:Nat) (x:aV)
 | field (agg:Bool) (size off:Nat) (x:aV)
 | idxA (size:Nat) (x i:aV)
 | idxArr (n size:Nat) (x i:aV)
 | idx (n size:Nat) (agg:Bool) (x i:aV)
 | idxS (x i:aV)
 | extract (i:Nat) (x:aV)
 | append (size bytes:Nat) (s x:aV)
 | len (str:Bool) (x:aV)
 | call (f:FuncId) (args:List aV)
 | callv (f:aV) (args:List aV)
 | pf (f:PF) (xs:List aV)
 | hf (f:HF) (xs:List aV)
 | bad
 | claim (b:Nat) (zero:List aa) (s:Option (Nat×Nat))
 | slA (n size:Nat) (x:aV) (lo hi mx:Option aV)
inductive Nx where
 | val (v:aa)
 | enter (f:FuncId) (args:List aa)
def aN:aa:=.tuple []
def ev(T:Tr aa):aV->aa
 | .t i=>match T.get i with
  | some v=>v
  | none=>aN
 | .c v=>v
 | .f id=>.func (.func id) [] []
def fo(T:Tr aa):List aV->List aa
 | []=>[]
 | x::r=>ev T x::fo T r
def wT(T:Tr aa):Option aV->Option aa
 | none=>none
 | some x=>some (ev T x)
def yb(T:Tr aa):List (Nat×Nat×aV)->List (Nat×Nat×aa)
 | []=>[]
 | (o,n,x)::r=>(o,n,ev T x)::yb T r
def vv(H:ab):Option aa->Option (Nx×ab)
 | some v=>some (.val v,H)
 | none=>none
def vh:Option (aa×ab)->Option (Nx×ab)
 | some (v,H)=>some (.val v,H)
 | none=>none
def cf:aa->Option aa
 | .ptr none=>none
 | .nilIface=>none
 | .nilFunc=>none
 | .func (.method _) _ _=>none
 | .val _=>none
 | x=>some x
def gh(str:Bool):aa->Option aa
 | .str s=>bif str then some (.int .i64 s.length) else none
 | .slice _ n _=>bif str then none else some (.int .i64 n)
 | .val (.slice _ n _)=>bif str then none else some (.int .i64 n)
 | _=>none
def bG(tb:FuncId->Bool)(T:Tr aa)(H:ab):gZ->Option (Nx×ab)
 | .mv x=>some (.val (ev T x),H)
 | .pick c a b=>match ev T c with
  | .bool b'=>some (.val (bif b' then ev T a else ev T b),H)
  | _=>none
 | .new z=>vh (some (fm H z))
 | .box x=>vh (some (fm H (ev T x).cells))
 | .build z ps=>vv H (bT z (yb T ps))
 | .buildSl n z ps=>vh (cA n z H (yb T ps))
 | .load a n x=>vv H (am a n H (ev T x))
 | .store n a x=>match bx n H (ev T a) (ev T x) with
  | some H'=>some (.val aN,H')
  | none=>none
 | .nilChk x=>vv H (cf (ev T x))
 | .bin op x y=>vv H (cB op (ev T x) (ev T y))
 | .un op x=>vv H (IR op (ev T x))
 | .conv k x=>vv H (pi k (ev T x))
 | .convSB x=>vh (Lp H (ev T x))
 | .convBS x=>vv H (GL H (ev T x))
 | .mkFunc fn a b=>some (.val (.func fn (fo T a) (fo T b)),H)
 | .mkIface t x=>some (.val (.iface t (ev T x)),H)
 | .mkSlice b z l c=>vh (ph b z H (ev T l) (ev T c))
 | .sl n x lo hi mx=>vv H (Lo n (ev T x) (wT T lo) (wT T hi) (wT T mx))
 | .slStr x lo hi=>vv H (ec (ev T x) (wT T lo) (wT T hi))
 | .fieldA o x=>vv H (gp o (ev T x))
 | .field a n o x=>vv H (lG a n o (ev T x))
 | .idxA n x i=>vv H (eB n (ev T x) (ev T i))
 | .idxArr m n x i=>vv H (iB m n (ev T x) (ev T i))
 | .idx m n a x i=>vv H (z7 m n a (ev T x) (ev T i))
 | .idxS x i=>vv H (jk (ev T x) (ev T i))
 | .extract i x=>vv H (eC i (ev T x))
 | .append n b s x=>vh (bI n b H (ev T s) (ev T x))
 | .len s x=>vv H (gh s (ev T x))
 | .call f args=>bif tb f then some (.enter f (fo T args),H) else none
 | .callv f args=>match ev T f with
  | .func (.func f) a b=>bif Nat.blt f bN&&tb f then some (.enter f (a++fo T args++b),H) else none
  | _=>none
 | .pf f xs=>vv H (jJ f (fo T xs))
 | .hf f xs=>vh (BW f H (fo T xs))
 | .bad=>none
 | .claim b z s=>vv H (eN H b z s)
 | .slA m n x lo hi mx=>vv H (kG m n (ev T x) (wT T lo) (wT T hi) (wT T mx))
section
variable (P:Program)
def bA:Operand->Option aV
 | .tmp t=>some (.t t)
 | .const v=>match IP v with
  | some x=>some (.c x)
  | none=>none
 | .global _=>none
 | .func f=>some (.f f)
def di:List Operand->Option (List aV)
 | []=>some []
 | x::r=>match bA x,di r with
  | some y,some l=>some (y::l)
  | _,_=>none
def lN:Option Operand->Option (Option aV)
 | none=>some none
 | some x=>match bA x with
  | some y=>some (some y)
  | none=>none
def kB(place:Nat->Option (Nat×Nat)):List (Nat×Operand)->Option (List (Nat×Nat×aV))
 | []=>some []
 | (i,x)::r=>match place i,bA x,kB place r with
  | some (o,n),some y,some l=>some ((o,n,y)::l)
  | _,_,_=>none
def bq(f:FuncId):Bool:=
 Nat.blt f bN&&match P.funcs[f]? with
 | some fn => fn.body.isSome && !(fn.name == "runtime.NumGoroutine")
 | none=>false
def mz(t:TypeId):Bool:=
 match P.underlying t with
 | some (.slice _)=>true
 | some .string=>true
 | _=>false
def je(c:Call):Option gZ:=
 match c.callee with
 | .value (.func f)=>bif Nat.blt f bN then match di c.args.toList with
   | some l=>some (.call f l)
   | none=>none
  else none
 | .value x=>match bA x,di c.args.toList with
  | some y,some l=>some (.callv y l)
  | _,_=>none
 | .builtin .append=>match c.argTypes.toList,di c.args.toList with
  | [sT,xT],some [s,x]=>match P.underlying sT with
   | some (.slice e)=>match eT P e,ov P e with
    | some (_,n),some (n',b)=>bif Nat.beq n n'&&mz P xT then some (.append n b s x) else none
    | _,_=>none
   | _=>none
  | _,_=>none
 | .builtin .len=>match c.argTypes.toList,di c.args.toList with
  | [T],some [x]=>match P.underlying T with
   | some (.slice _)=>some (.len false x)
   | some .string=>some (.len true x)
   | _=>none
  | _,_=>none
 | _=>none
def xm(o:Op):Option gZ:=
 match o with
 | .move x=>match bA x with | some y=>some (.mv y) | none=>none
 | .assign x=>match bA x with | some y=>some (.mv y) | none=>none
 | .pick c a b=>match bA c,bA a,bA b with | some c,some a,some b=>some (.pick c a b) | _,_,_=>none
 | .alloc e=>match da P e with | some z=>some (.new z) | none=>none
 | .box _ x=>match bA x with | some y=>some (.box y) | none=>none
 | .build t ps=>match P.underlying t,da P t with
  | some (.struct fs),some z=>match iV P fs.toList with
   | some pl=>match kB (fun i=>pl[i]?) ps.toList with
    | some l=>some (.build z l)
    | none=>none
   | none=>none
  | some (.array _ e),some z=>match eT P e with
   | some (_,n)=>match kB (fun i=>some (i*n,n)) ps.toList with
    | some l=>some (.build z l)
    | none=>none
   | none=>none
  | _,_=>none
 | .buildSlice t len ps=>match P.underlying t with
  | some (.slice e)=>match eT P e,da P e with
   | some (_,n),some z=>match kB (fun i=>some (i*n,n)) ps.toList with
    | some l=>bif Nat.beq z.length n&&Nat.ble (len*n) 16777216 then some (.buildSl len z l) else none
    | none=>none
   | _,_=>none
  | _=>none
 | .load t a=>match eT P t,bA a with | some (g,n),some y=>some (.load g n y) | _,_=>none
 | .store t a x=>match eT P t,bA a,bA x with | some (_,n),some a,some y=>some (.store n a y) | _,_,_=>none
 | .nilCheck x=>match bA x with | some y=>some (.nilChk y) | none=>none
 | .binOp op _ x y _=>match bA x,bA y with | some a,some b=>some (.bin op a b) | _,_=>none
 | .unOp op _ x=>match bA x with | some y=>some (.un op y) | none=>none
 | .convert s d x=>match bA x with
  | some y=>match P.underlying s,P.underlying d with
   | some _,some (.int k)=>some (.conv k y)
   | some .string,some (.slice e)=>match P.underlying e with
    | some (.int .u8)=>some (.convSB y)
    | _=>none
   | some (.slice e),some .string=>match P.underlying e with
    | some (.int .u8)=>some (.convBS y)
    | _=>none
   | _,_=>none
  | none=>none
 | .makeInterface t x=>match bA x,P.underlying t with
  | some _,some (.interface _)=>none
  | some y,some _=>some (.mkIface t y)
  | _,_=>none
 | .makeFunc fn a b=>match di a.toList,di b.toList with | some a,some b=>some (.mkFunc fn a b) | _,_=>none
 | .makeSlice t l c=>match P.underlying t with
  | some (.slice e)=>match ov P e,da P e,bA l,bA c with
   | some (_,b),some z,some l,some c=>some (.mkSlice b z l c)
   | _,_,_,_=>none
  | _=>none
 | .slice t x lo hi mx=>match P.underlying t,bA x,lN lo,lN hi,lN mx with
  | some .string,some x,some lo,some hi,some none=>some (.slStr x lo hi)
  | some (.slice e),some x,some lo,some hi,some mx=>match eT P e with
   | some (_,n)=>some (.sl n x lo hi mx)
   | none=>none
  | _,_,_,_,_=>none
 | .fieldAddr s x i=>match P.underlying s,bA x with
  | some (.struct fs),some y=>match fs[i]? with
   | some f=>match eT P f.type with
    | some (_,n)=>bif Nat.beq n 0 then none else some (.fieldA f.offset y)
    | none=>none
   | none=>none
  | _,_=>none
 | .field s x i=>match P.underlying s,bA x with
  | some (.struct fs),some y=>match fs[i]? with
   | some f=>match eT P f.type with
    | some (g,n)=>some (.field g n f.offset y)
    | none=>none
   | none=>none
  | _,_=>none
 | .indexAddr t x i=>match P.underlying t,bA x,bA i with
  | some (.slice e),some x,some i=>match eT P e with
   | some (_,n)=>some (.idxA n x i)
   | none=>none
  | some (.array m e),some x,some i=>match eT P e with
   | some (_,n)=>some (.idxArr m n x i)
   | none=>none
  | _,_,_=>none
 | .index t x i=>match P.underlying t,bA x,bA i with
  | some .string,some x,some i=>some (.idxS x i)
  | some (.array m e),some x,some i=>match eT P e with
   | some (g,n)=>some (.idx m n g x i)
   | none=>none
  | _,_,_=>none
 | .extract x i=>match bA x with | some y=>some (.extract i y) | none=>none
 | .call c=>je P c
 | _=>none
def oz(o:Op):Option gZ:=
 match o with
 | .binOp .eql t x y _=>match bA x,bA y with
  | some a,some b=>match oZ P t x y with
   | some k=>some (.pf (.eqv false k) [a,b])
   | none=>match vd P t with
    | some fs=>some (.pf (.eqS false fs) [a,b])
    | none=>none
  | _,_=>none
 | .binOp .neq t x y _=>match bA x,bA y with
  | some a,some b=>match oZ P t x y with
   | some k=>some (.pf (.eqv true k) [a,b])
   | none=>match vd P t with
    | some fs=>some (.pf (.eqS true fs) [a,b])
    | none=>none
  | _,_=>none
 | .range t x=>match P.underlying t,bA x with
  | some .string,some y=>some (.hf .strRange [y])
  | _,_=>none
 | .next x true=>match bA x with
  | some y=>some (.hf .strNext [y])
  | none=>none
 | .slice t x lo hi mx=>match P.underlying t,bA x,lN lo,lN hi,lN mx with
  | some (.array m e),some x,some lo,some hi,some mx=>match eT P e with
   | some (_,n)=>some (.slA m n x lo hi mx)
   | none=>none
  | _,_,_,_,_=>none
 | .convert s d x=>bif Nat.beq s d then (match P.underlying s,bA x with
  | some (.slice e),some y=>match P.underlying e with
   | some (.int .u8)=>some (.hf .mark [y])
   | _=>none
  | _,_=>none) else none
 | .call c=>match c.callee with
  | .builtin .max=>match di c.args.toList with
   | some l=>some (.pf (.mm true) l)
   | none=>none
  | .builtin .clear=>match c.argTypes.toList,di c.args.toList with
   | [t],some [x]=>match P.underlying t with
    | some (.slice e)=>match da P e with
     | some z=>some (.hf (.clr z) [x])
     | none=>none
    | _=>none
   | _,_=>none
  | .builtin .copy=>match c.argTypes.toList,di c.args.toList with
   | [t,_],some [s,x]=>match P.underlying t with
    | some (.slice e)=>match eT P e with
     | some (_,n)=>some (.hf (.cpy n) [s,x])
     | none=>none
    | _=>none
   | _,_=>none
  | .builtin .min=>match di c.args.toList with
   | some l=>some (.pf (.mm false) l)
   | none=>none
  | .value (.func f)=>bif AX P f then match di c.args.toList with
    | some l=>some (.pf .ibs l)
    | none=>none
   else bif AY P f then match di c.args.toList with
    | some l=>some (.pf .cbs l)
    | none=>none
   else none
  | _=>none
 | .indexAddr t (.global g) i=>match P.underlying t,bA i with
  | some (.array m e),some i=>match eT P e with
   | some (_,n)=>some (.hf (.gIdx g m n) [i])
   | none=>none
  | _,_=>none
 | .load t (.global g)=>match eT P t with
  | some (a,n)=>some (.hf (.gLd g a n) [])
  | none=>none
 | .fieldAddr s (.global g) i=>match P.underlying s with
  | some (.struct fs)=>match fs[i]? with
   | some f=>match eT P f.type with
    | some (_,n)=>bif Nat.beq n 0 then none else some (.hf (.gFld g f.offset) [])
    | none=>none
   | none=>none
  | _=>none
 | .sliceToArrayPointer t x=>match P.underlying t,bA x with
  | some (.array n _),some y=>some (.pf (.s2a n) [y])
  | _,_=>none
 | .makeMap _ none=>some (.hf .mkMap [])
 | .lookup t m k ok=>match P.underlying t,bA m,bA k with
  | some (.map kt el),some m,some k=>match qH P kt,pP P el with
   | some kc,some z=>some (.hf (.mLook kc ok z) [m,k])
   | _,_=>none
  | _,_,_=>none
 | .mapEntry t m k=>match P.underlying t,bA m,bA k with
  | some (.map kt el),some m,some k=>match qH P kt,pP P el with
   | some kc,some z=>some (.hf (.mf (.entry kc z)) [m,k])
   | _,_=>none
  | _,_,_=>none
 | .entryStore _ m n x=>match bA m,bA n,bA x with
  | some m,some n,some x=>some (.hf (.mf .store) [m,n,x])
  | _,_,_=>none
 | .mapUpdate t m k x=>match P.underlying t,bA m,bA k,bA x with
  | some (.map kt _),some m,some k,some x=>match qH P kt with
   | some kc=>some (.hf (.mf (.upd kc)) [m,k,x])
   | none=>none
  | _,_,_,_=>none
 | .insert t m k x=>match P.underlying t,bA m,bA k,bA x with
  | some (.map kt _),some m,some k,some x=>match qH P kt with
   | some kc=>some (.hf (.mf (.upd kc)) [m,k,x])
   | none=>none
  | _,_,_,_=>none
 | .typeAssert x _ t ok=>match P.underlying t,pP P t,bA x with
  | some (.interface _),_,_=>none
  | some _,some z,some y=>some (.pf (.tAss t ok z) [y])
  | _,_,_=>none
 | _=>none
def vq(o:Op):Option gZ:=
 match oz P o with
 | some a=>some a
 | none=>match xm P o with
  | some a=>some a
  | none=>some .bad
end
section
variable {P:Program} {Prot:Gh} {w0:World} {ρ:Pl} {H H':ab} {w:World}
structure aW(ρ:Pl)(n:Nat)(T:Tr aa)(tmps:Array Value):Prop where
 size:tmps.size=n
 at_:∀t,ae ρ (ev T (.t t)) (tmps.getD t undef)
theorem aW.mono{ρ ρ':Pl}{n:Nat}{T:Tr aa}{tmps:Array Value}(h:ρ.le ρ')(t:aW ρ n T tmps):aW ρ' n T tmps:=⟨t.size,fun i=>ae.mono h _ _ (t.at_ i)⟩
theorem az{n:Nat}{T:Tr aa}{a:Act}(h:aW ρ n T a.tmps){x:Operand}{y:aV}(hc:bA x=some y):ae ρ (ev T y) (a.eval x):=by
 cases x with
 | tmp t=>simp only[bA,sJ]at hc; subst hc; exact h.at_ t
 | const v=>
  simp only[bA]at hc
  split at hc
  ·rename_i x hx
   simp only[sJ]at hc
   subst hc
   exact BV hx
  ·simp at hc
 | global g=>simp[bA]at hc
 | func f=>
  simp only[bA,sJ]at hc
  subst hc
  simp only[ev,Act.eval,ae]
  exact⟨#[],#[],rfl,by simp[aj],by simp[aj]⟩
theorem fJ{n:Nat}{T:Tr aa}{a:Act}(h:aW ρ n T a.tmps):∀{l:List Operand} {m:List aV},di l=some m->aj ρ (fo T m) (l.map a.eval):=by
 intro l
 induction l with
 | nil=>intro m hc; simp only[di,sJ]at hc; subst hc; simp[fo,aj]
 | cons x r ih=>
  intro m hc
  simp only[di]at hc
  split at hc
  ·rename_i y l' h1 h2
   simp only[sJ]at hc
   subst hc
   simp only[fo,List.map_cons,aj]
   exact⟨_,_,rfl,az h h1,ih h2⟩
  ·simp at hc
theorem ig{n:Nat}{T:Tr aa}{a:Act}(h:aW ρ n T a.tmps){x:Option Operand}{y:Option aV}(hc:lN x=some y):fk ρ (wT T y) (x.map a.eval):=by
 cases x with
 | none=>simp only[lN,sJ]at hc; subst hc; rfl
 | some x=>
  simp only[lN]at hc
  split at hc
  ·rename_i z hz
   simp only[sJ]at hc
   subst hc
   exact⟨_,rfl,az h hz⟩
  ·simp at hc
theorem nj{n:Nat}{T:Tr aa}{a:Act}(h:aW ρ n T a.tmps){place:Nat->Option (Nat×Nat)}:∀{l:List (Nat×Operand)} {m:List (Nat×Nat×aV)},kB place l=some m ->
  ed ρ place (yb T m) (l.map fun p=>(p.1,a.eval p.2)):=by
 intro l
 induction l with
 | nil=>intro m hc; simp only[kB,sJ]at hc; subst hc; simp[yb,ed]
 | cons x r ih=>
  intro m hc
  obtain⟨i,x⟩:=x
  simp only[kB]at hc
  split at hc
  ·rename_i o k y l' h1 h2 h3
   simp only[sJ]at hc
   subst hc
   simp only[yb,List.map_cons,ed]
   exact⟨_,_,_,rfl,h1,az h h2,ih h3⟩
  ·simp at hc
def jm(P:Program)(ρ:Pl):Nx->Next->Prop
 | .val x,.value v=>ae ρ x v
 | .val x,.skip=>ae ρ x undef
 | .enter f l,.enter g vs=>g=f/\Nat.blt f bN=true/\aj ρ l vs.toList
 | _,_=>False
def aU(P:Program)(Prot:Gh)(w0:World)(ρ:Pl)(w:World)(s:Sem Next)(nx:Nx)(H':ab):Prop:=
 ∃ρ' w' n,ρ.le ρ'/\s.run P w=.ok n w'/\bv Prot w0 ρ' H' w'/\jm P ρ' nx n
theorem aU.val(R:bv Prot w0 ρ H w){x:aa}{s:Sem Value}(h:∃u,s.run P w=.ok u w/\ae ρ x u):aU P Prot w0 ρ w (do pure (.value (<- s))) (.val x) H:=by
 obtain⟨u,h1,h2⟩:=h
 exact⟨ρ,w,.value u,Pl.le_refl _,by simp only[Sem.run_bind,h1,Result.andThen_ok]; rfl,R,h2⟩
theorem aU.good{x:aa}{s:Sem Value}(h:dL P Prot w0 ρ w s x H'):aU P Prot w0 ρ w (do pure (.value (<- s))) (.val x) H':=by
 obtain⟨ρ',w',u,h1,h2,h3,h4⟩:=h
 exact⟨ρ',w',.value u,h1,by simp only[Sem.run_bind,h2,Result.andThen_ok]; rfl,h3,h4⟩
theorem bi{x:Option aa}{nx:Nx}(h:vv H x=some (nx,H')):∃y,x=some y/\nx=.val y/\H'=H:=by
 unfold vv at h
 split at h
 ·simp only[sJ,pJ]at h; exact⟨_,rfl,h.1.symm,h.2.symm⟩
 ·simp at h
theorem cq{x:Option (aa×ab)}{nx:Nx}(h:vh x=some (nx,H')):∃y,x=some (y,H')/\nx=.val y:=by
 unfold vh at h
 split at h
 ·simp only[sJ,pJ]at h; obtain⟨rfl,rfl⟩:=h; exact⟨_,rfl,rfl⟩
 ·simp at h
theorem Cv(R:bv Prot w0 ρ H w){x y:aa}{v:Value}(hx:ae ρ x v)(h:cf x=some y)(o:Oper){q:Operand}(ev':Operand->Value)(hv:ev' q=v) :
  aU P Prot w0 ρ w (execOp ev' { o with op:=.nilCheck q }) (.val y) H:=by
 have hy:y=x/\(∀b,execOp ev' { o with op:=.nilCheck q }=pure (.value v)∨b=true):=by
  cases x with
  | val a=>simp[cf]at h
  | ptr a=>
   cases a with
   | none=>simp[cf]at h
   | some a=>
    simp only[cf,sJ]at h
    simp only[ae]at hx
    obtain⟨L,_,_,rfl⟩:=hx
    exact⟨h.symm,fun _=>.inl (by simp[execOp,hv])⟩
  | nilIface=>simp[cf]at h
  | nilFunc=>simp[cf]at h
  | func fn a b=>
   cases fn <;> simp only[cf,sJ,reduceCtorEq]at h
   all_goals
    simp only[ae]at hx
    obtain⟨f,c,rfl,_⟩:=hx
    exact⟨h.symm,fun _=>.inl (by simp[execOp,hv])⟩
  | slice a n r=>
   simp only[cf,sJ]at h
   have:∃b m c,v=.slice b m c:=by
    cases a with
    | none=>simp only[ae]at hx; exact⟨_,_,_,hx.2.2⟩
    | some a=>obtain⟨_,_,_,_,_,h3,_⟩:=cr hx; exact⟨_,_,_,h3⟩
   obtain⟨b,m,c,rfl⟩:=this
   exact⟨h.symm,fun _=>.inl (by simp[execOp,hv])⟩
  | map a=>
   simp only[cf,sJ]at h
   cases a with
   | none=>simp only[ae]at hx; subst hx; exact⟨h.symm,fun _=>.inl (by simp[execOp,hv])⟩
   | some a=>simp only[ae]at hx; obtain⟨L,_,rfl⟩:=hx; exact⟨h.symm,fun _=>.inl (by simp[execOp,hv])⟩
  | bool b=>simp only[cf,sJ]at h; simp only[ae]at hx; subst hx; exact⟨h.symm,fun _=>.inl (by simp[execOp,hv])⟩
  | int b c=>simp only[cf,sJ]at h; simp only[ae]at hx; subst hx; exact⟨h.symm,fun _=>.inl (by simp[execOp,hv])⟩
  | str b=>simp only[cf,sJ]at h; simp only[ae]at hx; subst hx; exact⟨h.symm,fun _=>.inl (by simp[execOp,hv])⟩
  | iface t b=>simp only[cf,sJ]at h; simp only[ae]at hx; obtain⟨_,rfl,_⟩:=hx; exact⟨h.symm,fun _=>.inl (by simp[execOp,hv])⟩
  | agg l=>simp only[cf,sJ]at h; simp only[ae]at hx; obtain⟨_,rfl,_⟩:=hx; exact⟨h.symm,fun _=>.inl (by simp[execOp,hv])⟩
  | tuple l=>simp only[cf,sJ]at h; simp only[ae]at hx; obtain⟨_,rfl,_⟩:=hx; exact⟨h.symm,fun _=>.inl (by simp[execOp,hv])⟩
 obtain⟨rfl,h2⟩:=hy
 rcases h2 false with h2 | h2
 ·exact⟨ρ,w,.value v,Pl.le_refl _,by rw[h2]; rfl,R,hx⟩
 ·simp at h2
end
end Go.Abs
namespace Go.Abs
section
variable {P:Program} {Prot:Gh} {w0:World} {ρ:Pl} {H H':ab} {w:World}
theorem zB{op:BinOp}{t:TypeId}{x y:Operand}{u v:Value}{p q r:aa}(hx:ae ρ p u)(hy:ae ρ q v)(h:cB op p q=some r):(eqGuard op t x y u v).run P w=.ok () w:=by
 unfold cB at h
 split at h
 ·simp only[ae]at hx hy
  subst hx hy
  cases op <;> rfl
 ·simp only[ae]at hx hy
  subst hx hy
  cases op <;> rfl
 ·simp at h
theorem C9{b:Bool}{v:Value}(h:ae ρ (.bool b) v):(asBool v).run P w=.ok b w:=by
 simp only[ae]at h; subst h; rfl
theorem eR{f:FuncId}(h:bq P f=true)(args:Array Value):(callFunc f args).run P w=.ok (.enter f args) w:=by
 unfold bq at h
 rw[N4]at h
 replace h:=h.2
 split at h
 ·rename_i fn hf
  simp only[N4,Bool.not_eq_true']at h
  have h1:fn.body.isNone=false:=by
   cases hb:fn.body with
   | none=>rw[hb]at h; simp at h
   | some b=>rfl
  simp only[callFunc,Sem.run_bind,run_program,Result.andThen_ok,hf,h.2,Oc,if_false,h1]
  rfl
 ·simp at h
theorem HB{t:TypeId}(h:mz P t=true):GO P t:=by
 unfold mz at h
 split at h
 ·rename_i e he; exact .inl ⟨e,he⟩
 ·rename_i he; exact .inr he
 ·simp at h
theorem Aj{α:Type}{x y:α}{arr:Array α}(h:arr.toList=[x,y]):arr=#[x,y]:=Array.toList_inj.1 (by simpa using h)
theorem wv{x y:aV}{l:List Operand}(h:di l=some [x,y]):∃p q,l=[p,q]/\bA p=some x/\bA q=some y:=by
 cases l with
 | nil=>simp[di]at h
 | cons p l=>
  cases l with
  | nil=>
   simp only[di]at h
   split at h
   ·rename_i a b h1 h2
    simp only[sJ,List.cons.injEq]at h h2
    rw[<- h2]at h
    simp at h
   ·simp at h
  | cons q l=>
   cases l with
   | nil=>
    simp only[di]at h
    split at h
    ·rename_i a b h1 h2
     split at h2
     ·rename_i c d h3 h4
      simp only[sJ]at h4 h2
      subst h4
      subst h2
      simp only[sJ,List.cons.injEq,and_true]at h
      obtain⟨rfl,rfl⟩:=h
      exact⟨p,q,rfl,h1,h3⟩
     ·simp at h2
    ·simp at h
   | cons r l=>
    simp only[di]at h
    split at h
    ·rename_i a b h1 h2
     split at h2
     ·rename_i c d h3 h4
      split at h4
      ·rename_i e f h5 h6
       simp only[sJ]at h4 h2
       subst h4
       subst h2
       simp at h
      ·simp at h4
     ·simp at h2
    ·simp at h
theorem wx{x:aV}{l:List Operand}(h:di l=some [x]):∃p,l=[p]/\bA p=some x:=by
 cases l with
 | nil=>simp[di]at h
 | cons p l=>
  cases l with
  | nil=>
   simp only[di]at h
   split at h
   ·rename_i a b h1 h2
    simp only[sJ,List.cons.injEq]at h h2
    subst h2
    obtain⟨rfl,_⟩:=h
    exact⟨p,rfl,h1⟩
   ·simp at h
  | cons q l=>
   simp only[di]at h
   split at h
   ·rename_i a b h1 h2
    split at h2
    ·rename_i c d h3 h4
     simp only[sJ]at h2
     subst h2
     simp at h
    ·simp at h2
   ·simp at h
theorem FR{tb:FuncId->Bool}(htb:∀f,Nat.blt f bN=true->tb f=true->bq P f=true)(R:bv Prot w0 ρ H w){n:Nat}{T:Tr aa}{a:Act}(ht:aW ρ n T a.tmps)(o:Oper)(c:Call){ao:gZ}(hc:je P c=some ao)
  {nx:Nx} (h:bG tb T H ao=some (nx,H')):aU P Prot w0 ρ w (execOp a.eval { o with op:=.call c }) nx H':=by
 obtain⟨callee,args,argTypes⟩:=c
 unfold je at hc
 split at hc
 ·-- a function
  rename_i f heq
  simp only at heq
  subst heq
  cases hbig:Nat.blt f bN with
  | false=>rw[hbig]at hc; simp at hc
  | true=>
  rw[hbig]at hc
  simp only[cond_true]at hc
  split at hc
  ·rename_i l hl
   simp only[sJ]at hc
   subst hc
   simp only[bG]at h
   cases hb:tb f with
   | false=>rw[hb]at h; simp at h
   | true=>
    rw[hb]at h
    simp only[cond_true,sJ,pJ]at h
    obtain⟨rfl,rfl⟩:=h
    refine⟨ρ,w,.enter f (args.map a.eval),Pl.le_refl _,?_,R,rfl,hbig,?_⟩
    ·have:=eR (P:=P) (w:=w) (htb f hbig hb) (args.map a.eval)
     simp[execOp,resolve,Act.eval,Deferred.ofValue,invoke,this]
    ·simpa using fJ ht hl
  ·simp at hc
 ·rename_i x _ heq
  simp only at heq
  subst heq
  split at hc
  ·rename_i y l hy hl
   simp only[sJ]at hc
   subst hc
   simp only[bG]at h
   split at h
   ·rename_i f fs cs hev
    cases hb':(Nat.blt f bN&&tb f) with
    | false=>rw[hb']at h; simp at h
    | true=>
     rw[hb']at h
     simp only[N4]at hb'
     obtain⟨hbig,hb⟩:=hb'
     simp only[cond_true,sJ,pJ]at h
     obtain⟨rfl,rfl⟩:=h
     have hv:=az ht hy
     rw[hev]at hv
     simp only[ae]at hv
     obtain⟨fv,cv,hfv,h1,h2⟩:=hv
     refine⟨ρ,w,.enter f (fv++args.map a.eval++cv),Pl.le_refl _,?_,R,rfl,hbig,?_⟩
     ·have:=eR (P:=P) (w:=w) (htb f hbig hb) (fv++args.map a.eval++cv)
      simp only[Array.append_assoc]at this
      simp[execOp,resolve,hfv,Deferred.ofValue,invoke,this]
     ·simpa using aj.append (aj.append h1 (fJ ht hl)) h2
   ·simp at h
  ·simp at hc
 ·-- append
  rename_i heq
  simp only at heq
  subst heq
  split at hc
  ·rename_i sT xT s x hT hO
   simp only at hT hO
   obtain⟨p,q,hpq,hp,hq⟩:=wv hO
   have ha:=Aj hT
   have hb:=Aj hpq
   subst ha hb
   split at hc
   ·rename_i e he
    split at hc
    ·rename_i g m m' b h1 h2
     cases hg:(Nat.beq m m'&&mz P xT) with
     | false=>rw[hg]at hc; simp at hc
     | true=>
      rw[hg]at hc
      simp only[N4]at hg
      simp only[cond_true,sJ]at hc
      subst hc
      have:=N8 hg.1
      subst this
      simp only[bG]at h
      obtain⟨y,hy,rfl⟩:=cq h
      have:=aU.good (Da (P:=P) (t:=o.type) R he (dG h1) (vf h2) (HB hg.2) (az ht hp) (az ht hq) hy)
      simpa[execOp,resolve,invoke,builtin] using this
    ·simp at hc
   ·simp at hc
  ·simp at hc
 ·-- len
  rename_i heq
  simp only at heq
  subst heq
  split at hc
  ·rename_i T1 x hT hO
   simp only at hT hO
   obtain⟨p,hpq,hp⟩:=wx hO
   have ha:argTypes=#[T1]:=Array.toList_inj.1 (by simpa using hT)
   have hb:args=#[p]:=Array.toList_inj.1 (by simpa using hpq)
   subst ha hb
   split at hc
   ·rename_i e he
    simp only[sJ]at hc
    subst hc
    simp only[bG]at h
    obtain⟨y,hy,rfl,rfl⟩:=bi h
    have hx:=az ht hp
    unfold gh at hy
    split at hy
    ·simp at hy
    ·rename_i a1 n1 r1 hev
     simp only[cond_false,sJ]at hy
     have:=aU.val R (yU (P:=P) (w:=w) (t:=o.type) (.inl ⟨e,he⟩) hx (by rw[hev]; simp only[z6,sJ]; exact hy) (.inr (.inl ⟨a1,n1,r1,e,hev,he⟩)))
     simpa[execOp,resolve,invoke,builtin] using this
    ·rename_i a1 n1 c1 hev
     simp only[cond_false,sJ]at hy
     have:=aU.val R (yU (P:=P) (w:=w) (t:=o.type) (.inl ⟨e,he⟩) hx (by rw[hev]; simp only[z6,sJ]; exact hy) (.inr (.inr ⟨a1,n1,c1,e,hev,he⟩)))
     simpa[execOp,resolve,invoke,builtin] using this
    ·simp at hy
   ·rename_i he
    simp only[sJ]at hc
    subst hc
    simp only[bG]at h
    obtain⟨y,hy,rfl,rfl⟩:=bi h
    have hx:=az ht hp
    unfold gh at hy
    split at hy
    ·rename_i s1 hev
     simp only[cond_true,sJ]at hy
     have:=aU.val R (yU (P:=P) (w:=w) (t:=o.type) (.inr he) hx (by rw[hev]; simp only[z6,sJ]; exact hy) (.inl ⟨s1,hev,he⟩))
     simpa[execOp,resolve,invoke,builtin] using this
    ·simp at hy
    ·simp at hy
    ·simp at hy
   ·simp at hc
  ·simp at hc
 ·simp at hc
theorem HU{tb:FuncId->Bool}(htb:∀f,Nat.blt f bN=true->tb f=true->bq P f=true)(R:bv Prot w0 ρ H w){n:Nat}{T:Tr aa}{a:Act}(ht:aW ρ n T a.tmps)(o:Oper){ao:gZ}(hc:xm P o.op=some ao)
  {nx:Nx} (h:bG tb T H ao=some (nx,H')):aU P Prot w0 ρ w (execOp a.eval o) nx H':=by
 obtain⟨dst,op,type,pos,after,guard⟩:=o
 simp only at hc
 cases op <;> simp only[xm,reduceCtorEq]at hc
 case move x=>
  split at hc
  ·rename_i y hy
   simp only[sJ]at hc; subst hc
   simp only[bG,sJ,pJ]at h
   obtain⟨rfl,rfl⟩:=h
   exact⟨ρ,w,_,Pl.le_refl _,rfl,R,az ht hy⟩
  ·simp at hc
 case assign x=>
  split at hc
  ·rename_i y hy
   simp only[sJ]at hc; subst hc
   simp only[bG,sJ,pJ]at h
   obtain⟨rfl,rfl⟩:=h
   exact⟨ρ,w,_,Pl.le_refl _,rfl,R,az ht hy⟩
  ·simp at hc
 case pick c x y=>
  split at hc
  ·rename_i c' x' y' h1 h2 h3
   simp only[sJ]at hc; subst hc
   simp only[bG]at h
   split at h
   ·rename_i b hb
    simp only[sJ,pJ]at h
    obtain⟨rfl,rfl⟩:=h
    have hcv:=az ht h1
    rw[hb]at hcv
    refine⟨ρ,w,.value (if b then a.eval x else a.eval y),Pl.le_refl _,?_,R,?_⟩
    ·simp only[execOp,Sem.run_bind,C9 hcv,Result.andThen_ok]; rfl
    ·cases b
     ·exact az ht h3
     ·exact az ht h2
   ·simp at h
  ·simp at hc
 case alloc e=>
  split at hc
  ·rename_i z hz
   simp only[sJ]at hc; subst hc
   simp only[bG]at h
   obtain⟨y,hy,rfl⟩:=cq h
   simp only[sJ]at hy
   have:=aU.good (Gy (P:=P) R hz)
   rw[hy]at this
   exact this
  ·simp at hc
 case box e x=>
  split at hc
  ·rename_i y hy
   simp only[sJ]at hc; subst hc
   simp only[bG]at h
   obtain⟨z,hz,rfl⟩:=cq h
   simp only[sJ]at hz
   have:=aU.good (Km (P:=P) R e (az ht hy))
   rw[hz]at this
   exact this
  ·simp at hc
 case build t ps=>
  split at hc
  ·rename_i fs z hu hz
   split at hc
   ·rename_i pl hpl
    split at hc
    ·rename_i l hl
     simp only[sJ]at hc; subst hc
     simp only[bG]at h
     obtain⟨y,hy,rfl,rfl⟩:=bi h
     have:=aU.val R (xu (P:=P) (w:=w) (qs:=ps.map fun p=>(p.1,a.eval p.2)) hu hpl hz (by simpa using nj ht hl) hy)
     simpa[execOp] using this
    ·simp at hc
   ·simp at hc
  ·rename_i m e z hu hz
   split at hc
   ·rename_i g k hk
    split at hc
    ·rename_i l hl
     simp only[sJ]at hc; subst hc
     simp only[bG]at h
     obtain⟨y,hy,rfl,rfl⟩:=bi h
     have:=aU.val R (xw (P:=P) (w:=w) (qs:=ps.map fun p=>(p.1,a.eval p.2)) hu (dG hk) hz (by simpa using nj ht hl) hy)
     simpa[execOp] using this
    ·simp at hc
   ·simp at hc
  ·simp at hc
 case buildSlice t len ps=>
  split at hc
  ·rename_i e hu
   split at hc
   ·rename_i g k z hk hz
    split at hc
    ·rename_i l hl
     cases hg:(Nat.beq z.length k&&Nat.ble (len*k) 16777216) with
     | false=>rw[hg]at hc; simp at hc
     | true=>
      rw[hg]at hc
      simp only[N4,Nat.ble_eq]at hg
      simp only[cond_true,sJ]at hc; subst hc
      simp only[bG]at h
      obtain⟨y,hy,rfl⟩:=cq h
      have:=aU.good (zP (P:=P) (qs:=ps.map fun p=>(p.1,a.eval p.2)) R hu (dG hk) hz (N8 hg.1) hg.2 (by simpa using nj ht hl) hy)
      simpa[execOp] using this
    ·simp at hc
   ·simp at hc
  ·simp at hc
 case load t x=>
  split at hc
  ·rename_i g k y hk hy
   simp only[sJ]at hc; subst hc
   simp only[bG]at h
   obtain⟨z,hz,rfl,rfl⟩:=bi h
   exact aU.val R (uU (P:=P) R (dG hk) (az ht hy) hz)
  ·simp at hc
 case store t x y=>
  split at hc
  ·rename_i g k x' y' hk hx hy
   simp only[sJ]at hc; subst hc
   simp only[bG]at h
   split at h
   ·rename_i H1 h1
    simp only[sJ,pJ]at h
    obtain⟨rfl,rfl⟩:=h
    obtain⟨w',q1,q2⟩:=DM (P:=P) R (dG hk) (az ht hx) (az ht hy) h1
    refine⟨ρ,w',.skip,Pl.le_refl _,?_,q2,?_⟩
    ·simp only[execOp,Sem.run_bind,q1,Result.andThen_ok]; rfl
    ·simp only[jm,aN,ae,undef]; exact⟨#[],rfl,by simp[aj]⟩
   ·simp at h
  ·simp at hc
 case nilCheck x=>
  split at hc
  ·rename_i y hy
   simp only[sJ]at hc; subst hc
   simp only[bG]at h
   obtain⟨z,hz,rfl,rfl⟩:=bi h
   exact Cv R (az ht hy) hz ⟨dst,.nilCheck x,type,pos,after,guard⟩ a.eval rfl
  ·simp at hc
 case binOp op t x y yt=>
  split at hc
  ·rename_i x' y' hx hy
   simp only[sJ]at hc; subst hc
   simp only[bG]at h
   obtain⟨z,hz,rfl,rfl⟩:=bi h
   obtain⟨u,h1,h2⟩:=KS (P:=P) (t:=t) (az ht hx) (az ht hy) hz w
   refine aU.val R ⟨u,?_,h2⟩
   simp only[Sem.run_bind,zB (az ht hx) (az ht hy) hz,Result.andThen_ok,h1]
  ·simp at hc
 case unOp op t x=>
  split at hc
  ·rename_i y hy
   simp only[sJ]at hc; subst hc
   simp only[bG]at h
   obtain⟨z,hz,rfl,rfl⟩:=bi h
   exact aU.val R (Lx (P:=P) (az ht hy) hz w)
  ·simp at hc
 case convert s d x=>
  split at hc
  ·rename_i y hy
   split at hc
   ·rename_i d1 k h1 h2
    simp only[sJ]at hc; subst hc
    simp only[bG]at h
    obtain⟨z,hz,rfl,rfl⟩:=bi h
    exact aU.val R (ID (P:=P) h1 h2 (az ht hy) hz w)
   ·rename_i e _ h1 h2
    split at hc
    ·rename_i he
     simp only[sJ]at hc; subst hc
     simp only[bG]at h
     obtain⟨z,hz,rfl⟩:=cq h
     exact aU.good (LD (P:=P) R h1 h2 he (az ht hy) hz)
    ·simp at hc
   ·rename_i e _ h1 h2
    split at hc
    ·rename_i he
     simp only[sJ]at hc; subst hc
     simp only[bG]at h
     obtain⟨z,hz,rfl,rfl⟩:=bi h
     exact aU.val R (L0 (P:=P) R h1 he h2 (az ht hy) hz)
    ·simp at hc
   ·simp at hc
  ·simp at hc
 case makeInterface t x=>
  split at hc
  ·simp at hc
  ·rename_i y d hno hy hu
   simp only[sJ]at hc; subst hc
   simp only[bG,sJ,pJ]at h
   obtain⟨rfl,rfl⟩:=h
   refine aU.val R ⟨.iface t (a.eval x),?_,by simp only[ae]; exact⟨_,rfl,az ht (by assumption)⟩⟩
   cases d <;> first
    | exact (hno _ rfl).elim
    | (simp only[Instr.makeInterface,Sem.run_bind,run_underlying hu,Result.andThen_ok]; rfl)
  ·simp at hc
 case makeFunc fn x y=>
  split at hc
  ·rename_i x' y' hx hy
   simp only[sJ]at hc; subst hc
   simp only[bG,sJ,pJ]at h
   obtain⟨rfl,rfl⟩:=h
   refine aU.val R ⟨.func fn (x.map a.eval) (y.map a.eval),rfl,?_⟩
   simp only[ae]
   exact⟨_,_,rfl,by simpa using fJ ht hx,by simpa using fJ ht hy⟩
  ·simp at hc
 case makeSlice t l c=>
  split at hc
  ·rename_i e hu
   split at hc
   ·rename_i m b z l' c' h1 h2 h3 h4
    simp only[sJ]at hc; subst hc
    simp only[bG]at h
    obtain⟨y,hy,rfl⟩:=cq h
    exact aU.good (Ik (P:=P) R hu (vf h1) h2 (az ht h3) (az ht h4) hy)
   ·simp at hc
  ·simp at hc
 case slice t x lo hi mx=>
  split at hc
  ·rename_i x' lo' hi' hu hx hlo hhi hmx
   simp only[sJ]at hc; subst hc
   simp only[bG]at h
   obtain⟨y,hy,rfl,rfl⟩:=bi h
   have hmn:mx=none:=by
    cases mx with
    | none=>rfl
    | some m=>simp only[lN]at hmx; split at hmx <;> simp at hmx
   subst hmn
   obtain⟨u,q1,q2⟩:=DT (P:=P) (w:=w) hu (az ht hx) (ig ht hlo) (ig ht hhi) hy
   refine aU.val R ⟨u,?_,q2⟩
   simp only[Instr.sliceAt,Sem.run_bind,run_underlying hu,Result.andThen_ok]
   exact q1
  ·rename_i e x' lo' hi' mx' hu hx hlo hhi hmx
   split at hc
   ·rename_i g k hk
    simp only[sJ]at hc; subst hc
    simp only[bG]at h
    obtain⟨y,hy,rfl,rfl⟩:=bi h
    obtain⟨u,q1,q2⟩:=LC (P:=P) (w:=w) hu (dG hk) (az ht hx) (ig ht hlo) (ig ht hhi) (ig ht hmx) hy
    refine aU.val R ⟨u,?_,q2⟩
    simp only[Instr.sliceAt,Sem.run_bind,run_underlying hu,Result.andThen_ok]
    exact q1
   ·simp at hc
  ·simp at hc
 case fieldAddr s x i=>
  split at hc
  ·rename_i fs y hu hy
   split at hc
   ·rename_i f hf
    split at hc
    ·rename_i g k hk
     cases hg:Nat.beq k 0 with
     | true=>rw[hg]at hc; simp at hc
     | false=>
      rw[hg]at hc
      simp only[cond_false,sJ]at hc; subst hc
      simp only[bG]at h
      obtain⟨z,hz,rfl,rfl⟩:=bi h
      exact aU.val R (tL (P:=P) (w:=w) hu hf (dG hk) (fun e=>by rw[e]at hg; simp at hg) (az ht hy) hz)
    ·simp at hc
   ·simp at hc
  ·simp at hc
 case field s x i=>
  split at hc
  ·rename_i fs y hu hy
   split at hc
   ·rename_i f hf
    split at hc
    ·rename_i g k hk
     simp only[sJ]at hc; subst hc
     simp only[bG]at h
     obtain⟨z,hz,rfl,rfl⟩:=bi h
     exact aU.val R (CP (P:=P) (w:=w) hu hf (dG hk) (az ht hy) hz)
    ·simp at hc
   ·simp at hc
  ·simp at hc
 case indexAddr t x i=>
  split at hc
  ·rename_i e x' i' hu hx hi
   split at hc
   ·rename_i g k hk
    simp only[sJ]at hc; subst hc
    simp only[bG]at h
    obtain⟨z,hz,rfl,rfl⟩:=bi h
    exact aU.val R (Iy (P:=P) (w:=w) hu (dG hk) (az ht hx) (az ht hi) hz)
   ·simp at hc
  ·rename_i m e x' i' hu hx hi
   split at hc
   ·rename_i g k hk
    simp only[sJ]at hc; subst hc
    simp only[bG]at h
    obtain⟨z,hz,rfl,rfl⟩:=bi h
    exact aU.val R (tI (P:=P) (w:=w) hu (dG hk) (az ht hx) (az ht hi) hz)
   ·simp at hc
  ·simp at hc
 case index t x i=>
  split at hc
  ·rename_i x' i' hu hx hi
   simp only[sJ]at hc; subst hc
   simp only[bG]at h
   obtain⟨z,hz,rfl,rfl⟩:=bi h
   exact aU.val R (Ix (P:=P) (w:=w) hu (az ht hx) (az ht hi) hz)
  ·rename_i m e x' i' hu hx hi
   split at hc
   ·rename_i g k hk
    simp only[sJ]at hc; subst hc
    simp only[bG]at h
    obtain⟨z,hz,rfl,rfl⟩:=bi h
    exact aU.val R (Ku (P:=P) (w:=w) hu (dG hk) (az ht hx) (az ht hi) hz)
   ·simp at hc
  ·simp at hc
 case extract x i=>
  split at hc
  ·rename_i y hy
   simp only[sJ]at hc; subst hc
   simp only[bG]at h
   obtain⟨z,hz,rfl,rfl⟩:=bi h
   exact aU.val R (zj (P:=P) (w:=w) (az ht hy) hz)
  ·simp at hc
 case call c=>exact FR htb R ht ⟨dst,.call c,type,pos,after,guard⟩ c hc h
theorem aU.skip{s:Sem Unit}{w':World}(hr:s.run P w=.ok () w')(hR:bv Prot w0 ρ H' w'):aU P Prot w0 ρ w (do s; pure .skip) (.val (.tuple [])) H':=
 ⟨ρ,w',.skip,Pl.le_refl _,by simp only[Sem.run_bind,hr,Result.andThen_ok]; rfl,hR,by simp only[jm,ae,undef]; exact⟨#[],rfl,by simp[aj]⟩⟩
theorem HT{tb:FuncId->Bool}(R:bv Prot w0 ρ H w){n:Nat}{T:Tr aa}{a:Act}(ht:aW ρ n T a.tmps)(o:Oper){ao:gZ}(hc:oz P o.op=some ao)
  {nx:Nx} (h:bG tb T H ao=some (nx,H')):aU P Prot w0 ρ w (execOp a.eval o) nx H':=by
 obtain⟨dst,op,type,pos,after,guard⟩:=o
 simp only at hc
 unfold oz at hc
 split at hc
 ·rename_i t x y yt
  split at hc
  ·rename_i x' y' hx hy
   split at hc
   ·rename_i k hk
    simp only[sJ]at hc; subst hc
    simp only[bG]at h
    obtain⟨z,hz,rfl,rfl⟩:=bi h
    simp only[jJ,fo,KZ]at hz
    split at hz
    ·rename_i b hb
     simp only[cond_false,sJ]at hz
     subst hz
     exact aU.val R ⟨_,FD (op:=.eql) (.inl rfl) hk (az ht hx) (az ht hy) hb,rfl⟩
    ·simp at hz
   ·split at hc
    ·rename_i fs hk
     simp only[sJ]at hc; subst hc
     simp only[bG]at h
     obtain⟨z,hz,rfl,rfl⟩:=bi h
     simp only[jJ,fo]at hz
     unfold GJ at hz
     split at hz
     ·rename_i l m hlm
      simp only[List.cons.injEq,and_true]at hlm
      obtain⟨e1,e2⟩:=hlm
      have p1:=az ht hx
      have p2:=az ht hy
      rw[e1]at p1
      rw[e2]at p2
      split at hz
      ·rename_i b hb
       simp only[cond_false,sJ]at hz
       subst hz
       exact aU.val R ⟨_,Bg (op:=.eql) (.inl rfl) hk p1 p2 hb,rfl⟩
      ·simp at hz
     ·simp at hz
    ·simp at hc
  ·simp at hc
 ·rename_i t x y yt
  split at hc
  ·rename_i x' y' hx hy
   split at hc
   ·rename_i k hk
    simp only[sJ]at hc; subst hc
    simp only[bG]at h
    obtain⟨z,hz,rfl,rfl⟩:=bi h
    simp only[jJ,fo,KZ]at hz
    split at hz
    ·rename_i b hb
     simp only[cond_true,sJ]at hz
     subst hz
     exact aU.val R ⟨_,FD (op:=.neq) (.inr rfl) hk (az ht hx) (az ht hy) hb,rfl⟩
    ·simp at hz
   ·split at hc
    ·rename_i fs hk
     simp only[sJ]at hc; subst hc
     simp only[bG]at h
     obtain⟨z,hz,rfl,rfl⟩:=bi h
     simp only[jJ,fo]at hz
     unfold GJ at hz
     split at hz
     ·rename_i l m hlm
      simp only[List.cons.injEq,and_true]at hlm
      obtain⟨e1,e2⟩:=hlm
      have p1:=az ht hx
      have p2:=az ht hy
      rw[e1]at p1
      rw[e2]at p2
      split at hz
      ·rename_i b hb
       simp only[cond_true,sJ]at hz
       subst hz
       exact aU.val R ⟨_,Bg (op:=.neq) (.inr rfl) hk p1 p2 hb,rfl⟩
      ·simp at hz
     ·simp at hz
    ·simp at hc
  ·simp at hc
 ·rename_i t x
  split at hc
  ·rename_i y hu hy
   simp only[sJ]at hc; subst hc
   simp only[bG]at h
   obtain⟨z,hz,rfl⟩:=cq h
   exact aU.good (En (P:=P) R hu (az ht hy) hz)
  ·simp at hc
 ·rename_i x
  split at hc
  ·rename_i y hy
   simp only[sJ]at hc; subst hc
   simp only[bG]at h
   obtain⟨z,hz,rfl⟩:=cq h
   exact aU.good (Id (P:=P) (t:=type) R (az ht hy) hz)
  ·simp at hc
 ·rename_i t x lo hi mx
  split at hc
  ·rename_i m e x' lo' hi' mx' hu hx hlo hhi hmx
   split at hc
   ·rename_i g k hk
    simp only[sJ]at hc; subst hc
    simp only[bG]at h
    obtain⟨y,hy,rfl,rfl⟩:=bi h
    exact aU.val R (DU (P:=P) (w:=w) hu (dG hk) (az ht hx) (ig ht hlo) (ig ht hhi) (ig ht hmx) hy)
   ·simp at hc
  ·simp at hc
 ·rename_i s d x
  cases hb:Nat.beq s d with
  | false=>rw[hb]at hc; simp at hc
  | true=>
   rw[hb]at hc
   have:=N8 hb
   subst this
   simp only[cond_true]at hc
   split at hc
   ·rename_i e y hu hy
    split at hc
    ·rename_i he
     simp only[sJ]at hc; subst hc
     simp only[bG]at h
     obtain⟨z,hz,rfl⟩:=cq h
     exact aU.good (Ij (P:=P) R hu he (az ht hy) hz)
    ·simp at hc
   ·simp at hc
 ·rename_i c
  obtain⟨callee,args,argTypes⟩:=c
  split at hc
  ·rename_i heq
   simp only at heq
   subst heq
   split at hc
   ·rename_i l hl
    simp only[sJ]at hc; subst hc
    simp only[bG]at h
    obtain⟨z,hz,rfl,rfl⟩:=bi h
    have hv:=fJ ht hl
    simp only[jJ]at hz
    cases hl':fo T l with
    | nil=>rw[hl']at hz; simp[IV]at hz
    | cons x r=>
     rw[hl']at hz hv
     simp only[aj]at hv
     obtain⟨v,vs,e,hx,hr⟩:=hv
     obtain⟨q,hq,hrun⟩:=EJ (P:=P) (w:=w) (g:=true) hx hr hz
     refine aU.val R (s:=Builtin.max_ argTypes type (args.map a.eval)) ⟨q,?_,hq⟩
     unfold Builtin.max_
     simp only[Array.toList_map,e]
     exact hrun
   ·simp at hc
  ·rename_i heq
   simp only at heq
   subst heq
   split at hc
   ·rename_i T1 x hT hO
    simp only at hT hO
    obtain⟨p,hpq,hp⟩:=wx hO
    have ha:argTypes=#[T1]:=Array.toList_inj.1 (by simpa using hT)
    have hb:args=#[p]:=Array.toList_inj.1 (by simpa using hpq)
    subst ha hb
    split at hc
    ·rename_i e he
     split at hc
     ·rename_i zz hzz
      simp only[sJ]at hc
      subst hc
      simp only[bG]at h
      obtain⟨y,hy,rfl⟩:=cq h
      simp only[BW,fo]at hy
      have:=aU.good (KI (P:=P) R he hzz (ty:=type) (az ht hp) hy)
      simpa[execOp,resolve,invoke,builtin] using this
     ·simp at hc
    ·simp at hc
   ·simp at hc
  ·rename_i heq
   simp only at heq
   subst heq
   split at hc
   ·rename_i T1 T2 x1 x2 hT hO
    simp only at hT hO
    obtain⟨p,q,hpq,hp,hq⟩:=wv hO
    have ha:argTypes=#[T1,T2]:=Array.toList_inj.1 (by simpa using hT)
    have hb:args=#[p,q]:=Array.toList_inj.1 (by simpa using hpq)
    subst ha hb
    split at hc
    ·rename_i e he
     split at hc
     ·rename_i gg nn hzz
      simp only[sJ]at hc
      subst hc
      simp only[bG]at h
      obtain⟨y,hy,rfl⟩:=cq h
      simp only[BW,fo]at hy
      have:=aU.good (KH (P:=P) R he (t2:=T2) (dG hzz) (ty:=type) (az ht hp) (az ht hq) hy)
      simpa[execOp,resolve,invoke,builtin] using this
     ·simp at hc
    ·simp at hc
   ·simp at hc
  ·rename_i heq
   simp only at heq
   subst heq
   split at hc
   ·rename_i l hl
    simp only[sJ]at hc; subst hc
    simp only[bG]at h
    obtain⟨z,hz,rfl,rfl⟩:=bi h
    have hv:=fJ ht hl
    simp only[jJ]at hz
    cases hl':fo T l with
    | nil=>rw[hl']at hz; simp[IV]at hz
    | cons x r=>
     rw[hl']at hz hv
     simp only[aj]at hv
     obtain⟨v,vs,e,hx,hr⟩:=hv
     obtain⟨q,hq,hrun⟩:=EJ (P:=P) (w:=w) (g:=false) hx hr hz
     refine aU.val R (s:=Builtin.min_ argTypes type (args.map a.eval)) ⟨q,?_,hq⟩
     unfold Builtin.min_
     simp only[Array.toList_map,e]
     exact hrun
   ·simp at hc
  ·rename_i f heq
   simp only at heq
   subst heq
   cases hf:AX P f with
   | false=>
    rw[hf]at hc
    simp only[cond_false]at hc
    cases hf2:AY P f with
    | false=>rw[hf2]at hc; simp at hc
    | true=>
     rw[hf2]at hc
     simp only[cond_true]at hc
     split at hc
     ·rename_i l hl
      simp only[sJ]at hc; subst hc
      simp only[bG]at h
      obtain⟨z,hz,rfl,rfl⟩:=bi h
      simp only[jJ]at hz
      obtain⟨q,hq,hrun⟩:=KK (P:=P) (w:=w) hf2 hz (vs:=args.map a.eval) (by simpa using fJ ht hl)
      exact⟨ρ,w,.value q,Pl.le_refl _,by simpa[execOp,resolve,Act.eval,Deferred.ofValue,invoke] using hrun,R,hq⟩
     ·simp at hc
   | true=>
    rw[hf]at hc
    simp only[cond_true]at hc
    split at hc
    ·rename_i l hl
     simp only[sJ]at hc; subst hc
     simp only[bG]at h
     obtain⟨z,hz,rfl,rfl⟩:=bi h
     simp only[jJ]at hz
     obtain⟨q,hq,hrun⟩:=Kv (P:=P) (w:=w) hf hz (vs:=args.map a.eval) (by simpa using fJ ht hl)
     exact⟨ρ,w,.value q,Pl.le_refl _,by simpa[execOp,resolve,Act.eval,Deferred.ofValue,invoke] using hrun,R,hq⟩
    ·simp at hc
  ·simp at hc
 ·rename_i t g i
  split at hc
  ·rename_i m e i' hu hi
   split at hc
   ·rename_i gg k hk
    simp only[sJ]at hc; subst hc
    simp only[bG]at h
    obtain⟨z,hz,rfl⟩:=cq h
    simp only[BW,fo,GI]at hz
    split at hz
    ·rename_i p hp
     split at hz
     ·rename_i v hv
      simp only[sJ,pJ]at hz
      obtain⟨rfl,rfl⟩:=hz
      exact aU.val R (tI (P:=P) (w:=w) hu (dG hk) (qO R hp) (az ht hi) hv)
     ·simp at hz
    ·simp at hz
   ·simp at hc
  ·simp at hc
 ·rename_i t g
  split at hc
  ·rename_i gg k hk
   simp only[sJ]at hc; subst hc
   simp only[bG]at h
   obtain⟨z,hz,rfl⟩:=cq h
   simp only[BW,fo,L7]at hz
   split at hz
   ·rename_i p hp
    split at hz
    ·rename_i v hv
     simp only[sJ,pJ]at hz
     obtain⟨rfl,rfl⟩:=hz
     exact aU.val R (uU (P:=P) R (dG hk) (qO R hp) hv)
    ·simp at hz
   ·simp at hz
  ·simp at hc
 ·rename_i s g i
  split at hc
  ·rename_i fs hu
   split at hc
   ·rename_i f hf
    split at hc
    ·rename_i gg k hk
     cases hb:Nat.beq k 0 with
     | true=>rw[hb]at hc; simp at hc
     | false=>
      rw[hb]at hc
      simp only[cond_false,sJ]at hc; subst hc
      simp only[bG]at h
      obtain⟨z,hz,rfl⟩:=cq h
      simp only[BW,fo,JS]at hz
      split at hz
      ·rename_i p hp
       split at hz
       ·rename_i v hv
        simp only[sJ,pJ]at hz
        obtain⟨rfl,rfl⟩:=hz
        exact aU.val R (tL (P:=P) (w:=w) hu hf (dG hk) (fun e=>by rw[e]at hb; simp at hb) (qO R hp) hv)
       ·simp at hz
      ·simp at hz
    ·simp at hc
   ·simp at hc
  ·simp at hc
 ·rename_i t x
  split at hc
  ·rename_i n e y hu hx
   simp only[sJ]at hc; subst hc
   simp only[bG]at h
   obtain⟨z,hz,rfl,rfl⟩:=bi h
   exact aU.val R (Kb (P:=P) (w:=w) hu (az ht hx) hz)
  ·simp at hc
 ·rename_i t
  simp only[sJ]at hc; subst hc
  simp only[bG]at h
  obtain⟨z,hz,rfl⟩:=cq h
  exact aU.good (EM (P:=P) R t hz)
 ·rename_i t m k ok
  split at hc
  ·rename_i kt el m' k' hu hm hk
   split at hc
   ·rename_i kc z0 hkc hz0
    simp only[sJ]at hc; subst hc
    simp only[bG]at h
    obtain⟨z,hz,rfl⟩:=cq h
    exact aU.good (EP (P:=P) R hu hkc hz0 (az ht hm) (az ht hk) hz)
   ·simp at hc
  ·simp at hc
 ·rename_i t m k
  split at hc
  ·rename_i kt el m' k' hu hm hk
   split at hc
   ·rename_i kc z0 hkc hz0
    simp only[sJ]at hc; subst hc
    simp only[bG]at h
    obtain⟨z,hz,rfl⟩:=cq h
    exact aU.good (CB (P:=P) R hu hkc hz0 (az ht hm) (az ht hk) hz)
   ·simp at hc
  ·simp at hc
 ·rename_i t m n x
  split at hc
  ·rename_i m' n' x' hm hn hx
   simp only[sJ]at hc; subst hc
   simp only[bG]at h
   obtain⟨z,hz,rfl⟩:=cq h
   obtain⟨rfl,w',hr,hR⟩:=Cz (P:=P) R t (az ht hm) (az ht hn) (az ht hx) hz
   exact aU.skip hr hR
  ·simp at hc
 ·rename_i t m k x
  split at hc
  ·rename_i kt el m' k' x' hu hm hk hx
   split at hc
   ·rename_i kc hkc
    simp only[sJ]at hc; subst hc
    simp only[bG]at h
    obtain⟨z,hz,rfl⟩:=cq h
    obtain⟨rfl,w',hr,hR⟩:=AR (P:=P) R hu hkc (az ht hm) (az ht hk) (az ht hx) hz
    exact aU.skip hr hR
   ·simp at hc
  ·simp at hc
 ·rename_i t m k x
  split at hc
  ·rename_i kt el m' k' x' hu hm hk hx
   split at hc
   ·rename_i kc hkc
    simp only[sJ]at hc; subst hc
    simp only[bG]at h
    obtain⟨z,hz,rfl⟩:=cq h
    obtain⟨rfl,w',hr,hR⟩:=AR (P:=P) R hu hkc (az ht hm) (az ht hk) (az ht hx) hz
    exact aU.skip hr hR
   ·simp at hc
  ·simp at hc
 ·rename_i x xt t ok
  split at hc
  ·simp at hc
  ·rename_i d z y hni hu hz hy
   simp only[sJ]at hc; subst hc
   simp only[bG]at h
   obtain⟨r,hr,rfl,rfl⟩:=bi h
   obtain⟨zv,hz1,hz2⟩:=pO hz
   have hx:=az ht hy
   simp only[jJ,fo]at hr
   generalize ev T y=q at hr hx
   unfold JR at hr
   split at hr
   ·rename_i heq
    simp only[List.cons.injEq,and_true]at heq
    subst heq
    cases ok with
    | false=>simp at hr
    | true=>
     simp only[cond_true,sJ]at hr
     subst hr
     simp only[ae]at hx
     refine aU.val R ⟨.tuple #[zv,.bool false],?_,?_⟩
     ·show (Instr.typeAssert (a.eval x) xt t true).run P w=_
      rw[hx]
      cases d <;> simp_all [Instr.typeAssert,run_underlying hu]
     ·simp only[ae,aj]
      exact⟨_,rfl,_,_,rfl,hz2 ρ,_,_,rfl,rfl,rfl⟩
   ·rename_i u v heq
    simp only[List.cons.injEq,and_true]at heq
    subst heq
    simp only[ae]at hx
    obtain⟨yv,hx1,hx2⟩:=hx
    cases hb:Nat.beq u t with
    | true=>
     have:=N8 hb
     subst this
     rw[hb]at hr
     simp only[cond_true]at hr
     cases ok with
     | false=>
      simp only[cond_false,sJ]at hr
      subst hr
      refine aU.val R ⟨yv,?_,hx2⟩
      show (Instr.typeAssert (a.eval x) xt u false).run P w=_
      rw[hx1]
      cases d <;> simp_all [Instr.typeAssert,run_underlying hu]
     | true=>
      simp only[cond_true,sJ]at hr
      subst hr
      refine aU.val R ⟨.tuple #[yv,.bool true],?_,?_⟩
      ·show (Instr.typeAssert (a.eval x) xt u true).run P w=_
       rw[hx1]
       cases d <;> simp_all [Instr.typeAssert,run_underlying hu]
      ·simp only[ae,aj]
       exact⟨_,rfl,_,_,rfl,hx2,_,_,rfl,rfl,rfl⟩
    | false=>
     have hne:¬u=t:=fun e=>by rw[e,Nat.beq_refl]at hb; simp at hb
     rw[hb]at hr
     simp only[cond_false]at hr
     cases ok with
     | false=>simp at hr
     | true=>
      simp only[cond_true,sJ]at hr
      subst hr
      refine aU.val R ⟨.tuple #[zv,.bool false],?_,?_⟩
      ·show (Instr.typeAssert (a.eval x) xt t true).run P w=_
       rw[hx1]
       cases d <;> simp_all [Instr.typeAssert,run_underlying hu]
      ·simp only[ae,aj]
       exact⟨_,rfl,_,_,rfl,hz2 ρ,_,_,rfl,rfl,rfl⟩
   ·simp at hr
  ·simp at hc
 ·simp at hc
theorem iF{tb:FuncId->Bool}(htb:∀f,Nat.blt f bN=true->tb f=true->bq P f=true)(R:bv Prot w0 ρ H w){n:Nat}{T:Tr aa}{a:Act}(ht:aW ρ n T a.tmps)(o:Oper){ao:gZ}(hc:vq P o.op=some ao)
  {nx:Nx} (h:bG tb T H ao=some (nx,H')):aU P Prot w0 ρ w (execOp a.eval o) nx H':=by
 unfold vq at hc
 split at hc
 ·rename_i x hx
  simp only[sJ]at hc; subst hc
  exact HT R ht o hx h
 ·split at hc
  ·rename_i x hx
   simp only[sJ]at hc; subst hc
   exact HU htb R ht o hx h
  ·simp only[sJ]at hc; subst hc
   simp[bG]at h
theorem xQ(R:bv Prot w0 ρ H w){t:TypeId}{l:List aa}(h:da P t=some l){b:Nat}(hd:Prot.dead b)(hx:H.get b=some (.cells l 0 false)) :
  ∃ρ' w' u,ρ.le ρ'/\(Instr.alloc t true (.tuple #[])).run P w=.ok u w'/\bv ⟨Prot.prot,fun d=>Prot.dead d/\d≠b⟩ w0 ρ' H w'/\ae ρ' (.ptr (some ⟨b,l.length,0⟩)) u:=by
 obtain⟨z,h1,h2⟩:=gt h
 have hnone:=(R.dead b hd).2
 have hv:=h2 ρ
 have hlen:l.length=z.cells.size:=by have:=aj.len hv; simpa using this
 obtain⟨q1,q2⟩:=R.claim' hd (w':=w.alloc (.cells z.cells t)) rfl rfl rfl (by simp) (fun i hi=>RowKit.Below.heap_alloc _ _ _ hi) hx (o:=.cells z.cells t) (lim:=l.length) (n:=z.cells.size) (cl:=true) (by show (w.heap.push _)[w.heap.size]?=_; simp) (by
  simp only[ee]
  refine⟨z.cells,t,0,0,rfl,rfl,fun _=>⟨fun i _=>om,Nat.le_refl _⟩,Nat.le_refl _,fun _ i i1 i2=>?_⟩
  have hx:l[i]?=some l[i]:=N1 i2
  obtain⟨v,u1,u2⟩:=hv.nth _ _ hx
  refine⟨_,v,hx,?_,ae.mono (nY fun L' h'=>by rw[hnone]at h'; simp at h') _ _ u2⟩
  simpa using u1)
 refine⟨_,_,.pointer (some ⟨w.heap.size,0,none⟩),q1,?_,q2,?_⟩
 ·simp only[Instr.alloc,Sem.run_bind,h1,Result.andThen_ok,newVar]; rfl
 ·simp only[ae]; exact⟨_,fR _ _ _ _,Nat.zero_le _,rfl⟩
theorem th(R:bv Prot w0 ρ H w){l:List aa}{C:Array Value}(t:TypeId)(hv:aj ρ l C.toList){b:Nat}(hd:Prot.dead b)(hx:H.get b=some (.cells l 0 false)) :
  ∃ρ',ρ.le ρ'/\bv ⟨Prot.prot,fun d=>Prot.dead d/\d≠b⟩ w0 ρ' H (w.alloc (.cells C t))/\ρ' b l.length=some ⟨w.heap.size,0,C.size,true⟩:=by
 have hnone:=(R.dead b hd).2
 have hlen:l.length=C.size:=by have:=aj.len hv; simpa using this
 obtain⟨q1,q2⟩:=R.claim' hd (w':=w.alloc (.cells C t)) rfl rfl rfl (by simp) (fun i hi=>RowKit.Below.heap_alloc _ _ _ hi) hx (o:=.cells C t) (lim:=l.length) (n:=C.size) (cl:=true) (by show (w.heap.push _)[w.heap.size]?=_; simp) (by
  simp only[ee]
  refine⟨C,t,0,0,rfl,rfl,fun _=>⟨fun i _=>om,Nat.le_refl _⟩,Nat.le_refl _,fun _ i i1 i2=>?_⟩
  have hx:l[i]?=some l[i]:=N1 i2
  obtain⟨v,u1,u2⟩:=hv.nth _ _ hx
  refine⟨_,v,hx,?_,ae.mono (nY fun L' h'=>by rw[hnone]at h'; simp at h') _ _ u2⟩
  simpa using u1)
 exact⟨_,q1,q2,fR _ _ _ _⟩
theorem yR(R:bv Prot w0 ρ H w){sT elem:TypeId}{size bytes:Nat}{z:List aa}(hu:P.underlying sT=some (.slice elem))(E:GV P elem size bytes)(hz:da P elem=some z)
  {l c:aa} {lv cv:Value} (hl:ae ρ l lv) (hc:ae ρ c cv) {ln cn:Nat} (hln:ii l=some ln) (hcn:ii c=some cn) (hg:ln<=cn/\bytes*cn<=281474976710656) {b:Nat} (hd:Prot.dead b) (hx:H.get b=some (.cells (sj z cn) 0 false)) :
  ∃ρ' w' u,ρ.le ρ'/\(Instr.makeSlice sT lv cv).run P w=.ok u w'/\bv ⟨Prot.prot,fun d=>Prot.dead d/\d≠b⟩ w0 ρ' H w'/\ae ρ' (.slice (some ⟨b,(sj z cn).length,0⟩) ln (.known cn)) u:=by
 obtain⟨rfl,b1⟩:=nw hln
 obtain⟨rfl,b2⟩:=nw hcn
 simp only[ae]at hl hc
 subst hl hc
 obtain⟨i,zv,hi,rfl,rfl,hzero,hzs⟩:=E.ex
 obtain⟨zv',hzr,hzl⟩:=gt hz
 have hzv:zv'=zv:=by
  have:=hzr w
  simp[zeroValue,run_typeInfo w hi,hzero]at this
  exact this.symm
 subst hzv
 have hlen:=aj.len (hzl ρ)
 simp only[Array.length_toList,hzs]at hlen
 obtain⟨ρ',q1,q3,q4⟩:=th R elem (kf (hzl ρ) cn) hd hx
 have q2:(newRow elem (cR zv'.cells (cn*z.length))).run P w=.ok ⟨w.heap.size,0,none⟩ (w.alloc (.cells (cR zv'.cells (cn*z.length)) elem)):=rfl
 have hnb:¬((281474976710656:Int)<(i.bytes:Int)*(cn:Int)):=by
  have:(i.bytes*cn:Nat)<=281474976710656:=hg.2
  rw[<- Int.natCast_mul]; omega
 have hcells:cR zv'.cells (cn*i.size)=cR zv'.cells (cn*z.length):=by rw[hlen]
 refine⟨ρ',_,.slice (some ⟨w.heap.size,0,none⟩) ln cn,q1,?_,q3,?_⟩
 ·have hsz:∀W,(sizeOf elem).run P W=.ok i.size W:=fun W=>by simp[sizeOf,run_typeInfo W hi]
  have e1:¬((cn:Int)<0):=om
  have e2:¬((ln:Int)<0):=om
  have e3:¬((cn:Int)<(ln:Int)):=om
  by_cases hn:cn*i.size=0
  ·have hm:cR zv'.cells (cn*z.length)=#[]:=by rw[<- hcells,hn]; simp[cR]
   rw[hm]at q2 ⊢
   simp only[Instr.makeSlice,Sem.run_bind,run_underlying hu,Result.andThen_ok,asInt,asIntOf,Sem.run_pure,run_typeInfo _ hi,fQ b1,fQ b2]
   simp[e1,e2,e3,hnb,hsz,hn,show Array.range 0=#[] by simp,q2]
  ·simp only[Instr.makeSlice,Sem.run_bind,run_underlying hu,Result.andThen_ok,asInt,asIntOf,Sem.run_pure,run_typeInfo _ hi,fQ b1,fQ b2]
   rw[<- hcells]at q2 ⊢
   unfold cR at q2 ⊢
   simp[e1,e2,e3,hnb,hsz,hn,hzr,q2]
 ·simp only[ae]
  exact⟨_,q4,Nat.zero_le _,hg.1,rfl⟩
end
end Go.Abs
namespace Go.Abs
structure ah where
 dst:Option Nat
 op:gZ
 guard:Option (Nat×Bool)
def SK:Nat:=1000000
def gS(t:Nat):Nat:=bif Nat.ble SK t then t-SK else t
def Mf(b:Bool):aa->Bool
 | .bool c=>bif b then c else !c
 | _=>false
def gV(t:Nat)(b:Bool)(v:aa):Bool:=bif Nat.ble SK t then !fg v else Mf b v
def ga(T:Tr aa):Option (Nat×Bool)->Bool
 | none=>true
 | some (t,b)=>gV t b (ev T (.t (gS t)))
theorem LP{t:Nat}(h:Nat.blt t SK=true):gS t=t/\Nat.ble SK t=false:=by
 have h1:t<SK:=N7 h
 have h2:Nat.ble SK t=false:=by
  cases hb:Nat.ble SK t with
  | false=>rfl
  | true=>have:=N7 hb; omega
 exact⟨by unfold gS; rw[h2]; rfl,h2⟩
def co(T:Tr aa):Option Nat->aa->Tr aa
 | some d,v=>T.set d v
 | none,_=>T
def dc:gZ->Bool
 | .load .. | .claim ..=>true
 | _=>false
def iG:gZ->Bool
 | .mv _ | .pick .. | .build .. | .nilChk _ | .bin .. | .un .. | .conv .. | .mkFunc .. | .mkIface .. | .sl .. | .slStr .. | .fieldA .. | .field .. | .idxA .. | .idxArr .. | .idx .. | .idxS .. | .extract .. | .len .. | .pf .. | .slA ..=>true
 | _=>false
def aA(o:gZ):Bool:=!(iG o)&&!(dc o)
def AE:aV->List Nat
 | .t i=>[i]
 | _=>[]
def wo:List aV->List Nat
 | []=>[]
 | x::r=>AE x++wo r
def Cp:Option aV->List Nat
 | none=>[]
 | some x=>AE x
def LH:List (Nat×Nat×aV)->List Nat
 | []=>[]
 | (_,_,x)::r=>AE x++LH r
def reads:gZ->List Nat
 | .mv x | .box x | .load _ _ x | .nilChk x | .un _ x | .conv _ x | .convSB x | .convBS x | .mkIface _ x | .fieldA _ x | .field _ _ _ x | .extract _ x | .len _ x=>AE x
 | .pick c a b=>AE c++(AE a++AE b)
 | .new _=>[]
 | .build _ ps=>LH ps
 | .buildSl _ _ ps=>LH ps
 | .store _ a x | .bin _ a x | .mkSlice _ _ a x | .idxA _ a x | .idxArr _ _ a x | .idx _ _ _ a x | .idxS a x | .append _ _ a x=>AE a++AE x
 | .mkFunc _ a b=>wo a++wo b
 | .sl _ x a b c | .slA _ _ x a b c=>AE x++(Cp a++(Cp b++Cp c))
 | .slStr x a b=>AE x++(Cp a++Cp b)
 | .call _ l=>wo l
 | .callv f l=>AE f++wo l
 | .pf _ l | .hf _ l=>wo l
 | .bad | .claim _ _ _=>[]
def iD(o:ah):List Nat:=reads o.op++(match o.guard with | none=>[] | some (t,_)=>[gS t])
section
variable {tb:FuncId->Bool} {T T':Tr aa} {H H' H2:ab}
theorem aK{x:aV}(h:∀t∈AE x,T.get t=T'.get t):ev T x=ev T' x:=by
 cases x with
 | t i=>simp only[ev]; rw[h i (by simp[AE])]
 | _=>rfl
theorem gF{l:List aV}(h:∀t∈wo l,T.get t=T'.get t):fo T l=fo T' l:=by
 induction l with
 | nil=>rfl
 | cons x r ih=>simp only[wo,List.mem_append]at h; simp only[fo]; rw[aK fun t ht=>h t (.inl ht),ih fun t ht=>h t (.inr ht)]
theorem eQ{x:Option aV}(h:∀t∈Cp x,T.get t=T'.get t):wT T x=wT T' x:=by
 cases x with
 | none=>rfl
 | some x=>simp only[wT]; rw[aK h]
theorem tM{l:List (Nat×Nat×aV)}(h:∀t∈LH l,T.get t=T'.get t):yb T l=yb T' l:=by
 induction l with
 | nil=>rfl
 | cons x r ih=>obtain⟨a,b,x⟩:=x; simp only[LH,List.mem_append]at h; simp only[yb]; rw[aK fun t ht=>h t (.inl ht),ih fun t ht=>h t (.inr ht)]
theorem ui{o:gZ}(h:∀t∈reads o,T.get t=T'.get t):bG tb T H o=bG tb T' H o:=by
 cases o <;> simp only[reads,List.mem_append]at h <;> simp only[bG]
 case mv x=>rw[aK h]
 case pick c a b=>rw[aK fun t ht=>h t (.inl ht),aK (x:=a) fun t ht=>h t (.inr (.inl ht)),aK (x:=b) fun t ht=>h t (.inr (.inr ht))]
 case box x=>rw[aK h]
 case build z ps=>rw[tM h]
 case buildSl n z ps=>rw[tM h]
 case load a n x=>rw[aK h]
 case store n a x=>rw[aK fun t ht=>h t (.inl ht),aK (x:=x) fun t ht=>h t (.inr ht)]
 case nilChk x=>rw[aK h]
 case bin op a x=>rw[aK fun t ht=>h t (.inl ht),aK (x:=x) fun t ht=>h t (.inr ht)]
 case un op x=>rw[aK h]
 case conv k x=>rw[aK h]
 case convSB x=>rw[aK h]
 case convBS x=>rw[aK h]
 case mkFunc f a b=>rw[gF fun t ht=>h t (.inl ht),gF (l:=b) fun t ht=>h t (.inr ht)]
 case mkIface t x=>rw[aK h]
 case mkSlice b z a x=>rw[aK fun t ht=>h t (.inl ht),aK (x:=x) fun t ht=>h t (.inr ht)]
 case sl n x a b c=>rw[aK fun t ht=>h t (.inl ht),eQ (x:=a) fun t ht=>h t (.inr (.inl ht)),eQ (x:=b) fun t ht=>h t (.inr (.inr (.inl ht))),eQ (x:=c) fun t ht=>h t (.inr (.inr (.inr ht)))]
 case slStr x a b=>rw[aK fun t ht=>h t (.inl ht),eQ (x:=a) fun t ht=>h t (.inr (.inl ht)),eQ (x:=b) fun t ht=>h t (.inr (.inr ht))]
 case fieldA o x=>rw[aK h]
 case field a n o x=>rw[aK h]
 case idxA n a x=>rw[aK fun t ht=>h t (.inl ht),aK (x:=x) fun t ht=>h t (.inr ht)]
 case idxArr m n a x=>rw[aK fun t ht=>h t (.inl ht),aK (x:=x) fun t ht=>h t (.inr ht)]
 case idx m n g a x=>rw[aK fun t ht=>h t (.inl ht),aK (x:=x) fun t ht=>h t (.inr ht)]
 case idxS a x=>rw[aK fun t ht=>h t (.inl ht),aK (x:=x) fun t ht=>h t (.inr ht)]
 case extract i x=>rw[aK h]
 case append n b a x=>rw[aK fun t ht=>h t (.inl ht),aK (x:=x) fun t ht=>h t (.inr ht)]
 case len s x=>rw[aK h]
 case call f l=>rw[gF h]
 case callv f l=>rw[aK fun t ht=>h t (.inl ht),gF (l:=l) fun t ht=>h t (.inr ht)]
 case pf f l=>rw[gF h]
 case slA m n x a b c=>rw[aK fun t ht=>h t (.inl ht),eQ (x:=a) fun t ht=>h t (.inr (.inl ht)),eQ (x:=b) fun t ht=>h t (.inr (.inr (.inl ht))),eQ (x:=c) fun t ht=>h t (.inr (.inr (.inr ht)))]
 case hf f l=>rw[gF h]
theorem mM{x:Option aa}{nx:Nx}(h:vv H x=some (nx,H')):H'=H/\(∃v,nx=.val v)/\∀H2,vv H2 x=some (nx,H2):=by
 cases x with
 | none=>simp[vv]at h
 | some v=>simp only[vv,sJ,pJ]at h; obtain⟨rfl,rfl⟩:=h; exact⟨rfl,⟨v,rfl⟩,fun _=>rfl⟩
theorem eG{o:gZ}(hp:iG o=true){nx:Nx}(h:bG tb T H o=some (nx,H')):H'=H/\(∃v,nx=.val v)/\∀H2,bG tb T H2 o=some (nx,H2):=by
 cases o <;> simp only[iG,Oc]at hp <;> simp only[bG]at h ⊢
 case mv x=>simp only[sJ,pJ]at h; obtain⟨rfl,rfl⟩:=h; exact⟨rfl,⟨_,rfl⟩,fun _=>rfl⟩
 case pick c a b=>
  split at h
  ·simp only[sJ,pJ]at h; obtain⟨rfl,rfl⟩:=h; exact⟨rfl,⟨_,rfl⟩,fun _=>rfl⟩
  ·simp at h
 case mkFunc f a b=>simp only[sJ,pJ]at h; obtain⟨rfl,rfl⟩:=h; exact⟨rfl,⟨_,rfl⟩,fun _=>rfl⟩
 case mkIface t x=>simp only[sJ,pJ]at h; obtain⟨rfl,rfl⟩:=h; exact⟨rfl,⟨_,rfl⟩,fun _=>rfl⟩
 all_goals exact mM h
theorem gO{o:gZ}(hp:dc o=true){nx:Nx}(h:bG tb T H o=some (nx,H')):H'=H/\∃v,nx=.val v:=by
 cases o <;> simp only[dc,Oc]at hp
 case load=>simp only[bG]at h; have:=mM h; exact⟨this.1,this.2.1⟩
 case claim=>simp only[bG]at h; have:=mM h; exact⟨this.1,this.2.1⟩
end
end Go.Abs
namespace Go.Abs
section
variable (tb:FuncId->Bool) (call:FuncId->List aa->ab->Option (aa×ab))
def be(o:ah)(T:Tr aa)(H:ab):Option (aa×ab):=
 bif ga T o.guard then
  match bG tb T H o.op with
  | some (.val v,H')=>some (v,H')
  | some (.enter f args,H')=>call f args H'
  | none=>none
 else some (aN,H)
def cm:List ah->Tr aa->ab->Option (List (aa×ab))
 | [],_,_=>some []
 | o::r,T,H=>match be tb call o T H with
  | some (v,H')=>match cm r (co T o.dst v) H' with
   | some s=>some ((v,H')::s)
   | none=>none
  | none=>none
def eL(hs:List ab):List ah->List (List Nat)->List (aa×ab)->Tr aa->Bool
 | o::os,ps::pss,(v,_)::ss,T=>
  (ps.all fun p=>match hs[p]? with
   | some Hp=>bif ga T o.guard then (match bG tb T Hp o.op with | some (.val u,_)=>aeq u v | _=>false) else true
   | none=>false)&&eL hs os pss ss (co T o.dst v)
 | _,_,_,_=>true
end
def ba(m:Nat->Bool):Nat->List ah->List (aa×ab)->Tr aa->Tr aa
 | i,o::os,(v,_)::ss,T=>ba m (i+1) os ss (bif m i then co T o.dst v else T)
 | _,_,_,T=>T
def dU(H:ab)(ss:List (aa×ab)):Nat->ab
 | 0=>H
 | j+1=>match ss[j]? with
  | some (_,H')=>H'
  | none=>H
def ap(m:Nat->Bool):Nat->List ah->Nat
 | i,[]=>i
 | i,o::r=>bif aA o.op&&!m i then i else ap m (i+1) r
theorem kq(T:Tr aa)(d:Option Nat)(v:aa)(t:Nat):(co T d v).get t=if d=some t then some v else T.get t:=by
 cases d with
 | none=>simp[co]
 | some d=>
  simp only[co,Tr.get_set]
  by_cases e:t=d
  ·subst e; simp
  ·rw[if_neg e,if_neg (by intro q; simp at q; exact e q.symm)]
theorem eU{m m':Nat->Bool}{t:Nat}:∀(l:List ah) (ss:List (aa×ab)) (k:Nat) (T T':Tr aa),T.get t=T'.get t ->
  (∀i o,l[i]?=some o->o.dst=some t->m (k+i)=m' (k+i))->(ba m k l ss T).get t=(ba m' k l ss T').get t:=by
 intro l
 induction l with
 | nil=>intro ss k T T' h _; cases ss <;> exact h
 | cons o r ih=>
  intro ss k T T' h hm
  cases ss with
  | nil=>exact h
  | cons s ss=>
   obtain⟨v,H'⟩:=s
   simp only[ba]
   refine ih ss (k+1) _ _ ?_ fun i o' h1 h2=>by have:=hm (i+1) o' (by simpa using h1) h2; rw[show k+1+i=k+(i+1) by omega]; exact this
   by_cases hd:o.dst=some t
   ·have:=hm 0 o rfl hd
    simp only[Nat.add_zero]at this
    rw[this]
    cases m' k
    ·exact h
    ·simp only[cond_true,kq,hd,if_true]
   ·have e1:∀(b:Bool) (T:Tr aa),(bif b then co T o.dst v else T).get t=T.get t:=fun b T=>by
     cases b
     ·rfl
     ·simp only[cond_true,kq,if_neg hd]
    rw[e1,e1,h]
theorem iQ{m:Nat->Bool}{t:Nat}:∀(l:List ah) (ss:List (aa×ab)) (k j:Nat) (T:Tr aa) (o:ah) (v:aa) (H':ab),l[j]?=some o->ss[j]?=some (v,H')->o.dst=some t->m (k+j)=true ->
  (∀i o',j<i->l[i]?=some o'->o'.dst=some t->m (k+i)=false)->(ba m k l ss T).get t=some v:=by
 intro l
 induction l with
 | nil=>intro ss k j T o v H' h; simp at h
 | cons o r ih=>
  intro ss k j T o' v H' h1 h2 h3 h4 h5
  cases ss with
  | nil=>simp at h2
  | cons s ss=>
   obtain⟨u,H1⟩:=s
   simp only[ba]
   cases j with
   | zero=>
    simp only[Oa,sJ,pJ]at h1 h2
    obtain⟨rfl,rfl⟩:=h2
    subst h1
    simp only[Nat.add_zero]at h4
    rw[h4]
    have:=eU (m:=m) (m':=fun _=>false) (t:=t) r ss (k+1) (bif true then co T o.dst u else T) (co T o.dst u) rfl fun i o' q1 q2=>by
     have:=h5 (i+1) o' om (by simpa using q1) q2
     rw[show k+1+i=k+(i+1) by omega]; exact this
    rw[this]
    have hn:∀(l:List ah) (ss:List (aa×ab)) (k:Nat) (T:Tr aa),ba (fun _=>false) k l ss T=T:=by
     intro l
     induction l with
     | nil=>intro ss k T; cases ss <;> rfl
     | cons o r ih=>intro ss k T; cases ss with
      | nil=>rfl
      | cons s ss=>obtain⟨a,b⟩:=s; simp only[ba,cond_false,ih]
    rw[hn,kq,if_pos h3]
   | succ j=>
    refine ih ss (k+1) j _ o' v H' (by simpa using h1) (by simpa using h2) h3 (by rw[show k+1+j=k+(j+1) by omega]; exact h4) fun i o2 q0 q1 q2=>?_
    rw[show k+1+i=k+(i+1) by omega]
    exact h5 (i+1) o2 om (by simpa using q1) q2
section
variable {tb:FuncId->Bool} {call:FuncId->List aa->ab->Option (aa×ab)}
theorem fT:∀(l:List ah) (T:Tr aa) (H:ab) (ss:List (aa×ab)) (k:Nat),cm tb call l T H=some ss ->
  ss.length=l.length/\∀j o,l[j]?=some o->∃v H',ss[j]?=some (v,H')/\be tb call o (ba (fun i=>Nat.blt i (k+j)) k l ss T) (dU H ss j)=some (v,H'):=by
 intro l
 induction l with
 | nil=>intro T H ss k h; simp only[cm,sJ]at h; subst h; exact⟨rfl,fun j o h=>by simp at h⟩
 | cons o r ih=>
  intro T H ss k h
  simp only[cm]at h
  split at h
  ·rename_i v H' hs
   split at h
   ·rename_i s hr
    simp only[sJ]at h
    subst h
    obtain⟨h1,h2⟩:=ih _ _ _ (k+1) hr
    refine⟨by simp[h1],fun j o' hj=>?_⟩
    cases j with
    | zero=>
     simp only[Oa,sJ]at hj
     subst hj
     refine⟨v,H',rfl,?_⟩
     have e:ba (fun i=>Nat.blt i (k+0)) k (o::r) ((v,H')::s) T=T:=by
      have hn:∀(l:List ah) (ss:List (aa×ab)) (k':Nat) (T:Tr aa),k<=k'->ba (fun i=>Nat.blt i (k+0)) k' l ss T=T:=by
       intro l
       induction l with
       | nil=>intro ss k' T _; cases ss <;> rfl
       | cons o r ih=>intro ss k' T hk; cases ss with
        | nil=>rfl
        | cons s ss=>
         obtain⟨a,b⟩:=s
         have:Nat.blt k' (k+0)=false:=by
          cases hb:Nat.blt k' (k+0) with
          | false=>rfl
          | true=>have:=N7 hb; omega
         simp only[ba,this,cond_false]
         exact ih ss (k'+1) T om
      exact hn _ _ k T rL
     rw[e]
     exact hs
    | succ j=>
     simp only[Ob]at hj
     obtain⟨u,H2,q1,q2⟩:=h2 j o' hj
     refine⟨u,H2,by simpa using q1,?_⟩
     have hb:Nat.blt k (k+(j+1))=true:=by
      show Nat.ble (k+1) (k+(j+1))=true
      exact N3 om
     simp only[ba,hb,cond_true]
     rw[show k+(j+1)=k+1+j by omega]
     have hh:dU H ((v,H')::s) (j+1)=dU H' s j:=by
      cases j with
      | zero=>rfl
      | succ j=>
       simp only[dU,Ob]
       have:j<s.length:=by
        have:=(N2.1 hj).1
        omega
       rw[N1 this]
     rw[hh]
     exact q2
   ·simp at h
  ·simp at h
end
end Go.Abs
namespace Go.Abs
def aS(o:Oper):List Nat:=(o.after.toList.filter (Region.binds .any)).map (·.on)
def EN(ms:List Nat):List Nat->Nat
 | []=>0
 | e::r=>(1 <<< e) ||| (ms.getD e 0) ||| EN ms r
def aT(acc:List Nat):List (List Nat)->List Nat
 | []=>acc
 | es::r=>aT (acc++[EN acc es]) r
def iL(ms:List Nat)(j i:Nat):Bool:=Nat.blt i j&&(ms.getD j 0).testBit i
theorem jG{ms:List Nat}{j i:Nat}(h:iL ms j i=true):i<j:=by
 unfold iL at h
 rw[N4]at h
 exact N7 h.1
def fD(es:List (List Nat))(ms:List Nat):Bool:=
 (List.range es.length).all fun j=>(es.getD j []).all (fun e=>Nat.blt e j)&&(List.range j).all fun i=>!iL ms j i||(es.getD j []).any fun e=>Nat.beq e i||(Nat.blt i e&&iL ms e i)
def vi(a b:ah):Bool:=
 (match a.dst with | none=>true | some d=>!(iD b).contains d&&!(b.dst==some d))&&(match b.dst with | none=>true | some d=>!(iD a).contains d)
def fC(ms:List Nat)(i j:Nat)(a b:ah):Bool:=iL ms j i||(!(aA a.op&&aA b.op)&&vi a b)
def dT(l:List ah)(ms:List Nat):Bool:=
 (List.range l.length).all fun j=>match l[j]? with
  | some b=>(List.range j).all fun i=>match l[i]? with
   | some a=>fC ms i j a b
   | none=>true
  | none=>true
def kZ(l:List ah)(p:Nat):Bool:=match l[p]? with | some o=>aA o.op | none=>Nat.beq p l.length
def tC(l:List ah)(ms:List Nat)(j p:Nat):Bool:=
 kZ l p&&(List.range l.length).all fun c=>match l[c]? with
  | some o=>!aA o.op||(bif Nat.blt c p then !iL ms c j else !iL ms j c)
  | none=>true
def oN(l:List ah)(j p:Nat):Bool:=Nat.ble j p&&(List.range p).all fun c=>Nat.blt c j||(match l[c]? with | some o=>!aA o.op | none=>true)
def dV(l:List ah)(ms:List Nat)(j:Nat):List Nat:=
 match l[j]? with
 | some o=>bif dc o.op then (List.range (l.length+1)).filter (fun p=>!oN l j p&&tC l ms j p) else []
 | none=>[]
theorem oU{es:List (List Nat)}{ms:List Nat}(h:fD es ms=true){m:Nat->Bool}(hm:∀j,j<es.length->m j=true->∀e∈es.getD j [],m e=true) :
  ∀j,j<es.length->(∀e∈es.getD j [],m e=true)->∀i,i<j->iL ms j i=true->m i=true:=by
 intro j
 induction j using Nat.strongRecOn with
 | _ j ih=>
  intro hj hr i hi hb
  unfold fD at h
  rw[List.all_eq_true]at h
  have h1:=h j (List.mem_range.2 hj)
  simp only[N4,List.all_eq_true,List.mem_range,Bool.or_eq_true,Bool.not_eq_true',List.any_eq_true]at h1
  obtain⟨h2,h3⟩:=h1
  rcases h3 i hi with h4 | ⟨e,he,h5⟩
  ·rw[hb]at h4; simp at h4
  ·have hej:e<j:=N7 (h2 e he)
   rcases h5 with h5 | ⟨h5,h6⟩
   ·rw[<- nb h5]; exact hr e he
   ·exact ih e hej om (hm e om (hr e he)) i (N7 h5) h6
section
variable (P:Program)
def du(n:Nat):Option Nat->Bool
 | none=>true
 | some d=>Nat.blt d n
def gT(n:Nat)(ops:Array Oper):Option (Nat×Bool)->Option (Option (Nat×Bool))
 | none=>some none
 | some (j,b)=>match (ops[j]?).bind (·.dst) with
  | some d=>bif Nat.blt d n&&Nat.blt d SK then some (some (d,b)) else none
  | none=>none
def dK(n:Nat)(ops:Array Oper)(o:Oper):Option ah:=
 match vq P o.op,gT n ops o.guard with
 | some a,some g=>bif du n o.dst then some ⟨o.dst,a,g⟩ else none
 | _,_=>none
def cx(n:Nat)(ops:Array Oper):List Oper->Option (List ah)
 | []=>some []
 | o::r=>match dK P n ops o,cx n ops r with
  | some a,some l=>some (a::l)
  | _,_=>none
end
section
variable {P:Program} {Prot:Gh} {w0:World} {ρ:Pl} {H H':ab} {w:World}
theorem bH{n:Nat}{T:Tr aa}{a:Act}(h:aW ρ n T a.tmps){dst:Option Nat}(hd:du n dst=true){x:aa}{v:Value}(hx:ae ρ x v):aW ρ n (co T dst x) (a.put dst v).tmps:=by
 cases dst with
 | none=>exact h
 | some d=>
  have hd:d<n:=N7 hd
  refine⟨by simp[Act.put,h.size],fun t=>?_⟩
  simp only[co,ev,Tr.get_set,Act.put]
  by_cases e:t=d
  ·subst e
   rw[if_pos rfl]
   have:t<a.tmps.size:=by rw[h.size]; exact hd
   simpa[this] using hx
  ·rw[if_neg e]
   have:=h.at_ t
   simp only[ev]at this
   rw[Array.getD_eq_getD_getElem?,Array.getElem?_setIfInBounds_ne (fun q=>e q.symm),<- Array.getD_eq_getD_getElem?]
   exact this
theorem dM:ae ρ aN undef:=by simp only[aN,ae,undef]; exact⟨#[],rfl,by simp[aj]⟩
theorem IH{x:aa}{b:Bool}(h:ae ρ x (.bool b)):x=.bool b:=by
 cases x with
 | bool c=>simp only[ae,Value.bool.injEq]at h; rw[h]
 | ptr a=>cases a <;> simp[ae]at h
 | slice a n r=>cases a with
  | none=>simp[ae]at h
  | some a=>
   simp only[ae]at h
   obtain⟨L,_,_,h⟩:=h
   cases r <;> simp[bB]at h
 | map a=>cases a <;> simp[ae]at h
 | val x=>simp only[ae]at h; obtain⟨rfl,h⟩:=h; simp[Ll]at h
 | _=>simp[ae]at h
theorem fh{n:Nat}{T:Tr aa}{a:Act}(h:aW ρ n T a.tmps){ops:Array Oper}{o:Oper}{g:Option (Nat×Bool)}(hg:gT n ops o.guard=some g):Region.wanted o (yielded ops a.tmps)=ga T g:=by
 unfold Region.wanted
 cases ho:o.guard with
 | none=>rw[ho]at hg; simp only[gT,sJ]at hg; subst hg; rfl
 | some jb=>
  obtain⟨j,b⟩:=jb
  rw[ho]at hg
  simp only[gT]at hg
  split at hg
  ·rename_i d hd
   cases hb:Nat.blt d n&&Nat.blt d SK with
   | false=>rw[hb]at hg; simp at hg
   | true=>
    rw[hb]at hg
    simp only[N4]at hb
    simp only[cond_true,sJ]at hg
    subst hg
    have hlt:d<a.tmps.size:=by rw[h.size]; exact N7 hb.1
    obtain⟨k1,k2⟩:=LP hb.2
    have hat:=h.at_ d
    simp only[yielded,hd,Option.bind_some,ga,gV,k1,k2,cond_false]
    rw[Array.getElem?_eq_getElem hlt]
    have e:a.tmps.getD d undef=a.tmps[d]:=by simp[hlt]
    rw[e]at hat
    cases hv:a.tmps[d] with
    | bool c=>
     rw[hv]at hat
     rw[IH hat]
     cases b <;> cases c <;> rfl
    | _=>
     rw[hv]at hat
     cases hT:ev T (.t d) with
     | bool c=>rw[hT]at hat; simp[ae]at hat
     | _=>rfl
  ·simp at hg
def gX(P:Program)(call:FuncId->List aa->ab->Option (aa×ab)):Prop:=
 ∀f args H v H',Nat.blt f bN=true->call f args H=some (v,H')->∀Prot w0 ρ w (vs:Array Value),bv Prot w0 ρ H w->aj ρ args vs.toList ->
  Calls P f vs w fun e w'=>∃ρ' u,ρ.le ρ'/\e=.returned u/\bv Prot w0 ρ' H' w'/\ae ρ' v u
end
theorem qA{P:Program}{n:Nat}{ops:Array Oper}:∀{rest:List Oper} {l:List ah},cx P n ops rest=some l->l.length=rest.length/\∀(j:Nat) (o:Oper),rest[j]?=some o->∃a,l[j]?=some a/\dK P n ops o=some a:=by
 intro rest
 induction rest with
 | nil=>intro l h; simp only[cx,sJ]at h; subst h; exact⟨rfl,fun j o h=>by simp at h⟩
 | cons o r ih=>
  intro l h
  simp only[cx]at h
  split at h
  ·rename_i a l' h1 h2
   simp only[sJ]at h
   subst h
   obtain⟨q1,q2⟩:=ih h2
   refine⟨by simp[q1],fun j o' hj=>?_⟩
   cases j with
   | zero=>simp only[Oa,sJ]at hj; subst hj; exact⟨a,rfl,h1⟩
   | succ j=>simpa using q2 j o' (by simpa using hj)
  ·simp at h
theorem dz(m:Nat->Bool):∀(l:List ah) (k:Nat),k<=ap m k l/\ap m k l<=k+l.length/\(∀c o,l[c]?=some o->aA o.op=true->k+c<ap m k l->m (k+c)=true) /\
  (∀o,ap m k l<k+l.length->l[ap m k l-k]?=some o->aA o.op=true/\m (ap m k l)=false):=by
 intro l
 induction l with
 | nil=>intro k; exact⟨Nat.le_refl _,Nat.le_refl _,fun c o h=>by simp at h,fun o h=>by simp[ap]at h⟩
 | cons o r ih=>
  intro k
  simp only[ap]
  cases hb:(aA o.op&&!m k) with
  | true=>
   simp only[cond_true,N4,Bool.not_eq_true']at hb ⊢
   refine⟨Nat.le_refl _,by simp,fun c o' _ _ h=>om,fun o' _ h=>?_⟩
   simp only[Nat.sub_self,Oa,sJ]at h
   subst h
   exact hb
  | false=>
   simp only[cond_false]
   obtain⟨h1,h2,h3,h4⟩:=ih (k+1)
   refine⟨om,by simp only[N5]; omega,fun c o' hc hch hlt=>?_,fun o' hlt ho=>?_⟩
   ·cases c with
    | zero=>
     simp only[Oa,sJ]at hc
     subst hc
     rw[hch]at hb
     simpa using hb
    | succ c=>
     rw[show k+(c+1)=k+1+c by omega]
     exact h3 c o' (by simpa using hc) hch om
   ·simp only[N5]at hlt
    refine h4 o' om ?_
    rw[show ap m (k+1) r-k=(ap m (k+1) r-(k+1))+1 by omega]at ho
    simpa using ho
end Go.Abs
namespace Go.Abs
def dH:gZ->Option (List aa×Option (Nat×Nat))
 | .new z=>some (z,none)
 | .mkSlice by_ z (.c l) (.c c)=>match ii l,ii c with
  | some l,some c=>bif Nat.ble l c&&Nat.ble (by_*c) 281474976710656 then some (sj z c,some (l,c)) else none
  | _,_=>none
 | _=>none
def aw:Nat->List ah->List ah
 | _,[]=>[]
 | b,o::r=>match dH o.op with
  | some (z,s)=>⟨o.dst,.claim b z s,o.guard⟩::aw (b+1) r
  | none=>o::aw b r
def bt:ab->List ah->ab
 | H,[]=>H
 | H,o::r=>match dH o.op with
  | some (z,_)=>bt (H.push (.cells z 0 false)) r
  | none=>bt H r
structure rS(a b:ah):Prop where
 dst:a.dst=b.dst
 chain:aA a.op=aA b.op
 load:dc a.op=dc b.op
 reads:iD a=iD b
theorem rS.refl(a:ah):rS a a:=⟨rfl,rfl,rfl,rfl⟩
structure oH(l m:List ah):Prop where
 len:l.length=m.length
 at_:∀(i:Nat) (a:ah),l[i]?=some a->∃b,m[i]?=some b/\rS a b
theorem oH.cons{a b:ah}{l m:List ah}(h:rS a b)(k:oH l m):oH (a::l) (b::m):=by
 refine⟨by simp[k.len],fun i x hx=>?_⟩
 cases i with
 | zero=>simp at hx; subst hx; exact⟨b,by simp,h⟩
 | succ i=>simp at hx; simpa using k.at_ i x hx
theorem iu:∀(l:List ah) (b c:Nat),oH (aw b l) (aw c l)
 | [],b,c=>⟨rfl,fun i a h=>by simp[aw]at h⟩
 | o::r,b,c=>by
  simp only[aw]
  cases dH o.op with
  | none=>exact oH.cons (rS.refl _) (iu r _ _)
  | some p=>
   obtain⟨z,s⟩:=p
   exact oH.cons ⟨rfl,rfl,rfl,rfl⟩ (iu r _ _)
theorem oH.none{l m:List ah}(h:oH l m){i:Nat}(hi:l[i]?=none):m[i]?=none:=by
 rw[List.getElem?_eq_none_iff]at hi ⊢
 rw[<- h.len]; exact hi
theorem wB{ms:List Nat}{i j:Nat}{a b a' b':ah}(h:rS a a')(k:rS b b'):fC ms i j a b=fC ms i j a' b':=by
 unfold fC vi
 rw[h.chain,k.chain,h.dst,k.dst,h.reads,k.reads]
theorem nq{l m:List ah}(h:oH l m)(ms:List Nat):dT l ms=dT m ms:=by
 unfold dT
 rw[h.len]
 congr 1
 funext j
 cases hj:l[j]? with
 | none=>rw[h.none hj]
 | some b=>
  obtain⟨b',hb',kb⟩:=h.at_ j b hj
  rw[hb']
  simp only
  congr 1
  funext i
  cases hi:l[i]? with
  | none=>rw[h.none hi]
  | some a=>
   obtain⟨a',ha',ka⟩:=h.at_ i a hi
   rw[ha']
   simp only
   exact wB ka kb
theorem uY{l m:List ah}(h:oH l m)(p:Nat):kZ l p=kZ m p:=by
 unfold kZ
 cases hj:l[p]? with
 | none=>rw[h.none hj,h.len]
 | some b=>
  obtain⟨b',hb',kb⟩:=h.at_ p b hj
  rw[hb']
  exact kb.chain
theorem yQ{l m:List ah}(h:oH l m)(ms:List Nat)(j p:Nat):tC l ms j p=tC m ms j p:=by
 unfold tC
 rw[uY h,h.len]
 congr 2
 funext c
 cases hj:l[c]? with
 | none=>rw[h.none hj]
 | some b=>
  obtain⟨b',hb',kb⟩:=h.at_ c b hj
  rw[hb']
  simp only[kb.chain]
theorem yw{l m:List ah}(h:oH l m)(j p:Nat):oN l j p=oN m j p:=by
 unfold oN
 congr 2
 funext c
 cases hj:l[c]? with
 | none=>rw[h.none hj]
 | some b=>
  obtain⟨b',hb',kb⟩:=h.at_ c b hj
  rw[hb']
  simp only[kb.chain]
theorem rn{l m:List ah}(h:oH l m)(ms:List Nat)(j:Nat):dV l ms j=dV m ms j:=by
 unfold dV
 cases hj:l[j]? with
 | none=>rw[h.none hj]
 | some b=>
  obtain⟨b',hb',kb⟩:=h.at_ j b hj
  rw[hb']
  simp only[kb.load,h.len]
  congr 1
  congr 1
  funext p
  rw[yw h,yQ h]
theorem vl{P:Program}{c:Call}{z:List aa}(h:je P c=some (.new z)):False:=by
 unfold je at h
 repeat' split at h
 all_goals first
  | (simp at h; done)
  | (cases hb:(Nat.beq _ _&&mz P _) <;> simp[hb]at h; done)
  | skip
 all_goals (revert h; intro h; simp only[cond_eq_ite]at h; split at h <;> simp at h)
theorem vo{P:Program}{o:Op}{z:List aa}(h:oz P o=some (.new z)):False:=by
 unfold oz at h
 repeat' split at h
 all_goals first
  | (simp at h; done)
  | (simp only[cond_eq_ite]at h; split at h <;> first | (simp at h; done) | (split at h <;> simp at h))
theorem Kn{P:Program}{o:Op}{z:List aa}(h:vq P o=some (.new z)):∃e,o=.alloc e/\da P e=some z:=by
 unfold vq at h
 split at h
 ·rename_i a ha
  simp only[sJ]at h
  subst h
  exact (vo ha).elim
 ·split at h
  ·rename_i a ha
   simp only[sJ]at h
   subst h
   cases o <;> simp only[xm,reduceCtorEq]at ha
   case alloc e _=>
    split at ha
    ·rename_i z' hz
     simp only[sJ,gZ.new.injEq]at ha
     subst ha
     exact⟨e,rfl,hz⟩
    ·simp at ha
   case call c=>exact (vl ha).elim
   all_goals
    exfalso
    repeat' split at ha
    all_goals first
     | (simp at ha; done)
     | (simp only[cond_eq_ite]at ha; split at ha <;> simp at ha)
  ·simp at h
theorem xi{P:Program}{c:Call}{b:Nat}{z:List aa}{x y:aV}(h:je P c=some (.mkSlice b z x y)):False:=by
 unfold je at h
 repeat' split at h
 all_goals first
  | (simp at h; done)
  | (cases hb:(Nat.beq _ _&&mz P _) <;> simp[hb]at h; done)
  | skip
 all_goals (revert h; intro h; simp only[cond_eq_ite]at h; split at h <;> simp at h)
theorem xk{P:Program}{o:Op}{b:Nat}{z:List aa}{x y:aV}(h:oz P o=some (.mkSlice b z x y)):False:=by
 unfold oz at h
 repeat' split at h
 all_goals first
  | (simp at h; done)
  | (simp only[cond_eq_ite]at h; split at h <;> first | (simp at h; done) | (split at h <;> simp at h))
theorem LK{P:Program}{o:Op}{b:Nat}{z:List aa}{x y:aV}(h:vq P o=some (.mkSlice b z x y)) :
  ∃t l c e m,o=.makeSlice t l c/\P.underlying t=some (.slice e)/\ov P e=some (m,b)/\da P e=some z/\bA l=some x/\bA c=some y:=by
 unfold vq at h
 split at h
 ·rename_i a ha
  simp only[sJ]at h
  subst h
  exact (xk ha).elim
 ·split at h
  ·rename_i a ha
   simp only[sJ]at h
   subst h
   cases o <;> simp only[xm,reduceCtorEq]at ha
   case makeSlice t l c _=>
    split at ha
    ·rename_i e hu
     split at ha
     ·rename_i m b' z' l' c' h1 h2 h3 h4
      simp only[sJ,gZ.mkSlice.injEq]at ha
      obtain⟨rfl,rfl,rfl,rfl⟩:=ha
      exact⟨t,l,c,e,m,rfl,hu,h1,h2,h3,h4⟩
     ·simp at ha
    ·simp at ha
   case call c=>exact (xi ha).elim
   all_goals
    exfalso
    repeat' split at ha
    all_goals first
     | (simp at ha; done)
     | (simp only[cond_eq_ite]at ha; split at ha <;> simp at ha)
  ·simp at h
def vA(P:Program)(o:Op)(z:List aa)(s:Option (Nat×Nat)):Prop:=
 (∃e,o=.alloc e/\da P e=some z/\s=none) ∨
 ∃t l c e m by_ z0 x y ln cn,o=.makeSlice t l c/\P.underlying t=some (.slice e)/\ov P e=some (m,by_)/\da P e=some z0/\bA l=some (.c x)/\bA c=some (.c y) /\
  ii x=some ln/\ii y=some cn/\(ln<=cn/\by_*cn<=281474976710656)/\z=sj z0 cn/\s=some (ln,cn)
theorem EF{P:Program}{o:Op}{a:gZ}{z:List aa}{s:Option (Nat×Nat)}(h:vq P o=some a)(hn:dH a=some (z,s)):vA P o z s:=by
 unfold dH at hn
 split at hn
 ·simp only[sJ,pJ]at hn
  obtain⟨rfl,rfl⟩:=hn
  obtain⟨e,he,hz⟩:=Kn h
  exact .inl ⟨e,he,hz,rfl⟩
 ·rename_i by_ z0 x y
  obtain⟨t,l,c,e,m,h1,h2,h3,h4,h5,h6⟩:=LK h
  split at hn
  ·rename_i ln cn hl hc
   cases hb:(Nat.ble ln cn&&Nat.ble (by_*cn) 281474976710656) with
   | false=>rw[hb]at hn; simp at hn
   | true=>
    rw[hb]at hn
    simp only[cond_true,sJ,pJ]at hn
    obtain⟨rfl,rfl⟩:=hn
    simp only[N4,Nat.ble_eq]at hb
    exact .inr ⟨t,l,c,e,m,by_,z0,x,y,ln,cn,h1,h2,h3,h4,h5,h6,hl,hc,hb,rfl,rfl⟩
  ·simp at hn
 ·simp at hn
def Dm(P:Program)(n:Nat)(ops:Array Oper)(o:Oper)(a:ah)(b:Nat):Prop:=
 ∃z s g,vA P o.op z s/\gT n ops o.guard=some g/\du n o.dst=true/\a=⟨o.dst,.claim b z s,g⟩
theorem lr{P:Program}{n:Nat}{ops:Array Oper}:∀{rest:List Oper} {l:List ah},cx P n ops rest=some l->∀b,(aw b l).length=rest.length /\
  ∀(j:Nat) (o:Oper),rest[j]?=some o->∃a,(aw b l)[j]?=some a/\(dK P n ops o=some a∨∃c,b<=c/\Dm P n ops o a c):=by
 intro rest
 induction rest with
 | nil=>intro l h b; simp only[cx,sJ]at h; subst h; exact⟨rfl,fun j o h=>by simp at h⟩
 | cons o r ih=>
  intro l h b
  simp only[cx]at h
  split at h
  ·rename_i a l' ha hl'
   simp only[sJ]at h
   subst h
   have key:∀(x:ah) (b':Nat),b<=b'->(dK P n ops o=some x∨∃c,b<=c/\Dm P n ops o x c)->aw b (a::l')=x::aw b' l' ->
     (aw b (a::l')).length=(o::r).length/\∀(j:Nat) (o':Oper),(o::r)[j]?=some o'->∃a',(aw b (a::l'))[j]?=some a'/\(dK P n ops o'=some a'∨∃c,b<=c/\Dm P n ops o' a' c):=by
    intro x b' hb hx he
    rw[he]
    obtain⟨i1,i2⟩:=ih hl' b'
    refine⟨by simp[i1],fun j o' hj=>?_⟩
    cases j with
    | zero=>simp at hj; subst hj; exact⟨x,by simp,hx⟩
    | succ j=>
     simp at hj
     obtain⟨a',h1,h2⟩:=i2 j o' hj
     refine⟨a',by simpa using h1,?_⟩
     rcases h2 with h2 | ⟨c,h2,h3⟩
     ·exact .inl h2
     ·exact .inr ⟨c,om,h3⟩
   cases hop:dH a.op with
   | some p=>
    obtain⟨z,s⟩:=p
    refine key ⟨a.dst,.claim b z s,a.guard⟩ (b+1) om ?_ (by simp only[aw,hop])
    unfold dK at ha
    split at ha
    ·rename_i ax g hopc hg
     cases hdst:du n o.dst with
     | false=>rw[hdst]at ha; simp at ha
     | true=>
      rw[hdst]at ha
      simp only[cond_true,sJ]at ha
      subst ha
      exact .inr ⟨b,Nat.le_refl _,z,s,g,EF hopc hop,hg,hdst,rfl⟩
    ·simp at ha
   | none=>exact key a b rL (.inl ha) (by simp only[aw,hop])
  ·simp at h
end Go.Abs
