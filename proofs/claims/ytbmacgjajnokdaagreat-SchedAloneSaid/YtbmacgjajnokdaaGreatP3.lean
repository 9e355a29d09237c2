/- Part of a proof (A9 A10 D1 D2 D3 D3b); no condition. -/
import Derived.Orders
import Derived.Test.YtbmacgjajnokdaaGreatP2
set_option linter.unusedSimpArgs false
set_option linter.unusedVariables false
set_option linter.defProp false
set_option linter.unnecessarySimpa false
namespace Go.Abs
def BIG:Nat:=1024
inductive Opd where
 | t (i:Nat)
 | c (v:AVal)
 | f (id:FuncId)
inductive AOp where
 | mv (x:Opd)
 | pick (c a b:Opd)
 | new (zero:List AVal)
 | box (x:Opd)
 | build (zero:List AVal) (parts:List (Nat×Nat×Opd))
 | buildSl (len:Nat) (zero:List AVal) (parts:List (Nat×Nat×Opd))
 | load (agg:Bool) (size:Nat) (x:Opd)
 | store (size:Nat) (a x:Opd)
 | nilChk (x:Opd)
 | bin (op:BinOp) (x y:Opd)
 | un (op:UnOp) (x:Opd)
 | conv (k:IntKind) (x:Opd)
 | convSB (x:Opd)
 | convBS (x:Opd)
 | mkFunc (fn:Fn) (first captured:List Opd)
 | mkIface (t:TypeId) (x:Opd)
 | mkSlice (bytes:Nat) (zero:List AVal) (l c:Opd)
 | sl (size:Nat) (x:Opd) (lo hi mx:Option Opd)
 | slStr (x:Opd) (lo hi:Option Opd)
 | fieldA (off:Nat) (x:Opd)
 | field (agg:Bool) (size off:Nat) (x:Opd)
 | idxA (size:Nat) (x i:Opd)
 | idxArr (n size:Nat) (x i:Opd)
 | idx (n size:Nat) (agg:Bool) (x i:Opd)
 | idxS (x i:Opd)
 | extract (i:Nat) (x:Opd)
 | append (size bytes:Nat) (s x:Opd)
 | len (str:Bool) (x:Opd)
 | call (f:FuncId) (args:List Opd)
 | callv (f:Opd) (args:List Opd)
 | pf (f:PF) (xs:List Opd)
 | hf (f:HF) (xs:List Opd)
 | bad
 | claim (b:Nat) (zero:List AVal) (s:Option (Nat×Nat))
 | slA (n size:Nat) (x:Opd) (lo hi mx:Option Opd)
inductive Nx where
 | val (v:AVal)
 | enter (f:FuncId) (args:List AVal)
def undefA:AVal:=.tuple []
def ev(T:Tr AVal):Opd→AVal
 | .t i=>match T.get i with
  | some v=>v
  | none=>undefA
 | .c v=>v
 | .f id=>.func (.func id) [] []
def evs(T:Tr AVal):List Opd→List AVal
 | []=>[]
 | x::r=>ev T x::evs T r
def evO(T:Tr AVal):Option Opd→Option AVal
 | none=>none
 | some x=>some (ev T x)
def evP(T:Tr AVal):List (Nat×Nat×Opd)→List (Nat×Nat×AVal)
 | []=>[]
 | (o,n,x)::r=>(o,n,ev T x)::evP T r
def vv(H:AHeap):Option AVal→Option (Nx×AHeap)
 | some v=>some (.val v,H)
 | none=>none
def vh:Option (AVal×AHeap)→Option (Nx×AHeap)
 | some (v,H)=>some (.val v,H)
 | none=>none
def aNilChk:AVal→Option AVal
 | .ptr none=>none
 | .nilIface=>none
 | .nilFunc=>none
 | .func (.method _) _ _=>none
 | .val _=>none
 | x=>some x
def aLenK(str:Bool):AVal→Option AVal
 | .str s=>bif str then some (.int .i64 s.length) else none
 | .slice _ n _=>bif str then none else some (.int .i64 n)
 | .val (.slice _ n _)=>bif str then none else some (.int .i64 n)
 | _=>none
def aop(tb:FuncId→Bool)(T:Tr AVal)(H:AHeap):AOp→Option (Nx×AHeap)
 | .mv x=>some (.val (ev T x),H)
 | .pick c a b=>match ev T c with
  | .bool b'=>some (.val (bif b' then ev T a else ev T b),H)
  | _=>none
 | .new z=>vh (some (oNew H z))
 | .box x=>vh (some (oNew H (ev T x).cells))
 | .build z ps=>vv H (aBuild z (evP T ps))
 | .buildSl n z ps=>vh (aBuildSl n z H (evP T ps))
 | .load a n x=>vv H (oLoad a n H (ev T x))
 | .store n a x=>match oStore n H (ev T a) (ev T x) with
  | some H'=>some (.val undefA,H')
  | none=>none
 | .nilChk x=>vv H (aNilChk (ev T x))
 | .bin op x y=>vv H (aBin op (ev T x) (ev T y))
 | .un op x=>vv H (aUn op (ev T x))
 | .conv k x=>vv H (aConv k (ev T x))
 | .convSB x=>vh (aSB H (ev T x))
 | .convBS x=>vv H (aBS H (ev T x))
 | .mkFunc fn a b=>some (.val (.func fn (evs T a) (evs T b)),H)
 | .mkIface t x=>some (.val (.iface t (ev T x)),H)
 | .mkSlice b z l c=>vh (aMake b z H (ev T l) (ev T c))
 | .sl n x lo hi mx=>vv H (aSl n (ev T x) (evO T lo) (evO T hi) (evO T mx))
 | .slStr x lo hi=>vv H (aSlStr (ev T x) (evO T lo) (evO T hi))
 | .fieldA o x=>vv H (aField o (ev T x))
 | .field a n o x=>vv H (aFieldV a n o (ev T x))
 | .idxA n x i=>vv H (aIdxA n (ev T x) (ev T i))
 | .idxArr m n x i=>vv H (aIdxArr m n (ev T x) (ev T i))
 | .idx m n a x i=>vv H (aIdx m n a (ev T x) (ev T i))
 | .idxS x i=>vv H (aIdxS (ev T x) (ev T i))
 | .extract i x=>vv H (aExtract i (ev T x))
 | .append n b s x=>vh (aAppend n b H (ev T s) (ev T x))
 | .len s x=>vv H (aLenK s (ev T x))
 | .call f args=>bif tb f then some (.enter f (evs T args),H) else none
 | .callv f args=>match ev T f with
  | .func (.func f) a b=>bif Nat.blt f BIG&&tb f then some (.enter f (a++evs T args++b),H) else none
  | _=>none
 | .pf f xs=>vv H (aPf f (evs T xs))
 | .hf f xs=>vh (aHf f H (evs T xs))
 | .bad=>none
 | .claim b z s=>vv H (aClaim H b z s)
 | .slA m n x lo hi mx=>vv H (aSlArr m n (ev T x) (evO T lo) (evO T hi) (evO T mx))
section
variable (P:Program)
def cOpd:Operand→Option Opd
 | .tmp t=>some (.t t)
 | .const v=>match absC v with
  | some x=>some (.c x)
  | none=>none
 | .global _=>none
 | .func f=>some (.f f)
def cOpds:List Operand→Option (List Opd)
 | []=>some []
 | x::r=>match cOpd x,cOpds r with
  | some y,some l=>some (y::l)
  | _,_=>none
def cOpdO:Option Operand→Option (Option Opd)
 | none=>some none
 | some x=>match cOpd x with
  | some y=>some (some y)
  | none=>none
def cParts(place:Nat→Option (Nat×Nat)):List (Nat×Operand)→Option (List (Nat×Nat×Opd))
 | []=>some []
 | (i,x)::r=>match place i,cOpd x,cParts place r with
  | some (o,n),some y,some l=>some ((o,n,y)::l)
  | _,_,_=>none
def hasBody(f:FuncId):Bool:=
 Nat.blt f BIG&&match P.funcs[f]? with
 | some fn => fn.body.isSome && !(fn.name == "runtime.NumGoroutine")
 | none=>false
def isTail(t:TypeId):Bool:=
 match P.underlying t with
 | some (.slice _)=>true
 | some .string=>true
 | _=>false
def cCall(c:Call):Option AOp:=
 match c.callee with
 | .value (.func f)=>bif Nat.blt f BIG then match cOpds c.args.toList with
   | some l=>some (.call f l)
   | none=>none
  else none
 | .value x=>match cOpd x,cOpds c.args.toList with
  | some y,some l=>some (.callv y l)
  | _,_=>none
 | .builtin .append=>match c.argTypes.toList,cOpds c.args.toList with
  | [sT,xT],some [s,x]=>match P.underlying sT with
   | some (.slice e)=>match tyOf P e,elemOf P e with
    | some (_,n),some (n',b)=>bif Nat.beq n n'&&isTail P xT then some (.append n b s x) else none
    | _,_=>none
   | _=>none
  | _,_=>none
 | .builtin .len=>match c.argTypes.toList,cOpds c.args.toList with
  | [T],some [x]=>match P.underlying T with
   | some (.slice _)=>some (.len false x)
   | some .string=>some (.len true x)
   | _=>none
  | _,_=>none
 | _=>none
def cOp0(o:Op):Option AOp:=
 match o with
 | .move x=>match cOpd x with | some y=>some (.mv y) | none=>none
 | .assign x=>match cOpd x with | some y=>some (.mv y) | none=>none
 | .pick c a b=>match cOpd c,cOpd a,cOpd b with | some c,some a,some b=>some (.pick c a b) | _,_,_=>none
 | .alloc e=>match zeroOf P e with | some z=>some (.new z) | none=>none
 | .box _ x=>match cOpd x with | some y=>some (.box y) | none=>none
 | .build t ps=>match P.underlying t,zeroOf P t with
  | some (.struct fs),some z=>match placesOf P fs.toList with
   | some pl=>match cParts (fun i=>pl[i]?) ps.toList with
    | some l=>some (.build z l)
    | none=>none
   | none=>none
  | some (.array _ e),some z=>match tyOf P e with
   | some (_,n)=>match cParts (fun i=>some (i*n,n)) ps.toList with
    | some l=>some (.build z l)
    | none=>none
   | none=>none
  | _,_=>none
 | .buildSlice t len ps=>match P.underlying t with
  | some (.slice e)=>match tyOf P e,zeroOf P e with
   | some (_,n),some z=>match cParts (fun i=>some (i*n,n)) ps.toList with
    | some l=>bif Nat.beq z.length n&&Nat.ble (len*n) 16777216 then some (.buildSl len z l) else none
    | none=>none
   | _,_=>none
  | _=>none
 | .load t a=>match tyOf P t,cOpd a with | some (g,n),some y=>some (.load g n y) | _,_=>none
 | .store t a x=>match tyOf P t,cOpd a,cOpd x with | some (_,n),some a,some y=>some (.store n a y) | _,_,_=>none
 | .nilCheck x=>match cOpd x with | some y=>some (.nilChk y) | none=>none
 | .binOp op _ x y _=>match cOpd x,cOpd y with | some a,some b=>some (.bin op a b) | _,_=>none
 | .unOp op _ x=>match cOpd x with | some y=>some (.un op y) | none=>none
 | .convert s d x=>match cOpd x with
  | some y=>match P.underlying s,P.underlying d with
   | some _,some (.int k)=>some (.conv k y)
   | some .string,some (.slice e)=>match P.underlying e with
    | some (.int .u8)=>some (.convSB y)
    | _=>none
   | some (.slice e),some .string=>match P.underlying e with
    | some (.int .u8)=>some (.convBS y)
    | _=>none
   | _,_=>none
  | none=>none
 | .makeFunc fn a b=>match cOpds a.toList,cOpds b.toList with | some a,some b=>some (.mkFunc fn a b) | _,_=>none
 | .makeSlice t l c=>match P.underlying t with
  | some (.slice e)=>match elemOf P e,zeroOf P e,cOpd l,cOpd c with
   | some (_,b),some z,some l,some c=>some (.mkSlice b z l c)
   | _,_,_,_=>none
  | _=>none
 | .slice t x lo hi mx=>match P.underlying t,cOpd x,cOpdO lo,cOpdO hi,cOpdO mx with
  | some .string,some x,some lo,some hi,some none=>some (.slStr x lo hi)
  | some (.slice e),some x,some lo,some hi,some mx=>match tyOf P e with
   | some (_,n)=>some (.sl n x lo hi mx)
   | none=>none
  | _,_,_,_,_=>none
 | .fieldAddr s x i=>match P.underlying s,cOpd x with
  | some (.struct fs),some y=>match fs[i]? with
   | some f=>match tyOf P f.type with
    | some (_,n)=>bif Nat.beq n 0 then none else some (.fieldA f.offset y)
    | none=>none
   | none=>none
  | _,_=>none
 | .field s x i=>match P.underlying s,cOpd x with
  | some (.struct fs),some y=>match fs[i]? with
   | some f=>match tyOf P f.type with
    | some (g,n)=>some (.field g n f.offset y)
    | none=>none
   | none=>none
  | _,_=>none
 | .indexAddr t x i=>match P.underlying t,cOpd x,cOpd i with
  | some (.slice e),some x,some i=>match tyOf P e with
   | some (_,n)=>some (.idxA n x i)
   | none=>none
  | some (.array m e),some x,some i=>match tyOf P e with
   | some (_,n)=>some (.idxArr m n x i)
   | none=>none
  | _,_,_=>none
 | .index t x i=>match P.underlying t,cOpd x,cOpd i with
  | some .string,some x,some i=>some (.idxS x i)
  | some (.array m e),some x,some i=>match tyOf P e with
   | some (g,n)=>some (.idx m n g x i)
   | none=>none
  | _,_,_=>none
 | .extract x i=>match cOpd x with | some y=>some (.extract i y) | none=>none
 | .call c=>cCall P c
 | _=>none
def cOpX(o:Op):Option AOp:=
 match o with
 | .binOp .eql t x y _=>match cOpd x,cOpd y with
  | some a,some b=>match eqKOf P t x y with
   | some k=>some (.pf (.eqv false k) [a,b])
   | none=>match eqSXOf P t with
    | some fs=>some (.pf (.eqS false fs) [a,b])
    | none=>none
  | _,_=>none
 | .binOp .neq t x y _=>match cOpd x,cOpd y with
  | some a,some b=>match eqKOf P t x y with
   | some k=>some (.pf (.eqv true k) [a,b])
   | none=>match eqSXOf P t with
    | some fs=>some (.pf (.eqS true fs) [a,b])
    | none=>none
  | _,_=>none
 | .slice t x lo hi mx=>match P.underlying t,cOpd x,cOpdO lo,cOpdO hi,cOpdO mx with
  | some (.array m e),some x,some lo,some hi,some mx=>match tyOf P e with
   | some (_,n)=>some (.slA m n x lo hi mx)
   | none=>none
  | _,_,_,_,_=>none
 | .convert s d x=>bif Nat.beq s d then (match P.underlying s,cOpd x with
  | some (.slice e),some y=>match P.underlying e with
   | some (.int .u8)=>some (.hf .mark [y])
   | _=>none
  | _,_=>none) else none
 | .call c=>match c.callee with
  | .builtin .clear=>match c.argTypes.toList,cOpds c.args.toList with
   | [t],some [x]=>match P.underlying t with
    | some (.slice e)=>match zeroOf P e with
     | some z=>some (.hf (.clr z) [x])
     | none=>none
    | _=>none
   | _,_=>none
  | .builtin .max=>match cOpds c.args.toList with
   | some l=>some (.pf (.mm true) l)
   | none=>none
  | .builtin .min=>match cOpds c.args.toList with
   | some l=>some (.pf (.mm false) l)
   | none=>none
  | _=>none
 | .sliceToArrayPointer t x=>match P.underlying t,cOpd x with
  | some (.array n _),some y=>some (.pf (.s2a n) [y])
  | _,_=>none
 | .makeMap _ none=>some (.hf .mkMap [])
 | .lookup t m k ok=>match P.underlying t,cOpd m,cOpd k with
  | some (.map kt el),some m,some k=>match kcOf P kt,zeroA P el with
   | some kc,some z=>some (.hf (.mLook kc ok z) [m,k])
   | _,_=>none
  | _,_,_=>none
 | .mapEntry t m k=>match P.underlying t,cOpd m,cOpd k with
  | some (.map kt el),some m,some k=>match kcOf P kt,zeroA P el with
   | some kc,some z=>some (.hf (.mf (.entry kc z)) [m,k])
   | _,_=>none
  | _,_,_=>none
 | .entryStore _ m n x=>match cOpd m,cOpd n,cOpd x with
  | some m,some n,some x=>some (.hf (.mf .store) [m,n,x])
  | _,_,_=>none
 | .mapUpdate t m k x=>match P.underlying t,cOpd m,cOpd k,cOpd x with
  | some (.map kt _),some m,some k,some x=>match kcOf P kt with
   | some kc=>some (.hf (.mf (.upd kc)) [m,k,x])
   | none=>none
  | _,_,_,_=>none
 | _=>none
def cOp(o:Op):Option AOp:=
 match cOpX P o with
 | some a=>some a
 | none=>match cOp0 P o with
  | some a=>some a
  | none=>some .bad
end
section
variable {P:Program} {Prot:Gh} {w0:World} {ρ:Pl} {H H':AHeap} {w:World}
structure TmpsRel(ρ:Pl)(n:Nat)(T:Tr AVal)(tmps:Array Value):Prop where
 size:tmps.size=n
 at_:∀t,VRel ρ (ev T (.t t)) (tmps.getD t undef)
theorem TmpsRel.mono{ρ ρ':Pl}{n:Nat}{T:Tr AVal}{tmps:Array Value}(h:ρ.le ρ')(t:TmpsRel ρ n T tmps):TmpsRel ρ' n T tmps:=⟨t.size,fun i=>VRel.mono h _ _ (t.at_ i)⟩
theorem opd_ok{n:Nat}{T:Tr AVal}{a:Act}(h:TmpsRel ρ n T a.tmps){x:Operand}{y:Opd}(hc:cOpd x=some y):VRel ρ (ev T y) (a.eval x):=by
 cases x with
 | tmp t=>simp only[cOpd,sJ]at hc; subst hc; exact h.at_ t
 | const v=>
  simp only[cOpd]at hc
  split at hc
  ·rename_i x hx
   simp only[sJ]at hc
   subst hc
   exact absC_ok hx
  ·simp at hc
 | global g=>simp[cOpd]at hc
 | func f=>
  simp only[cOpd,sJ]at hc
  subst hc
  simp only[ev,Act.eval,VRel]
  exact⟨#[],#[],rfl,by simp[VRels],by simp[VRels]⟩
theorem opds_ok{n:Nat}{T:Tr AVal}{a:Act}(h:TmpsRel ρ n T a.tmps):∀{l:List Operand} {m:List Opd},cOpds l=some m→VRels ρ (evs T m) (l.map a.eval):=by
 intro l
 induction l with
 | nil=>intro m hc; simp only[cOpds,sJ]at hc; subst hc; simp[evs,VRels]
 | cons x r ih=>
  intro m hc
  simp only[cOpds]at hc
  split at hc
  ·rename_i y l' h1 h2
   simp only[sJ]at hc
   subst hc
   simp only[evs,List.map_cons,VRels]
   exact⟨_,_,rfl,opd_ok h h1,ih h2⟩
  ·simp at hc
theorem opdO_ok{n:Nat}{T:Tr AVal}{a:Act}(h:TmpsRel ρ n T a.tmps){x:Option Operand}{y:Option Opd}(hc:cOpdO x=some y):ORelV ρ (evO T y) (x.map a.eval):=by
 cases x with
 | none=>simp only[cOpdO,sJ]at hc; subst hc; rfl
 | some x=>
  simp only[cOpdO]at hc
  split at hc
  ·rename_i z hz
   simp only[sJ]at hc
   subst hc
   exact⟨_,rfl,opd_ok h hz⟩
  ·simp at hc
theorem parts_ok{n:Nat}{T:Tr AVal}{a:Act}(h:TmpsRel ρ n T a.tmps){place:Nat→Option (Nat×Nat)}:∀{l:List (Nat×Operand)} {m:List (Nat×Nat×Opd)},cParts place l=some m →
  PartsRel ρ place (evP T m) (l.map fun p=>(p.1,a.eval p.2)):=by
 intro l
 induction l with
 | nil=>intro m hc; simp only[cParts,sJ]at hc; subst hc; simp[evP,PartsRel]
 | cons x r ih=>
  intro m hc
  obtain⟨i,x⟩:=x
  simp only[cParts]at hc
  split at hc
  ·rename_i o k y l' h1 h2 h3
   simp only[sJ]at hc
   subst hc
   simp only[evP,List.map_cons,PartsRel]
   exact⟨_,_,_,rfl,h1,opd_ok h h2,ih h3⟩
  ·simp at hc
def NxRel(P:Program)(ρ:Pl):Nx→Next→Prop
 | .val x,.value v=>VRel ρ x v
 | .val x,.skip=>VRel ρ x undef
 | .enter f l,.enter g vs=>g=f∧Nat.blt f BIG=true∧VRels ρ l vs.toList
 | _,_=>False
def OpSim(P:Program)(Prot:Gh)(w0:World)(ρ:Pl)(w:World)(s:Sem Next)(nx:Nx)(H':AHeap):Prop:=
 ∃ρ' w' n,ρ.le ρ'∧s.run P w=.ok n w'∧Rel Prot w0 ρ' H' w'∧NxRel P ρ' nx n
theorem OpSim.val(R:Rel Prot w0 ρ H w){x:AVal}{s:Sem Value}(h:∃u,s.run P w=.ok u w∧VRel ρ x u):OpSim P Prot w0 ρ w (do pure (.value (← s))) (.val x) H:=by
 obtain⟨u,h1,h2⟩:=h
 exact⟨ρ,w,.value u,Pl.le_refl _,by simp only[Sem.run_bind,h1,Result.andThen_ok]; rfl,R,h2⟩
theorem OpSim.good{x:AVal}{s:Sem Value}(h:GoodV P Prot w0 ρ w s x H'):OpSim P Prot w0 ρ w (do pure (.value (← s))) (.val x) H':=by
 obtain⟨ρ',w',u,h1,h2,h3,h4⟩:=h
 exact⟨ρ',w',.value u,h1,by simp only[Sem.run_bind,h2,Result.andThen_ok]; rfl,h3,h4⟩
theorem vv_spec{x:Option AVal}{nx:Nx}(h:vv H x=some (nx,H')):∃y,x=some y∧nx=.val y∧H'=H:=by
 unfold vv at h
 split at h
 ·simp only[sJ,pJ]at h; exact⟨_,rfl,h.1.symm,h.2.symm⟩
 ·simp at h
theorem vh_spec{x:Option (AVal×AHeap)}{nx:Nx}(h:vh x=some (nx,H')):∃y,x=some (y,H')∧nx=.val y:=by
 unfold vh at h
 split at h
 ·simp only[sJ,pJ]at h; obtain⟨rfl,rfl⟩:=h; exact⟨_,rfl,rfl⟩
 ·simp at h
theorem nilChk_ok(R:Rel Prot w0 ρ H w){x y:AVal}{v:Value}(hx:VRel ρ x v)(h:aNilChk x=some y)(o:Oper){q:Operand}(ev':Operand→Value)(hv:ev' q=v) :
  OpSim P Prot w0 ρ w (execOp ev' { o with op:=.nilCheck q }) (.val y) H:=by
 have hy:y=x∧(∀b,execOp ev' { o with op:=.nilCheck q }=pure (.value v)∨b=true):=by
  cases x with
  | val a=>simp[aNilChk]at h
  | ptr a=>
   cases a with
   | none=>simp[aNilChk]at h
   | some a=>
    simp only[aNilChk,sJ]at h
    simp only[VRel]at hx
    obtain⟨L,_,_,rfl⟩:=hx
    exact⟨h.symm,fun _=>.inl (by simp[execOp,hv])⟩
  | nilIface=>simp[aNilChk]at h
  | nilFunc=>simp[aNilChk]at h
  | func fn a b=>
   cases fn <;> simp only[aNilChk,sJ,reduceCtorEq]at h
   all_goals
    simp only[VRel]at hx
    obtain⟨f,c,rfl,_⟩:=hx
    exact⟨h.symm,fun _=>.inl (by simp[execOp,hv])⟩
  | slice a n r=>
   simp only[aNilChk,sJ]at h
   have:∃b m c,v=.slice b m c:=by
    cases a with
    | none=>simp only[VRel]at hx; exact⟨_,_,_,hx.2.2⟩
    | some a=>obtain⟨_,_,_,_,_,h3,_⟩:=slice_off hx; exact⟨_,_,_,h3⟩
   obtain⟨b,m,c,rfl⟩:=this
   exact⟨h.symm,fun _=>.inl (by simp[execOp,hv])⟩
  | map a=>
   simp only[aNilChk,sJ]at h
   cases a with
   | none=>simp only[VRel]at hx; subst hx; exact⟨h.symm,fun _=>.inl (by simp[execOp,hv])⟩
   | some a=>simp only[VRel]at hx; obtain⟨L,_,rfl⟩:=hx; exact⟨h.symm,fun _=>.inl (by simp[execOp,hv])⟩
  | bool b=>simp only[aNilChk,sJ]at h; simp only[VRel]at hx; subst hx; exact⟨h.symm,fun _=>.inl (by simp[execOp,hv])⟩
  | int b c=>simp only[aNilChk,sJ]at h; simp only[VRel]at hx; subst hx; exact⟨h.symm,fun _=>.inl (by simp[execOp,hv])⟩
  | str b=>simp only[aNilChk,sJ]at h; simp only[VRel]at hx; subst hx; exact⟨h.symm,fun _=>.inl (by simp[execOp,hv])⟩
  | iface t b=>simp only[aNilChk,sJ]at h; simp only[VRel]at hx; obtain⟨_,rfl,_⟩:=hx; exact⟨h.symm,fun _=>.inl (by simp[execOp,hv])⟩
  | agg l=>simp only[aNilChk,sJ]at h; simp only[VRel]at hx; obtain⟨_,rfl,_⟩:=hx; exact⟨h.symm,fun _=>.inl (by simp[execOp,hv])⟩
  | tuple l=>simp only[aNilChk,sJ]at h; simp only[VRel]at hx; obtain⟨_,rfl,_⟩:=hx; exact⟨h.symm,fun _=>.inl (by simp[execOp,hv])⟩
 obtain⟨rfl,h2⟩:=hy
 rcases h2 false with h2 | h2
 ·exact⟨ρ,w,.value v,Pl.le_refl _,by rw[h2]; rfl,R,hx⟩
 ·simp at h2
end
end Go.Abs
namespace Go.Abs
section
variable {P:Program} {Prot:Gh} {w0:World} {ρ:Pl} {H H':AHeap} {w:World}
theorem eqGuard_ok{op:BinOp}{t:TypeId}{x y:Operand}{u v:Value}{p q r:AVal}(hx:VRel ρ p u)(hy:VRel ρ q v)(h:aBin op p q=some r):(eqGuard op t x y u v).run P w=.ok () w:=by
 unfold aBin at h
 split at h
 ·simp only[VRel]at hx hy
  subst hx hy
  cases op <;> rfl
 ·simp only[VRel]at hx hy
  subst hx hy
  cases op <;> rfl
 ·simp at h
theorem asBool_ok{b:Bool}{v:Value}(h:VRel ρ (.bool b) v):(asBool v).run P w=.ok b w:=by
 simp only[VRel]at h; subst h; rfl
theorem callFunc_ok{f:FuncId}(h:hasBody P f=true)(args:Array Value):(callFunc f args).run P w=.ok (.enter f args) w:=by
 unfold hasBody at h
 rw[Bool.and_eq_true]at h
 replace h:=h.2
 split at h
 ·rename_i fn hf
  simp only[Bool.and_eq_true,Bool.not_eq_true']at h
  have h1:fn.body.isNone=false:=by
   cases hb:fn.body with
   | none=>rw[hb]at h; simp at h
   | some b=>rfl
  simp only[callFunc,Sem.run_bind,run_program,Result.andThen_ok,hf,h.2,Bool.false_eq_true,if_false,h1]
  rfl
 ·simp at h
theorem tail_of{t:TypeId}(h:isTail P t=true):Tail P t:=by
 unfold isTail at h
 split at h
 ·rename_i e he; exact .inl ⟨e,he⟩
 ·rename_i he; exact .inr he
 ·simp at h
theorem two_arr{α:Type}{x y:α}{arr:Array α}(h:arr.toList=[x,y]):arr=#[x,y]:=Array.toList_inj.1 (by simpa using h)
theorem opds_two{x y:Opd}{l:List Operand}(h:cOpds l=some [x,y]):∃p q,l=[p,q]∧cOpd p=some x∧cOpd q=some y:=by
 cases l with
 | nil=>simp[cOpds]at h
 | cons p l=>
  cases l with
  | nil=>
   simp only[cOpds]at h
   split at h
   ·rename_i a b h1 h2
    simp only[sJ,List.cons.injEq]at h h2
    rw[← h2]at h
    simp at h
   ·simp at h
  | cons q l=>
   cases l with
   | nil=>
    simp only[cOpds]at h
    split at h
    ·rename_i a b h1 h2
     split at h2
     ·rename_i c d h3 h4
      simp only[sJ]at h4 h2
      subst h4
      subst h2
      simp only[sJ,List.cons.injEq,and_true]at h
      obtain⟨rfl,rfl⟩:=h
      exact⟨p,q,rfl,h1,h3⟩
     ·simp at h2
    ·simp at h
   | cons r l=>
    simp only[cOpds]at h
    split at h
    ·rename_i a b h1 h2
     split at h2
     ·rename_i c d h3 h4
      split at h4
      ·rename_i e f h5 h6
       simp only[sJ]at h4 h2
       subst h4
       subst h2
       simp at h
      ·simp at h4
     ·simp at h2
    ·simp at h
theorem opds_one{x:Opd}{l:List Operand}(h:cOpds l=some [x]):∃p,l=[p]∧cOpd p=some x:=by
 cases l with
 | nil=>simp[cOpds]at h
 | cons p l=>
  cases l with
  | nil=>
   simp only[cOpds]at h
   split at h
   ·rename_i a b h1 h2
    simp only[sJ,List.cons.injEq]at h h2
    subst h2
    obtain⟨rfl,_⟩:=h
    exact⟨p,rfl,h1⟩
   ·simp at h
  | cons q l=>
   simp only[cOpds]at h
   split at h
   ·rename_i a b h1 h2
    split at h2
    ·rename_i c d h3 h4
     simp only[sJ]at h2
     subst h2
     simp at h
    ·simp at h2
   ·simp at h
theorem call_sim{tb:FuncId→Bool}(htb:∀f,Nat.blt f BIG=true→tb f=true→hasBody P f=true)(R:Rel Prot w0 ρ H w){n:Nat}{T:Tr AVal}{a:Act}(ht:TmpsRel ρ n T a.tmps)(o:Oper)(c:Call){ao:AOp}(hc:cCall P c=some ao)
  {nx:Nx} (h:aop tb T H ao=some (nx,H')):OpSim P Prot w0 ρ w (execOp a.eval { o with op:=.call c }) nx H':=by
 obtain⟨callee,args,argTypes⟩:=c
 unfold cCall at hc
 split at hc
 ·-- a function
  rename_i f heq
  simp only at heq
  subst heq
  cases hbig:Nat.blt f BIG with
  | false=>rw[hbig]at hc; simp at hc
  | true=>
  rw[hbig]at hc
  simp only[cond_true]at hc
  split at hc
  ·rename_i l hl
   simp only[sJ]at hc
   subst hc
   simp only[aop]at h
   cases hb:tb f with
   | false=>rw[hb]at h; simp at h
   | true=>
    rw[hb]at h
    simp only[cond_true,sJ,pJ]at h
    obtain⟨rfl,rfl⟩:=h
    refine⟨ρ,w,.enter f (args.map a.eval),Pl.le_refl _,?_,R,rfl,hbig,?_⟩
    ·have:=callFunc_ok (P:=P) (w:=w) (htb f hbig hb) (args.map a.eval)
     simp[execOp,resolve,Act.eval,Deferred.ofValue,invoke,this]
    ·simpa using opds_ok ht hl
  ·simp at hc
 ·rename_i x _ heq
  simp only at heq
  subst heq
  split at hc
  ·rename_i y l hy hl
   simp only[sJ]at hc
   subst hc
   simp only[aop]at h
   split at h
   ·rename_i f fs cs hev
    cases hb':(Nat.blt f BIG&&tb f) with
    | false=>rw[hb']at h; simp at h
    | true=>
     rw[hb']at h
     simp only[Bool.and_eq_true]at hb'
     obtain⟨hbig,hb⟩:=hb'
     simp only[cond_true,sJ,pJ]at h
     obtain⟨rfl,rfl⟩:=h
     have hv:=opd_ok ht hy
     rw[hev]at hv
     simp only[VRel]at hv
     obtain⟨fv,cv,hfv,h1,h2⟩:=hv
     refine⟨ρ,w,.enter f (fv++args.map a.eval++cv),Pl.le_refl _,?_,R,rfl,hbig,?_⟩
     ·have:=callFunc_ok (P:=P) (w:=w) (htb f hbig hb) (fv++args.map a.eval++cv)
      simp only[Array.append_assoc]at this
      simp[execOp,resolve,hfv,Deferred.ofValue,invoke,this]
     ·simpa using VRels.append (VRels.append h1 (opds_ok ht hl)) h2
   ·simp at h
  ·simp at hc
 ·-- append
  rename_i heq
  simp only at heq
  subst heq
  split at hc
  ·rename_i sT xT s x hT hO
   simp only at hT hO
   obtain⟨p,q,hpq,hp,hq⟩:=opds_two hO
   have ha:=two_arr hT
   have hb:=two_arr hpq
   subst ha hb
   split at hc
   ·rename_i e he
    split at hc
    ·rename_i g m m' b h1 h2
     cases hg:(Nat.beq m m'&&isTail P xT) with
     | false=>rw[hg]at hc; simp at hc
     | true=>
      rw[hg]at hc
      simp only[Bool.and_eq_true]at hg
      simp only[cond_true,sJ]at hc
      subst hc
      have:=Nat.eq_of_beq_eq_true hg.1
      subst this
      simp only[aop]at h
      obtain⟨y,hy,rfl⟩:=vh_spec h
      have:=OpSim.good (append_ok (P:=P) (t:=o.type) R he (ty_of h1) (elem_of h2) (tail_of hg.2) (opd_ok ht hp) (opd_ok ht hq) hy)
      simpa[execOp,resolve,invoke,builtin] using this
    ·simp at hc
   ·simp at hc
  ·simp at hc
 ·-- len
  rename_i heq
  simp only at heq
  subst heq
  split at hc
  ·rename_i T1 x hT hO
   simp only at hT hO
   obtain⟨p,hpq,hp⟩:=opds_one hO
   have ha:argTypes=#[T1]:=Array.toList_inj.1 (by simpa using hT)
   have hb:args=#[p]:=Array.toList_inj.1 (by simpa using hpq)
   subst ha hb
   split at hc
   ·rename_i e he
    simp only[sJ]at hc
    subst hc
    simp only[aop]at h
    obtain⟨y,hy,rfl,rfl⟩:=vv_spec h
    have hx:=opd_ok ht hp
    unfold aLenK at hy
    split at hy
    ·simp at hy
    ·rename_i a1 n1 r1 hev
     simp only[cond_false,sJ]at hy
     have:=OpSim.val R (len_ok (P:=P) (w:=w) (t:=o.type) (.inl ⟨e,he⟩) hx (by rw[hev]; simp only[aLen,sJ]; exact hy) (.inr (.inl ⟨a1,n1,r1,e,hev,he⟩)))
     simpa[execOp,resolve,invoke,builtin] using this
    ·rename_i a1 n1 c1 hev
     simp only[cond_false,sJ]at hy
     have:=OpSim.val R (len_ok (P:=P) (w:=w) (t:=o.type) (.inl ⟨e,he⟩) hx (by rw[hev]; simp only[aLen,sJ]; exact hy) (.inr (.inr ⟨a1,n1,c1,e,hev,he⟩)))
     simpa[execOp,resolve,invoke,builtin] using this
    ·simp at hy
   ·rename_i he
    simp only[sJ]at hc
    subst hc
    simp only[aop]at h
    obtain⟨y,hy,rfl,rfl⟩:=vv_spec h
    have hx:=opd_ok ht hp
    unfold aLenK at hy
    split at hy
    ·rename_i s1 hev
     simp only[cond_true,sJ]at hy
     have:=OpSim.val R (len_ok (P:=P) (w:=w) (t:=o.type) (.inr he) hx (by rw[hev]; simp only[aLen,sJ]; exact hy) (.inl ⟨s1,hev,he⟩))
     simpa[execOp,resolve,invoke,builtin] using this
    ·simp at hy
    ·simp at hy
    ·simp at hy
   ·simp at hc
  ·simp at hc
 ·simp at hc
theorem op_sim0{tb:FuncId→Bool}(htb:∀f,Nat.blt f BIG=true→tb f=true→hasBody P f=true)(R:Rel Prot w0 ρ H w){n:Nat}{T:Tr AVal}{a:Act}(ht:TmpsRel ρ n T a.tmps)(o:Oper){ao:AOp}(hc:cOp0 P o.op=some ao)
  {nx:Nx} (h:aop tb T H ao=some (nx,H')):OpSim P Prot w0 ρ w (execOp a.eval o) nx H':=by
 obtain⟨dst,op,type,pos,after,guard⟩:=o
 simp only at hc
 cases op <;> simp only[cOp0,reduceCtorEq]at hc
 case move x=>
  split at hc
  ·rename_i y hy
   simp only[sJ]at hc; subst hc
   simp only[aop,sJ,pJ]at h
   obtain⟨rfl,rfl⟩:=h
   exact⟨ρ,w,_,Pl.le_refl _,rfl,R,opd_ok ht hy⟩
  ·simp at hc
 case assign x=>
  split at hc
  ·rename_i y hy
   simp only[sJ]at hc; subst hc
   simp only[aop,sJ,pJ]at h
   obtain⟨rfl,rfl⟩:=h
   exact⟨ρ,w,_,Pl.le_refl _,rfl,R,opd_ok ht hy⟩
  ·simp at hc
 case pick c x y=>
  split at hc
  ·rename_i c' x' y' h1 h2 h3
   simp only[sJ]at hc; subst hc
   simp only[aop]at h
   split at h
   ·rename_i b hb
    simp only[sJ,pJ]at h
    obtain⟨rfl,rfl⟩:=h
    have hcv:=opd_ok ht h1
    rw[hb]at hcv
    refine⟨ρ,w,.value (if b then a.eval x else a.eval y),Pl.le_refl _,?_,R,?_⟩
    ·simp only[execOp,Sem.run_bind,asBool_ok hcv,Result.andThen_ok]; rfl
    ·cases b
     ·exact opd_ok ht h3
     ·exact opd_ok ht h2
   ·simp at h
  ·simp at hc
 case alloc e=>
  split at hc
  ·rename_i z hz
   simp only[sJ]at hc; subst hc
   simp only[aop]at h
   obtain⟨y,hy,rfl⟩:=vh_spec h
   simp only[sJ]at hy
   have:=OpSim.good (alloc_ok (P:=P) R hz)
   rw[hy]at this
   exact this
  ·simp at hc
 case box e x=>
  split at hc
  ·rename_i y hy
   simp only[sJ]at hc; subst hc
   simp only[aop]at h
   obtain⟨z,hz,rfl⟩:=vh_spec h
   simp only[sJ]at hz
   have:=OpSim.good (new_ok (P:=P) R e (opd_ok ht hy))
   rw[hz]at this
   exact this
  ·simp at hc
 case build t ps=>
  split at hc
  ·rename_i fs z hu hz
   split at hc
   ·rename_i pl hpl
    split at hc
    ·rename_i l hl
     simp only[sJ]at hc; subst hc
     simp only[aop]at h
     obtain⟨y,hy,rfl,rfl⟩:=vv_spec h
     have:=OpSim.val R (buildStr_ok (P:=P) (w:=w) (qs:=ps.map fun p=>(p.1,a.eval p.2)) hu hpl hz (by simpa using parts_ok ht hl) hy)
     simpa[execOp] using this
    ·simp at hc
   ·simp at hc
  ·rename_i m e z hu hz
   split at hc
   ·rename_i g k hk
    split at hc
    ·rename_i l hl
     simp only[sJ]at hc; subst hc
     simp only[aop]at h
     obtain⟨y,hy,rfl,rfl⟩:=vv_spec h
     have:=OpSim.val R (buildArr_ok (P:=P) (w:=w) (qs:=ps.map fun p=>(p.1,a.eval p.2)) hu (ty_of hk) hz (by simpa using parts_ok ht hl) hy)
     simpa[execOp] using this
    ·simp at hc
   ·simp at hc
  ·simp at hc
 case buildSlice t len ps=>
  split at hc
  ·rename_i e hu
   split at hc
   ·rename_i g k z hk hz
    split at hc
    ·rename_i l hl
     cases hg:(Nat.beq z.length k&&Nat.ble (len*k) 16777216) with
     | false=>rw[hg]at hc; simp at hc
     | true=>
      rw[hg]at hc
      simp only[Bool.and_eq_true,Nat.ble_eq]at hg
      simp only[cond_true,sJ]at hc; subst hc
      simp only[aop]at h
      obtain⟨y,hy,rfl⟩:=vh_spec h
      have:=OpSim.good (buildSl_ok (P:=P) (qs:=ps.map fun p=>(p.1,a.eval p.2)) R hu (ty_of hk) hz (Nat.eq_of_beq_eq_true hg.1) hg.2 (by simpa using parts_ok ht hl) hy)
      simpa[execOp] using this
    ·simp at hc
   ·simp at hc
  ·simp at hc
 case load t x=>
  split at hc
  ·rename_i g k y hk hy
   simp only[sJ]at hc; subst hc
   simp only[aop]at h
   obtain⟨z,hz,rfl,rfl⟩:=vv_spec h
   exact OpSim.val R (load_ok (P:=P) R (ty_of hk) (opd_ok ht hy) hz)
  ·simp at hc
 case store t x y=>
  split at hc
  ·rename_i g k x' y' hk hx hy
   simp only[sJ]at hc; subst hc
   simp only[aop]at h
   split at h
   ·rename_i H1 h1
    simp only[sJ,pJ]at h
    obtain⟨rfl,rfl⟩:=h
    obtain⟨w',q1,q2⟩:=store_ok (P:=P) R (ty_of hk) (opd_ok ht hx) (opd_ok ht hy) h1
    refine⟨ρ,w',.skip,Pl.le_refl _,?_,q2,?_⟩
    ·simp only[execOp,Sem.run_bind,q1,Result.andThen_ok]; rfl
    ·simp only[NxRel,undefA,VRel,undef]; exact⟨#[],rfl,by simp[VRels]⟩
   ·simp at h
  ·simp at hc
 case nilCheck x=>
  split at hc
  ·rename_i y hy
   simp only[sJ]at hc; subst hc
   simp only[aop]at h
   obtain⟨z,hz,rfl,rfl⟩:=vv_spec h
   exact nilChk_ok R (opd_ok ht hy) hz ⟨dst,.nilCheck x,type,pos,after,guard⟩ a.eval rfl
  ·simp at hc
 case binOp op t x y yt=>
  split at hc
  ·rename_i x' y' hx hy
   simp only[sJ]at hc; subst hc
   simp only[aop]at h
   obtain⟨z,hz,rfl,rfl⟩:=vv_spec h
   obtain⟨u,h1,h2⟩:=bin_ok (P:=P) (t:=t) (opd_ok ht hx) (opd_ok ht hy) hz w
   refine OpSim.val R ⟨u,?_,h2⟩
   simp only[Sem.run_bind,eqGuard_ok (opd_ok ht hx) (opd_ok ht hy) hz,Result.andThen_ok,h1]
  ·simp at hc
 case unOp op t x=>
  split at hc
  ·rename_i y hy
   simp only[sJ]at hc; subst hc
   simp only[aop]at h
   obtain⟨z,hz,rfl,rfl⟩:=vv_spec h
   exact OpSim.val R (un_ok (P:=P) (opd_ok ht hy) hz w)
  ·simp at hc
 case convert s d x=>
  split at hc
  ·rename_i y hy
   split at hc
   ·rename_i d1 k h1 h2
    simp only[sJ]at hc; subst hc
    simp only[aop]at h
    obtain⟨z,hz,rfl,rfl⟩:=vv_spec h
    exact OpSim.val R (conv_ok (P:=P) h1 h2 (opd_ok ht hy) hz w)
   ·rename_i e _ h1 h2
    split at hc
    ·rename_i he
     simp only[sJ]at hc; subst hc
     simp only[aop]at h
     obtain⟨z,hz,rfl⟩:=vh_spec h
     exact OpSim.good (sb_ok (P:=P) R h1 h2 he (opd_ok ht hy) hz)
    ·simp at hc
   ·rename_i e _ h1 h2
    split at hc
    ·rename_i he
     simp only[sJ]at hc; subst hc
     simp only[aop]at h
     obtain⟨z,hz,rfl,rfl⟩:=vv_spec h
     exact OpSim.val R (bs_ok (P:=P) R h1 he h2 (opd_ok ht hy) hz)
    ·simp at hc
   ·simp at hc
  ·simp at hc
 case makeFunc fn x y=>
  split at hc
  ·rename_i x' y' hx hy
   simp only[sJ]at hc; subst hc
   simp only[aop,sJ,pJ]at h
   obtain⟨rfl,rfl⟩:=h
   refine OpSim.val R ⟨.func fn (x.map a.eval) (y.map a.eval),rfl,?_⟩
   simp only[VRel]
   exact⟨_,_,rfl,by simpa using opds_ok ht hx,by simpa using opds_ok ht hy⟩
  ·simp at hc
 case makeSlice t l c=>
  split at hc
  ·rename_i e hu
   split at hc
   ·rename_i m b z l' c' h1 h2 h3 h4
    simp only[sJ]at hc; subst hc
    simp only[aop]at h
    obtain⟨y,hy,rfl⟩:=vh_spec h
    exact OpSim.good (make_ok (P:=P) R hu (elem_of h1) h2 (opd_ok ht h3) (opd_ok ht h4) hy)
   ·simp at hc
  ·simp at hc
 case slice t x lo hi mx=>
  split at hc
  ·rename_i x' lo' hi' hu hx hlo hhi hmx
   simp only[sJ]at hc; subst hc
   simp only[aop]at h
   obtain⟨y,hy,rfl,rfl⟩:=vv_spec h
   have hmn:mx=none:=by
    cases mx with
    | none=>rfl
    | some m=>simp only[cOpdO]at hmx; split at hmx <;> simp at hmx
   subst hmn
   obtain⟨u,q1,q2⟩:=slStr_ok (P:=P) (w:=w) hu (opd_ok ht hx) (opdO_ok ht hlo) (opdO_ok ht hhi) hy
   refine OpSim.val R ⟨u,?_,q2⟩
   simp only[Instr.sliceAt,Sem.run_bind,run_underlying hu,Result.andThen_ok]
   exact q1
  ·rename_i e x' lo' hi' mx' hu hx hlo hhi hmx
   split at hc
   ·rename_i g k hk
    simp only[sJ]at hc; subst hc
    simp only[aop]at h
    obtain⟨y,hy,rfl,rfl⟩:=vv_spec h
    obtain⟨u,q1,q2⟩:=sl_ok (P:=P) (w:=w) hu (ty_of hk) (opd_ok ht hx) (opdO_ok ht hlo) (opdO_ok ht hhi) (opdO_ok ht hmx) hy
    refine OpSim.val R ⟨u,?_,q2⟩
    simp only[Instr.sliceAt,Sem.run_bind,run_underlying hu,Result.andThen_ok]
    exact q1
   ·simp at hc
  ·simp at hc
 case fieldAddr s x i=>
  split at hc
  ·rename_i fs y hu hy
   split at hc
   ·rename_i f hf
    split at hc
    ·rename_i g k hk
     cases hg:Nat.beq k 0 with
     | true=>rw[hg]at hc; simp at hc
     | false=>
      rw[hg]at hc
      simp only[cond_false,sJ]at hc; subst hc
      simp only[aop]at h
      obtain⟨z,hz,rfl,rfl⟩:=vv_spec h
      exact OpSim.val R (fieldA_ok (P:=P) (w:=w) hu hf (ty_of hk) (fun e=>by rw[e]at hg; simp at hg) (opd_ok ht hy) hz)
    ·simp at hc
   ·simp at hc
  ·simp at hc
 case field s x i=>
  split at hc
  ·rename_i fs y hu hy
   split at hc
   ·rename_i f hf
    split at hc
    ·rename_i g k hk
     simp only[sJ]at hc; subst hc
     simp only[aop]at h
     obtain⟨z,hz,rfl,rfl⟩:=vv_spec h
     exact OpSim.val R (fieldV_ok (P:=P) (w:=w) hu hf (ty_of hk) (opd_ok ht hy) hz)
    ·simp at hc
   ·simp at hc
  ·simp at hc
 case indexAddr t x i=>
  split at hc
  ·rename_i e x' i' hu hx hi
   split at hc
   ·rename_i g k hk
    simp only[sJ]at hc; subst hc
    simp only[aop]at h
    obtain⟨z,hz,rfl,rfl⟩:=vv_spec h
    exact OpSim.val R (idxA_ok (P:=P) (w:=w) hu (ty_of hk) (opd_ok ht hx) (opd_ok ht hi) hz)
   ·simp at hc
  ·rename_i m e x' i' hu hx hi
   split at hc
   ·rename_i g k hk
    simp only[sJ]at hc; subst hc
    simp only[aop]at h
    obtain⟨z,hz,rfl,rfl⟩:=vv_spec h
    exact OpSim.val R (idxArr_ok (P:=P) (w:=w) hu (ty_of hk) (opd_ok ht hx) (opd_ok ht hi) hz)
   ·simp at hc
  ·simp at hc
 case index t x i=>
  split at hc
  ·rename_i x' i' hu hx hi
   simp only[sJ]at hc; subst hc
   simp only[aop]at h
   obtain⟨z,hz,rfl,rfl⟩:=vv_spec h
   exact OpSim.val R (idxS_ok (P:=P) (w:=w) hu (opd_ok ht hx) (opd_ok ht hi) hz)
  ·rename_i m e x' i' hu hx hi
   split at hc
   ·rename_i g k hk
    simp only[sJ]at hc; subst hc
    simp only[aop]at h
    obtain⟨z,hz,rfl,rfl⟩:=vv_spec h
    exact OpSim.val R (idx_ok (P:=P) (w:=w) hu (ty_of hk) (opd_ok ht hx) (opd_ok ht hi) hz)
   ·simp at hc
  ·simp at hc
 case extract x i=>
  split at hc
  ·rename_i y hy
   simp only[sJ]at hc; subst hc
   simp only[aop]at h
   obtain⟨z,hz,rfl,rfl⟩:=vv_spec h
   exact OpSim.val R (extract_ok (P:=P) (w:=w) (opd_ok ht hy) hz)
  ·simp at hc
 case call c=>exact call_sim htb R ht ⟨dst,.call c,type,pos,after,guard⟩ c hc h
theorem OpSim.skip{s:Sem Unit}{w':World}(hr:s.run P w=.ok () w')(hR:Rel Prot w0 ρ H' w'):OpSim P Prot w0 ρ w (do s; pure .skip) (.val (.tuple [])) H':=
 ⟨ρ,w',.skip,Pl.le_refl _,by simp only[Sem.run_bind,hr,Result.andThen_ok]; rfl,hR,by simp only[NxRel,VRel,undef]; exact⟨#[],rfl,by simp[VRels]⟩⟩
theorem op_simX{tb:FuncId→Bool}(R:Rel Prot w0 ρ H w){n:Nat}{T:Tr AVal}{a:Act}(ht:TmpsRel ρ n T a.tmps)(o:Oper){ao:AOp}(hc:cOpX P o.op=some ao)
  {nx:Nx} (h:aop tb T H ao=some (nx,H')):OpSim P Prot w0 ρ w (execOp a.eval o) nx H':=by
 obtain⟨dst,op,type,pos,after,guard⟩:=o
 simp only at hc
 unfold cOpX at hc
 split at hc
 ·rename_i t x y yt
  split at hc
  ·rename_i x' y' hx hy
   split at hc
   ·rename_i k hk
    simp only[sJ]at hc; subst hc
    simp only[aop]at h
    obtain⟨z,hz,rfl,rfl⟩:=vv_spec h
    simp only[aPf,evs,aEqs]at hz
    split at hz
    ·rename_i b hb
     simp only[cond_false,sJ]at hz
     subst hz
     exact OpSim.val R ⟨_,eqv_ok (op:=.eql) (.inl rfl) hk (opd_ok ht hx) (opd_ok ht hy) hb,rfl⟩
    ·simp at hz
   ·split at hc
    ·rename_i fs hk
     simp only[sJ]at hc; subst hc
     simp only[aop]at h
     obtain⟨z,hz,rfl,rfl⟩:=vv_spec h
     simp only[aPf,evs]at hz
     unfold aEqSs at hz
     split at hz
     ·rename_i l m hlm
      simp only[List.cons.injEq,and_true]at hlm
      obtain⟨e1,e2⟩:=hlm
      have p1:=opd_ok ht hx
      have p2:=opd_ok ht hy
      rw[e1]at p1
      rw[e2]at p2
      split at hz
      ·rename_i b hb
       simp only[cond_false,sJ]at hz
       subst hz
       exact OpSim.val R ⟨_,eqSX_ok (op:=.eql) (.inl rfl) hk p1 p2 hb,rfl⟩
      ·simp at hz
     ·simp at hz
    ·simp at hc
  ·simp at hc
 ·rename_i t x y yt
  split at hc
  ·rename_i x' y' hx hy
   split at hc
   ·rename_i k hk
    simp only[sJ]at hc; subst hc
    simp only[aop]at h
    obtain⟨z,hz,rfl,rfl⟩:=vv_spec h
    simp only[aPf,evs,aEqs]at hz
    split at hz
    ·rename_i b hb
     simp only[cond_true,sJ]at hz
     subst hz
     exact OpSim.val R ⟨_,eqv_ok (op:=.neq) (.inr rfl) hk (opd_ok ht hx) (opd_ok ht hy) hb,rfl⟩
    ·simp at hz
   ·split at hc
    ·rename_i fs hk
     simp only[sJ]at hc; subst hc
     simp only[aop]at h
     obtain⟨z,hz,rfl,rfl⟩:=vv_spec h
     simp only[aPf,evs]at hz
     unfold aEqSs at hz
     split at hz
     ·rename_i l m hlm
      simp only[List.cons.injEq,and_true]at hlm
      obtain⟨e1,e2⟩:=hlm
      have p1:=opd_ok ht hx
      have p2:=opd_ok ht hy
      rw[e1]at p1
      rw[e2]at p2
      split at hz
      ·rename_i b hb
       simp only[cond_true,sJ]at hz
       subst hz
       exact OpSim.val R ⟨_,eqSX_ok (op:=.neq) (.inr rfl) hk p1 p2 hb,rfl⟩
      ·simp at hz
     ·simp at hz
    ·simp at hc
  ·simp at hc
 ·rename_i t x lo hi mx
  split at hc
  ·rename_i m e x' lo' hi' mx' hu hx hlo hhi hmx
   split at hc
   ·rename_i g k hk
    simp only[sJ]at hc; subst hc
    simp only[aop]at h
    obtain⟨y,hy,rfl,rfl⟩:=vv_spec h
    exact OpSim.val R (slArr_ok (P:=P) (w:=w) hu (ty_of hk) (opd_ok ht hx) (opdO_ok ht hlo) (opdO_ok ht hhi) (opdO_ok ht hmx) hy)
   ·simp at hc
  ·simp at hc
 ·rename_i s d x
  cases hb:Nat.beq s d with
  | false=>rw[hb]at hc; simp at hc
  | true=>
   rw[hb]at hc
   have:=Nat.eq_of_beq_eq_true hb
   subst this
   simp only[cond_true]at hc
   split at hc
   ·rename_i e y hu hy
    split at hc
    ·rename_i he
     simp only[sJ]at hc; subst hc
     simp only[aop]at h
     obtain⟨z,hz,rfl⟩:=vh_spec h
     exact OpSim.good (mark_ok (P:=P) R hu he (opd_ok ht hy) hz)
    ·simp at hc
   ·simp at hc
 ·rename_i c
  obtain⟨callee,args,argTypes⟩:=c
  split at hc
  ·rename_i heq
   simp only at heq
   subst heq
   split at hc
   ·rename_i T1 x hT hO
    simp only at hT hO
    obtain⟨p,hpq,hp⟩:=opds_one hO
    have ha:argTypes=#[T1]:=Array.toList_inj.1 (by simpa using hT)
    have hb:args=#[p]:=Array.toList_inj.1 (by simpa using hpq)
    subst ha hb
    split at hc
    ·rename_i e he
     split at hc
     ·rename_i zz hzz
      simp only[sJ]at hc
      subst hc
      simp only[aop]at h
      obtain⟨y,hy,rfl⟩:=vh_spec h
      simp only[aHf,evs]at hy
      have:=OpSim.good (clr_ok (P:=P) R he hzz (ty:=type) (opd_ok ht hp) hy)
      simpa[execOp,resolve,invoke,builtin] using this
     ·simp at hc
    ·simp at hc
   ·simp at hc
  ·rename_i heq
   simp only at heq
   subst heq
   split at hc
   ·rename_i l hl
    simp only[sJ]at hc; subst hc
    simp only[aop]at h
    obtain⟨z,hz,rfl,rfl⟩:=vv_spec h
    have hv:=opds_ok ht hl
    simp only[aPf]at hz
    cases hl':evs T l with
    | nil=>rw[hl']at hz; simp[aMMs]at hz
    | cons x r=>
     rw[hl']at hz hv
     simp only[VRels]at hv
     obtain⟨v,vs,e,hx,hr⟩:=hv
     obtain⟨q,hq,hrun⟩:=mm_ok (P:=P) (w:=w) (g:=true) hx hr hz
     refine OpSim.val R (s:=Builtin.max_ argTypes type (args.map a.eval)) ⟨q,?_,hq⟩
     unfold Builtin.max_
     simp only[Array.toList_map,e]
     exact hrun
   ·simp at hc
  ·rename_i heq
   simp only at heq
   subst heq
   split at hc
   ·rename_i l hl
    simp only[sJ]at hc; subst hc
    simp only[aop]at h
    obtain⟨z,hz,rfl,rfl⟩:=vv_spec h
    have hv:=opds_ok ht hl
    simp only[aPf]at hz
    cases hl':evs T l with
    | nil=>rw[hl']at hz; simp[aMMs]at hz
    | cons x r=>
     rw[hl']at hz hv
     simp only[VRels]at hv
     obtain⟨v,vs,e,hx,hr⟩:=hv
     obtain⟨q,hq,hrun⟩:=mm_ok (P:=P) (w:=w) (g:=false) hx hr hz
     refine OpSim.val R (s:=Builtin.min_ argTypes type (args.map a.eval)) ⟨q,?_,hq⟩
     unfold Builtin.min_
     simp only[Array.toList_map,e]
     exact hrun
   ·simp at hc
  ·simp at hc
 ·rename_i t x
  split at hc
  ·rename_i n e y hu hx
   simp only[sJ]at hc; subst hc
   simp only[aop]at h
   obtain⟨z,hz,rfl,rfl⟩:=vv_spec h
   exact OpSim.val R (s2a_ok (P:=P) (w:=w) hu (opd_ok ht hx) hz)
  ·simp at hc
 ·rename_i t
  simp only[sJ]at hc; subst hc
  simp only[aop]at h
  obtain⟨z,hz,rfl⟩:=vh_spec h
  exact OpSim.good (mkMap_ok (P:=P) R t hz)
 ·rename_i t m k ok
  split at hc
  ·rename_i kt el m' k' hu hm hk
   split at hc
   ·rename_i kc z0 hkc hz0
    simp only[sJ]at hc; subst hc
    simp only[aop]at h
    obtain⟨z,hz,rfl⟩:=vh_spec h
    exact OpSim.good (mLook_ok (P:=P) R hu hkc hz0 (opd_ok ht hm) (opd_ok ht hk) hz)
   ·simp at hc
  ·simp at hc
 ·rename_i t m k
  split at hc
  ·rename_i kt el m' k' hu hm hk
   split at hc
   ·rename_i kc z0 hkc hz0
    simp only[sJ]at hc; subst hc
    simp only[aop]at h
    obtain⟨z,hz,rfl⟩:=vh_spec h
    exact OpSim.good (mEntry_ok (P:=P) R hu hkc hz0 (opd_ok ht hm) (opd_ok ht hk) hz)
   ·simp at hc
  ·simp at hc
 ·rename_i t m n x
  split at hc
  ·rename_i m' n' x' hm hn hx
   simp only[sJ]at hc; subst hc
   simp only[aop]at h
   obtain⟨z,hz,rfl⟩:=vh_spec h
   obtain⟨rfl,w',hr,hR⟩:=mStore_ok (P:=P) R t (opd_ok ht hm) (opd_ok ht hn) (opd_ok ht hx) hz
   exact OpSim.skip hr hR
  ·simp at hc
 ·rename_i t m k x
  split at hc
  ·rename_i kt el m' k' x' hu hm hk hx
   split at hc
   ·rename_i kc hkc
    simp only[sJ]at hc; subst hc
    simp only[aop]at h
    obtain⟨z,hz,rfl⟩:=vh_spec h
    obtain⟨rfl,w',hr,hR⟩:=mUpd_ok (P:=P) R hu hkc (opd_ok ht hm) (opd_ok ht hk) (opd_ok ht hx) hz
    exact OpSim.skip hr hR
   ·simp at hc
  ·simp at hc
 ·simp at hc
theorem op_sim{tb:FuncId→Bool}(htb:∀f,Nat.blt f BIG=true→tb f=true→hasBody P f=true)(R:Rel Prot w0 ρ H w){n:Nat}{T:Tr AVal}{a:Act}(ht:TmpsRel ρ n T a.tmps)(o:Oper){ao:AOp}(hc:cOp P o.op=some ao)
  {nx:Nx} (h:aop tb T H ao=some (nx,H')):OpSim P Prot w0 ρ w (execOp a.eval o) nx H':=by
 unfold cOp at hc
 split at hc
 ·rename_i x hx
  simp only[sJ]at hc; subst hc
  exact op_simX R ht o hx h
 ·split at hc
  ·rename_i x hx
   simp only[sJ]at hc; subst hc
   exact op_sim0 htb R ht o hx h
  ·simp only[sJ]at hc; subst hc
   simp[aop]at h
theorem alloc_claim(R:Rel Prot w0 ρ H w){t:TypeId}{l:List AVal}(h:zeroOf P t=some l){b:Nat}(hd:Prot.dead b)(hx:H.get b=some (.cells l 0 false)) :
  ∃ρ' w' u,ρ.le ρ'∧(Instr.alloc t true (.tuple #[])).run P w=.ok u w'∧Rel ⟨Prot.prot,fun d=>Prot.dead d∧d≠b⟩ w0 ρ' H w'∧VRel ρ' (.ptr (some ⟨b,l.length,0⟩)) u:=by
 obtain⟨z,h1,h2⟩:=zero_of h
 have hnone:=(R.dead b hd).2
 have hv:=h2 ρ
 have hlen:l.length=z.cells.size:=by have:=VRels.len hv; simpa using this
 obtain⟨q1,q2⟩:=R.claim' hd (w':=w.alloc (.cells z.cells t)) rfl rfl rfl (by simp) (fun i hi=>RowKit.Below.heap_alloc _ _ _ hi) hx (o:=.cells z.cells t) (lim:=l.length) (n:=z.cells.size) (cl:=true) (by show (w.heap.push _)[w.heap.size]?=_; simp) (by
  simp only[ORel]
  refine⟨z.cells,t,0,0,rfl,rfl,fun _=>⟨fun i _=>om,Nat.le_refl _,fun _=>Nat.le_refl _⟩,Nat.le_refl _,fun _ i i1 i2=>?_⟩
  have hx:l[i]?=some l[i]:=List.getElem?_eq_getElem i2
  obtain⟨v,u1,u2⟩:=hv.nth _ _ hx
  refine⟨_,v,hx,?_,VRel.mono (upd_le fun L' h'=>by rw[hnone]at h'; simp at h') _ _ u2⟩
  simpa using u1)
 refine⟨_,_,.pointer (some ⟨w.heap.size,0,none⟩),q1,?_,q2,?_⟩
 ·simp only[Instr.alloc,Sem.run_bind,h1,Result.andThen_ok,newVar]; rfl
 ·simp only[VRel]; exact⟨_,upd_same _ _ _ _,Nat.zero_le _,rfl⟩
theorem map_claim(R:Rel Prot w0 ρ H w)(t:TypeId){b:Nat}(hd:Prot.dead b)(hx:H.get b=some (.map [] 0)) :
  ∃ρ' w' u,ρ.le ρ'∧(Instr.makeMap t none).run P w=.ok u w'∧Rel ⟨Prot.prot,fun d=>Prot.dead d∧d≠b⟩ w0 ρ' H w'∧VRel ρ' (.map (some b)) u:=by
 obtain⟨q1,q2⟩:=R.claim' hd (w':=w.alloc (.map #[] 0)) rfl rfl rfl (Array.size_push _) (fun i hi=>by rw[World.alloc,Array.getElem?_push,if_neg (Nat.ne_of_lt hi)])
  hx (o:=.map #[] 0) (lim:=0) (n:=0) (cl:=false) (by rw[World.alloc,Array.getElem?_push,if_pos rfl]) (by simp only[ORel]; exact⟨trivial,#[],rfl,by simp[EntriesRel]⟩)
 refine⟨_,_,_,q1,RowKit.run_makeMap t w,q2,?_⟩
 simp only[VRel]
 exact⟨_,upd_same _ _ _ _,rfl⟩
theorem row_claim(R:Rel Prot w0 ρ H w){l:List AVal}{C:Array Value}(t:TypeId)(hv:VRels ρ l C.toList){b:Nat}(hd:Prot.dead b)(hx:H.get b=some (.cells l 0 false)) :
  ∃ρ',ρ.le ρ'∧Rel ⟨Prot.prot,fun d=>Prot.dead d∧d≠b⟩ w0 ρ' H (w.alloc (.cells C t))∧ρ' b l.length=some ⟨w.heap.size,0,C.size,true⟩:=by
 have hnone:=(R.dead b hd).2
 have hlen:l.length=C.size:=by have:=VRels.len hv; simpa using this
 obtain⟨q1,q2⟩:=R.claim' hd (w':=w.alloc (.cells C t)) rfl rfl rfl (by simp) (fun i hi=>RowKit.Below.heap_alloc _ _ _ hi) hx (o:=.cells C t) (lim:=l.length) (n:=C.size) (cl:=true) (by show (w.heap.push _)[w.heap.size]?=_; simp) (by
  simp only[ORel]
  refine⟨C,t,0,0,rfl,rfl,fun _=>⟨fun i _=>om,Nat.le_refl _,fun _=>Nat.le_refl _⟩,Nat.le_refl _,fun _ i i1 i2=>?_⟩
  have hx:l[i]?=some l[i]:=List.getElem?_eq_getElem i2
  obtain⟨v,u1,u2⟩:=hv.nth _ _ hx
  refine⟨_,v,hx,?_,VRel.mono (upd_le fun L' h'=>by rw[hnone]at h'; simp at h') _ _ u2⟩
  simpa using u1)
 exact⟨_,q1,q2,upd_same _ _ _ _⟩
theorem make_claim(R:Rel Prot w0 ρ H w){sT elem:TypeId}{size bytes:Nat}{z:List AVal}(hu:P.underlying sT=some (.slice elem))(E:Elem P elem size bytes)(hz:zeroOf P elem=some z)
  {l c:AVal} {lv cv:Value} (hl:VRel ρ l lv) (hc:VRel ρ c cv) {ln cn:Nat} (hln:natOf l=some ln) (hcn:natOf c=some cn) (hg:ln≤cn∧bytes*cn≤281474976710656) {b:Nat} (hd:Prot.dead b) (hx:H.get b=some (.cells (rep z cn) 0 false)) :
  ∃ρ' w' u,ρ.le ρ'∧(Instr.makeSlice sT lv cv).run P w=.ok u w'∧Rel ⟨Prot.prot,fun d=>Prot.dead d∧d≠b⟩ w0 ρ' H w'∧VRel ρ' (.slice (some ⟨b,(rep z cn).length,0⟩) ln (.known cn)) u:=by
 obtain⟨rfl,b1⟩:=natOf_ok hln
 obtain⟨rfl,b2⟩:=natOf_ok hcn
 simp only[VRel]at hl hc
 subst hl hc
 obtain⟨i,zv,hi,rfl,rfl,hzero,hzs⟩:=E.ex
 obtain⟨zv',hzr,hzl⟩:=zero_of hz
 have hzv:zv'=zv:=by
  have:=hzr w
  simp[zeroValue,run_typeInfo w hi,hzero]at this
  exact this.symm
 subst hzv
 have hlen:=VRels.len (hzl ρ)
 simp only[Array.length_toList,hzs]at hlen
 obtain⟨ρ',q1,q3,q4⟩:=row_claim R elem (made_rel (hzl ρ) cn) hd hx
 have q2:(newRow elem (madeOf zv'.cells (cn*z.length))).run P w=.ok ⟨w.heap.size,0,none⟩ (w.alloc (.cells (madeOf zv'.cells (cn*z.length)) elem)):=rfl
 have hnb:¬((281474976710656:Int)<(i.bytes:Int)*(cn:Int)):=by
  have:(i.bytes*cn:Nat)≤281474976710656:=hg.2
  rw[← Int.natCast_mul]; omega
 have hcells:madeOf zv'.cells (cn*i.size)=madeOf zv'.cells (cn*z.length):=by rw[hlen]
 refine⟨ρ',_,.slice (some ⟨w.heap.size,0,none⟩) ln cn,q1,?_,q3,?_⟩
 ·have hsz:∀W,(sizeOf elem).run P W=.ok i.size W:=fun W=>by simp[sizeOf,run_typeInfo W hi]
  have e1:¬((cn:Int)<0):=om
  have e2:¬((ln:Int)<0):=om
  have e3:¬((cn:Int)<(ln:Int)):=om
  by_cases hn:cn*i.size=0
  ·have hm:madeOf zv'.cells (cn*z.length)=#[]:=by rw[← hcells,hn]; simp[madeOf]
   rw[hm]at q2 ⊢
   simp only[Instr.makeSlice,Sem.run_bind,run_underlying hu,Result.andThen_ok,asInt,asIntOf,Sem.run_pure,run_typeInfo _ hi,wrap_nat b1,wrap_nat b2]
   simp[e1,e2,e3,hnb,hsz,hn,show Array.range 0=#[] by simp,q2]
  ·simp only[Instr.makeSlice,Sem.run_bind,run_underlying hu,Result.andThen_ok,asInt,asIntOf,Sem.run_pure,run_typeInfo _ hi,wrap_nat b1,wrap_nat b2]
   rw[← hcells]at q2 ⊢
   unfold madeOf at q2 ⊢
   simp[e1,e2,e3,hnb,hsz,hn,hzr,q2]
 ·simp only[VRel]
  exact⟨_,q4,Nat.zero_le _,hg.1,rfl⟩
end
end Go.Abs
namespace Go.Abs
structure AOper where
 dst:Option Nat
 op:AOp
 guard:Option (Nat×Bool)
def gVb(b:Bool):AVal→Bool
 | .bool c=>bif b then c else !c
 | _=>false
def gOK(T:Tr AVal):Option (Nat×Bool)→Bool
 | none=>true
 | some (t,b)=>gVb b (ev T (.t t))
def aput(T:Tr AVal):Option Nat→AVal→Tr AVal
 | some d,v=>T.set d v
 | none,_=>T
def isLoad:AOp→Bool
 | .load .. | .claim ..=>true
 | _=>false
def isPure:AOp→Bool
 | .mv _ | .pick .. | .build .. | .nilChk _ | .bin .. | .un .. | .conv .. | .mkFunc .. | .mkIface .. | .sl .. | .slStr .. | .fieldA .. | .field .. | .idxA .. | .idxArr .. | .idx .. | .idxS .. | .extract .. | .len .. | .pf .. | .slA ..=>true
 | _=>false
def isChain(o:AOp):Bool:=!(isPure o)&&!(isLoad o)
def rdO:Opd→List Nat
 | .t i=>[i]
 | _=>[]
def rdOs:List Opd→List Nat
 | []=>[]
 | x::r=>rdO x++rdOs r
def rdOO:Option Opd→List Nat
 | none=>[]
 | some x=>rdO x
def rdP:List (Nat×Nat×Opd)→List Nat
 | []=>[]
 | (_,_,x)::r=>rdO x++rdP r
def reads:AOp→List Nat
 | .mv x | .box x | .load _ _ x | .nilChk x | .un _ x | .conv _ x | .convSB x | .convBS x | .mkIface _ x | .fieldA _ x | .field _ _ _ x | .extract _ x | .len _ x=>rdO x
 | .pick c a b=>rdO c++(rdO a++rdO b)
 | .new _=>[]
 | .build _ ps=>rdP ps
 | .buildSl _ _ ps=>rdP ps
 | .store _ a x | .bin _ a x | .mkSlice _ _ a x | .idxA _ a x | .idxArr _ _ a x | .idx _ _ _ a x | .idxS a x | .append _ _ a x=>rdO a++rdO x
 | .mkFunc _ a b=>rdOs a++rdOs b
 | .sl _ x a b c | .slA _ _ x a b c=>rdO x++(rdOO a++(rdOO b++rdOO c))
 | .slStr x a b=>rdO x++(rdOO a++rdOO b)
 | .call _ l=>rdOs l
 | .callv f l=>rdO f++rdOs l
 | .pf _ l | .hf _ l=>rdOs l
 | .bad | .claim _ _ _=>[]
def readsO(o:AOper):List Nat:=reads o.op++(match o.guard with | none=>[] | some (t,_)=>[t])
section
variable {tb:FuncId→Bool} {T T':Tr AVal} {H H' H2:AHeap}
theorem ev_congr{x:Opd}(h:∀t∈rdO x,T.get t=T'.get t):ev T x=ev T' x:=by
 cases x with
 | t i=>simp only[ev]; rw[h i (by simp[rdO])]
 | _=>rfl
theorem evs_congr{l:List Opd}(h:∀t∈rdOs l,T.get t=T'.get t):evs T l=evs T' l:=by
 induction l with
 | nil=>rfl
 | cons x r ih=>simp only[rdOs,List.mem_append]at h; simp only[evs]; rw[ev_congr fun t ht=>h t (.inl ht),ih fun t ht=>h t (.inr ht)]
theorem evO_congr{x:Option Opd}(h:∀t∈rdOO x,T.get t=T'.get t):evO T x=evO T' x:=by
 cases x with
 | none=>rfl
 | some x=>simp only[evO]; rw[ev_congr h]
theorem evP_congr{l:List (Nat×Nat×Opd)}(h:∀t∈rdP l,T.get t=T'.get t):evP T l=evP T' l:=by
 induction l with
 | nil=>rfl
 | cons x r ih=>obtain⟨a,b,x⟩:=x; simp only[rdP,List.mem_append]at h; simp only[evP]; rw[ev_congr fun t ht=>h t (.inl ht),ih fun t ht=>h t (.inr ht)]
theorem aop_congr{o:AOp}(h:∀t∈reads o,T.get t=T'.get t):aop tb T H o=aop tb T' H o:=by
 cases o <;> simp only[reads,List.mem_append]at h <;> simp only[aop]
 case mv x=>rw[ev_congr h]
 case pick c a b=>rw[ev_congr fun t ht=>h t (.inl ht),ev_congr (x:=a) fun t ht=>h t (.inr (.inl ht)),ev_congr (x:=b) fun t ht=>h t (.inr (.inr ht))]
 case box x=>rw[ev_congr h]
 case build z ps=>rw[evP_congr h]
 case buildSl n z ps=>rw[evP_congr h]
 case load a n x=>rw[ev_congr h]
 case store n a x=>rw[ev_congr fun t ht=>h t (.inl ht),ev_congr (x:=x) fun t ht=>h t (.inr ht)]
 case nilChk x=>rw[ev_congr h]
 case bin op a x=>rw[ev_congr fun t ht=>h t (.inl ht),ev_congr (x:=x) fun t ht=>h t (.inr ht)]
 case un op x=>rw[ev_congr h]
 case conv k x=>rw[ev_congr h]
 case convSB x=>rw[ev_congr h]
 case convBS x=>rw[ev_congr h]
 case mkFunc f a b=>rw[evs_congr fun t ht=>h t (.inl ht),evs_congr (l:=b) fun t ht=>h t (.inr ht)]
 case mkIface t x=>rw[ev_congr h]
 case mkSlice b z a x=>rw[ev_congr fun t ht=>h t (.inl ht),ev_congr (x:=x) fun t ht=>h t (.inr ht)]
 case sl n x a b c=>rw[ev_congr fun t ht=>h t (.inl ht),evO_congr (x:=a) fun t ht=>h t (.inr (.inl ht)),evO_congr (x:=b) fun t ht=>h t (.inr (.inr (.inl ht))),evO_congr (x:=c) fun t ht=>h t (.inr (.inr (.inr ht)))]
 case slStr x a b=>rw[ev_congr fun t ht=>h t (.inl ht),evO_congr (x:=a) fun t ht=>h t (.inr (.inl ht)),evO_congr (x:=b) fun t ht=>h t (.inr (.inr ht))]
 case fieldA o x=>rw[ev_congr h]
 case field a n o x=>rw[ev_congr h]
 case idxA n a x=>rw[ev_congr fun t ht=>h t (.inl ht),ev_congr (x:=x) fun t ht=>h t (.inr ht)]
 case idxArr m n a x=>rw[ev_congr fun t ht=>h t (.inl ht),ev_congr (x:=x) fun t ht=>h t (.inr ht)]
 case idx m n g a x=>rw[ev_congr fun t ht=>h t (.inl ht),ev_congr (x:=x) fun t ht=>h t (.inr ht)]
 case idxS a x=>rw[ev_congr fun t ht=>h t (.inl ht),ev_congr (x:=x) fun t ht=>h t (.inr ht)]
 case extract i x=>rw[ev_congr h]
 case append n b a x=>rw[ev_congr fun t ht=>h t (.inl ht),ev_congr (x:=x) fun t ht=>h t (.inr ht)]
 case len s x=>rw[ev_congr h]
 case call f l=>rw[evs_congr h]
 case callv f l=>rw[ev_congr fun t ht=>h t (.inl ht),evs_congr (l:=l) fun t ht=>h t (.inr ht)]
 case pf f l=>rw[evs_congr h]
 case slA m n x a b c=>rw[ev_congr fun t ht=>h t (.inl ht),evO_congr (x:=a) fun t ht=>h t (.inr (.inl ht)),evO_congr (x:=b) fun t ht=>h t (.inr (.inr (.inl ht))),evO_congr (x:=c) fun t ht=>h t (.inr (.inr (.inr ht)))]
 case hf f l=>rw[evs_congr h]
theorem vv_other{x:Option AVal}{nx:Nx}(h:vv H x=some (nx,H')):H'=H∧(∃v,nx=.val v)∧∀H2,vv H2 x=some (nx,H2):=by
 cases x with
 | none=>simp[vv]at h
 | some v=>simp only[vv,sJ,pJ]at h; obtain⟨rfl,rfl⟩:=h; exact⟨rfl,⟨v,rfl⟩,fun _=>rfl⟩
theorem pure_other{o:AOp}(hp:isPure o=true){nx:Nx}(h:aop tb T H o=some (nx,H')):H'=H∧(∃v,nx=.val v)∧∀H2,aop tb T H2 o=some (nx,H2):=by
 cases o <;> simp only[isPure,Bool.false_eq_true]at hp <;> simp only[aop]at h ⊢
 case mv x=>simp only[sJ,pJ]at h; obtain⟨rfl,rfl⟩:=h; exact⟨rfl,⟨_,rfl⟩,fun _=>rfl⟩
 case pick c a b=>
  split at h
  ·simp only[sJ,pJ]at h; obtain⟨rfl,rfl⟩:=h; exact⟨rfl,⟨_,rfl⟩,fun _=>rfl⟩
  ·simp at h
 case mkFunc f a b=>simp only[sJ,pJ]at h; obtain⟨rfl,rfl⟩:=h; exact⟨rfl,⟨_,rfl⟩,fun _=>rfl⟩
 case mkIface t x=>simp only[sJ,pJ]at h; obtain⟨rfl,rfl⟩:=h; exact⟨rfl,⟨_,rfl⟩,fun _=>rfl⟩
 all_goals exact vv_other h
theorem load_other{o:AOp}(hp:isLoad o=true){nx:Nx}(h:aop tb T H o=some (nx,H')):H'=H∧∃v,nx=.val v:=by
 cases o <;> simp only[isLoad,Bool.false_eq_true]at hp
 case load=>simp only[aop]at h; have:=vv_other h; exact⟨this.1,this.2.1⟩
 case claim=>simp only[aop]at h; have:=vv_other h; exact⟨this.1,this.2.1⟩
end
end Go.Abs
namespace Go.Abs
section
variable (tb:FuncId→Bool) (call:FuncId→List AVal→AHeap→Option (AVal×AHeap))
def astep(o:AOper)(T:Tr AVal)(H:AHeap):Option (AVal×AHeap):=
 bif gOK T o.guard then
  match aop tb T H o.op with
  | some (.val v,H')=>some (v,H')
  | some (.enter f args,H')=>call f args H'
  | none=>none
 else some (undefA,H)
def atrace:List AOper→Tr AVal→AHeap→Option (List (AVal×AHeap))
 | [],_,_=>some []
 | o::r,T,H=>match astep tb call o T H with
  | some (v,H')=>match atrace r (aput T o.dst v) H' with
   | some s=>some ((v,H')::s)
   | none=>none
  | none=>none
def chkRun(hs:List AHeap):List AOper→List (List Nat)→List (AVal×AHeap)→Tr AVal→Bool
 | o::os,ps::pss,(v,_)::ss,T=>
  (ps.all fun p=>match hs[p]? with
   | some Hp=>bif gOK T o.guard then (match aop tb T Hp o.op with | some (.val u,_)=>aeq u v | _=>false) else true
   | none=>false)&&chkRun hs os pss ss (aput T o.dst v)
 | _,_,_,_=>true
end
def tsel(m:Nat→Bool):Nat→List AOper→List (AVal×AHeap)→Tr AVal→Tr AVal
 | i,o::os,(v,_)::ss,T=>tsel m (i+1) os ss (bif m i then aput T o.dst v else T)
 | _,_,_,T=>T
def hAt(H:AHeap)(ss:List (AVal×AHeap)):Nat→AHeap
 | 0=>H
 | j+1=>match ss[j]? with
  | some (_,H')=>H'
  | none=>H
def stage(m:Nat→Bool):Nat→List AOper→Nat
 | i,[]=>i
 | i,o::r=>bif isChain o.op&&!m i then i else stage m (i+1) r
theorem get_aput(T:Tr AVal)(d:Option Nat)(v:AVal)(t:Nat):(aput T d v).get t=if d=some t then some v else T.get t:=by
 cases d with
 | none=>simp[aput]
 | some d=>
  simp only[aput,Tr.get_set]
  by_cases e:t=d
  ·subst e; simp
  ·rw[if_neg e,if_neg (by intro q; simp at q; exact e q.symm)]
theorem tsel_get{m m':Nat→Bool}{t:Nat}:∀(l:List AOper) (ss:List (AVal×AHeap)) (k:Nat) (T T':Tr AVal),T.get t=T'.get t →
  (∀i o,l[i]?=some o→o.dst=some t→m (k+i)=m' (k+i))→(tsel m k l ss T).get t=(tsel m' k l ss T').get t:=by
 intro l
 induction l with
 | nil=>intro ss k T T' h _; cases ss <;> exact h
 | cons o r ih=>
  intro ss k T T' h hm
  cases ss with
  | nil=>exact h
  | cons s ss=>
   obtain⟨v,H'⟩:=s
   simp only[tsel]
   refine ih ss (k+1) _ _ ?_ fun i o' h1 h2=>by have:=hm (i+1) o' (by simpa using h1) h2; rw[show k+1+i=k+(i+1) by omega]; exact this
   by_cases hd:o.dst=some t
   ·have:=hm 0 o rfl hd
    simp only[Nat.add_zero]at this
    rw[this]
    cases m' k
    ·exact h
    ·simp only[cond_true,get_aput,hd,if_true]
   ·have e1:∀(b:Bool) (T:Tr AVal),(bif b then aput T o.dst v else T).get t=T.get t:=fun b T=>by
     cases b
     ·rfl
     ·simp only[cond_true,get_aput,if_neg hd]
    rw[e1,e1,h]
theorem tsel_last{m:Nat→Bool}{t:Nat}:∀(l:List AOper) (ss:List (AVal×AHeap)) (k j:Nat) (T:Tr AVal) (o:AOper) (v:AVal) (H':AHeap),l[j]?=some o→ss[j]?=some (v,H')→o.dst=some t→m (k+j)=true →
  (∀i o',j<i→l[i]?=some o'→o'.dst=some t→m (k+i)=false)→(tsel m k l ss T).get t=some v:=by
 intro l
 induction l with
 | nil=>intro ss k j T o v H' h; simp at h
 | cons o r ih=>
  intro ss k j T o' v H' h1 h2 h3 h4 h5
  cases ss with
  | nil=>simp at h2
  | cons s ss=>
   obtain⟨u,H1⟩:=s
   simp only[tsel]
   cases j with
   | zero=>
    simp only[List.getElem?_cons_zero,sJ,pJ]at h1 h2
    obtain⟨rfl,rfl⟩:=h2
    subst h1
    simp only[Nat.add_zero]at h4
    rw[h4]
    have:=tsel_get (m:=m) (m':=fun _=>false) (t:=t) r ss (k+1) (bif true then aput T o.dst u else T) (aput T o.dst u) rfl fun i o' q1 q2=>by
     have:=h5 (i+1) o' om (by simpa using q1) q2
     rw[show k+1+i=k+(i+1) by omega]; exact this
    rw[this]
    have hn:∀(l:List AOper) (ss:List (AVal×AHeap)) (k:Nat) (T:Tr AVal),tsel (fun _=>false) k l ss T=T:=by
     intro l
     induction l with
     | nil=>intro ss k T; cases ss <;> rfl
     | cons o r ih=>intro ss k T; cases ss with
      | nil=>rfl
      | cons s ss=>obtain⟨a,b⟩:=s; simp only[tsel,cond_false,ih]
    rw[hn,get_aput,if_pos h3]
   | succ j=>
    refine ih ss (k+1) j _ o' v H' (by simpa using h1) (by simpa using h2) h3 (by rw[show k+1+j=k+(j+1) by omega]; exact h4) fun i o2 q0 q1 q2=>?_
    rw[show k+1+i=k+(i+1) by omega]
    exact h5 (i+1) o2 om (by simpa using q1) q2
section
variable {tb:FuncId→Bool} {call:FuncId→List AVal→AHeap→Option (AVal×AHeap)}
theorem trace_at:∀(l:List AOper) (T:Tr AVal) (H:AHeap) (ss:List (AVal×AHeap)) (k:Nat),atrace tb call l T H=some ss →
  ss.length=l.length∧∀j o,l[j]?=some o→∃v H',ss[j]?=some (v,H')∧astep tb call o (tsel (fun i=>Nat.blt i (k+j)) k l ss T) (hAt H ss j)=some (v,H'):=by
 intro l
 induction l with
 | nil=>intro T H ss k h; simp only[atrace,sJ]at h; subst h; exact⟨rfl,fun j o h=>by simp at h⟩
 | cons o r ih=>
  intro T H ss k h
  simp only[atrace]at h
  split at h
  ·rename_i v H' hs
   split at h
   ·rename_i s hr
    simp only[sJ]at h
    subst h
    obtain⟨h1,h2⟩:=ih _ _ _ (k+1) hr
    refine⟨by simp[h1],fun j o' hj=>?_⟩
    cases j with
    | zero=>
     simp only[List.getElem?_cons_zero,sJ]at hj
     subst hj
     refine⟨v,H',rfl,?_⟩
     have e:tsel (fun i=>Nat.blt i (k+0)) k (o::r) ((v,H')::s) T=T:=by
      have hn:∀(l:List AOper) (ss:List (AVal×AHeap)) (k':Nat) (T:Tr AVal),k≤k'→tsel (fun i=>Nat.blt i (k+0)) k' l ss T=T:=by
       intro l
       induction l with
       | nil=>intro ss k' T _; cases ss <;> rfl
       | cons o r ih=>intro ss k' T hk; cases ss with
        | nil=>rfl
        | cons s ss=>
         obtain⟨a,b⟩:=s
         have:Nat.blt k' (k+0)=false:=by
          cases hb:Nat.blt k' (k+0) with
          | false=>rfl
          | true=>have:=Nat.le_of_ble_eq_true hb; omega
         simp only[tsel,this,cond_false]
         exact ih ss (k'+1) T om
      exact hn _ _ k T rL
     rw[e]
     exact hs
    | succ j=>
     simp only[List.getElem?_cons_succ]at hj
     obtain⟨u,H2,q1,q2⟩:=h2 j o' hj
     refine⟨u,H2,by simpa using q1,?_⟩
     have hb:Nat.blt k (k+(j+1))=true:=by
      show Nat.ble (k+1) (k+(j+1))=true
      exact Nat.ble_eq_true_of_le om
     simp only[tsel,hb,cond_true]
     rw[show k+(j+1)=k+1+j by omega]
     have hh:hAt H ((v,H')::s) (j+1)=hAt H' s j:=by
      cases j with
      | zero=>rfl
      | succ j=>
       simp only[hAt,List.getElem?_cons_succ]
       have:j<s.length:=by
        have:=(List.getElem?_eq_some_iff.1 hj).1
        omega
       rw[List.getElem?_eq_getElem this]
     rw[hh]
     exact q2
   ·simp at h
  ·simp at h
end
end Go.Abs
namespace Go.Abs
def bindE(o:Oper):List Nat:=(o.after.toList.filter (Region.binds .any)).map (·.on)
def maskOf(ms:List Nat):List Nat→Nat
 | []=>0
 | e::r=>(1 <<< e) ||| (ms.getD e 0) ||| maskOf ms r
def masksGo(acc:List Nat):List (List Nat)→List Nat
 | []=>acc
 | es::r=>masksGo (acc++[maskOf acc es]) r
def bit(ms:List Nat)(j i:Nat):Bool:=Nat.blt i j&&(ms.getD j 0).testBit i
theorem bit_lt{ms:List Nat}{j i:Nat}(h:bit ms j i=true):i<j:=by
 unfold bit at h
 rw[Bool.and_eq_true]at h
 exact Nat.le_of_ble_eq_true h.1
def okMask(es:List (List Nat))(ms:List Nat):Bool:=
 (List.range es.length).all fun j=>(es.getD j []).all (fun e=>Nat.blt e j)&&(List.range j).all fun i=>!bit ms j i||(es.getD j []).any fun e=>Nat.beq e i||(Nat.blt i e&&bit ms e i)
def disj(a b:AOper):Bool:=
 (match a.dst with | none=>true | some d=>!(readsO b).contains d&&!(b.dst==some d))&&(match b.dst with | none=>true | some d=>!(readsO a).contains d)
def okPair(ms:List Nat)(i j:Nat)(a b:AOper):Bool:=bit ms j i||(!(isChain a.op&&isChain b.op)&&disj a b)
def okPairs(l:List AOper)(ms:List Nat):Bool:=
 (List.range l.length).all fun j=>match l[j]? with
  | some b=>(List.range j).all fun i=>match l[i]? with
   | some a=>okPair ms i j a b
   | none=>true
  | none=>true
def isStage(l:List AOper)(p:Nat):Bool:=match l[p]? with | some o=>isChain o.op | none=>Nat.beq p l.length
def mayAt(l:List AOper)(ms:List Nat)(j p:Nat):Bool:=
 isStage l p&&(List.range l.length).all fun c=>match l[c]? with
  | some o=>!isChain o.op||(bif Nat.blt c p then !bit ms c j else !bit ms j c)
  | none=>true
def sameH(l:List AOper)(j p:Nat):Bool:=Nat.ble j p&&(List.range p).all fun c=>Nat.blt c j||(match l[c]? with | some o=>!isChain o.op | none=>true)
def chkOf(l:List AOper)(ms:List Nat)(j:Nat):List Nat:=
 match l[j]? with
 | some o=>bif isLoad o.op then (List.range (l.length+1)).filter (fun p=>!sameH l j p&&mayAt l ms j p) else []
 | none=>[]
theorem mask_listed{es:List (List Nat)}{ms:List Nat}(h:okMask es ms=true){m:Nat→Bool}(hm:∀j,j<es.length→m j=true→∀e∈es.getD j [],m e=true) :
  ∀j,j<es.length→(∀e∈es.getD j [],m e=true)→∀i,i<j→bit ms j i=true→m i=true:=by
 intro j
 induction j using Nat.strongRecOn with
 | _ j ih=>
  intro hj hr i hi hb
  unfold okMask at h
  rw[List.all_eq_true]at h
  have h1:=h j (List.mem_range.2 hj)
  simp only[Bool.and_eq_true,List.all_eq_true,List.mem_range,Bool.or_eq_true,Bool.not_eq_true',List.any_eq_true]at h1
  obtain⟨h2,h3⟩:=h1
  rcases h3 i hi with h4 | ⟨e,he,h5⟩
  ·rw[hb]at h4; simp at h4
  ·have hej:e<j:=Nat.le_of_ble_eq_true (h2 e he)
   rcases h5 with h5 | ⟨h5,h6⟩
   ·rw[← nb h5]; exact hr e he
   ·exact ih e hej om (hm e om (hr e he)) i (Nat.le_of_ble_eq_true h5) h6
section
variable (P:Program)
def okDst(n:Nat):Option Nat→Bool
 | none=>true
 | some d=>Nat.blt d n
def cGuard(n:Nat)(ops:Array Oper):Option (Nat×Bool)→Option (Option (Nat×Bool))
 | none=>some none
 | some (j,b)=>match (ops[j]?).bind (·.dst) with
  | some d=>bif Nat.blt d n then some (some (d,b)) else none
  | none=>none
def cOper(n:Nat)(ops:Array Oper)(o:Oper):Option AOper:=
 match cOp P o.op,cGuard n ops o.guard with
 | some a,some g=>bif okDst n o.dst then some ⟨o.dst,a,g⟩ else none
 | _,_=>none
def cOpers(n:Nat)(ops:Array Oper):List Oper→Option (List AOper)
 | []=>some []
 | o::r=>match cOper P n ops o,cOpers n ops r with
  | some a,some l=>some (a::l)
  | _,_=>none
end
section
variable {P:Program} {Prot:Gh} {w0:World} {ρ:Pl} {H H':AHeap} {w:World}
theorem put_rel{n:Nat}{T:Tr AVal}{a:Act}(h:TmpsRel ρ n T a.tmps){dst:Option Nat}(hd:okDst n dst=true){x:AVal}{v:Value}(hx:VRel ρ x v):TmpsRel ρ n (aput T dst x) (a.put dst v).tmps:=by
 cases dst with
 | none=>exact h
 | some d=>
  have hd:d<n:=Nat.le_of_ble_eq_true hd
  refine⟨by simp[Act.put,h.size],fun t=>?_⟩
  simp only[aput,ev,Tr.get_set,Act.put]
  by_cases e:t=d
  ·subst e
   rw[if_pos rfl]
   have:t<a.tmps.size:=by rw[h.size]; exact hd
   simpa[this] using hx
  ·rw[if_neg e]
   have:=h.at_ t
   simp only[ev]at this
   rw[Array.getD_eq_getD_getElem?,Array.getElem?_setIfInBounds_ne (fun q=>e q.symm),← Array.getD_eq_getD_getElem?]
   exact this
theorem undef_rel:VRel ρ undefA undef:=by simp only[undefA,VRel,undef]; exact⟨#[],rfl,by simp[VRels]⟩
theorem bool_of{x:AVal}{b:Bool}(h:VRel ρ x (.bool b)):x=.bool b:=by
 cases x with
 | bool c=>simp only[VRel,Value.bool.injEq]at h; rw[h]
 | ptr a=>cases a <;> simp[VRel]at h
 | slice a n r=>cases a with
  | none=>simp[VRel]at h
  | some a=>
   simp only[VRel]at h
   obtain⟨L,_,_,h⟩:=h
   cases r <;> simp[SliceRel]at h
 | map a=>cases a <;> simp[VRel]at h
 | val x=>simp only[VRel]at h; obtain⟨rfl,h⟩:=h; simp[opq]at h
 | _=>simp[VRel]at h
theorem guard_ok{n:Nat}{T:Tr AVal}{a:Act}(h:TmpsRel ρ n T a.tmps){ops:Array Oper}{o:Oper}{g:Option (Nat×Bool)}(hg:cGuard n ops o.guard=some g):Region.wanted o (yielded ops a.tmps)=gOK T g:=by
 unfold Region.wanted
 cases ho:o.guard with
 | none=>rw[ho]at hg; simp only[cGuard,sJ]at hg; subst hg; rfl
 | some jb=>
  obtain⟨j,b⟩:=jb
  rw[ho]at hg
  simp only[cGuard]at hg
  split at hg
  ·rename_i d hd
   cases hb:Nat.blt d n with
   | false=>rw[hb]at hg; simp at hg
   | true=>
    rw[hb]at hg
    simp only[cond_true,sJ]at hg
    subst hg
    have hlt:d<a.tmps.size:=by rw[h.size]; exact Nat.le_of_ble_eq_true hb
    have hat:=h.at_ d
    simp only[yielded,hd,Option.bind_some,gOK]
    rw[Array.getElem?_eq_getElem hlt]
    have e:a.tmps.getD d undef=a.tmps[d]:=by simp[hlt]
    rw[e]at hat
    cases hv:a.tmps[d] with
    | bool c=>
     rw[hv]at hat
     rw[bool_of hat]
     cases b <;> cases c <;> rfl
    | _=>
     rw[hv]at hat
     cases hT:ev T (.t d) with
     | bool c=>rw[hT]at hat; simp[VRel]at hat
     | _=>rfl
  ·simp at hg
def CallOK(P:Program)(call:FuncId→List AVal→AHeap→Option (AVal×AHeap)):Prop:=
 ∀f args H v H',Nat.blt f BIG=true→call f args H=some (v,H')→∀Prot w0 ρ w (vs:Array Value),Rel Prot w0 ρ H w→VRels ρ args vs.toList →
  Calls P f vs w fun e w'=>∃ρ' u,ρ.le ρ'∧e=.returned u∧Rel Prot w0 ρ' H' w'∧VRel ρ' v u
end
theorem opers_at{P:Program}{n:Nat}{ops:Array Oper}:∀{rest:List Oper} {l:List AOper},cOpers P n ops rest=some l→l.length=rest.length∧∀(j:Nat) (o:Oper),rest[j]?=some o→∃a,l[j]?=some a∧cOper P n ops o=some a:=by
 intro rest
 induction rest with
 | nil=>intro l h; simp only[cOpers,sJ]at h; subst h; exact⟨rfl,fun j o h=>by simp at h⟩
 | cons o r ih=>
  intro l h
  simp only[cOpers]at h
  split at h
  ·rename_i a l' h1 h2
   simp only[sJ]at h
   subst h
   obtain⟨q1,q2⟩:=ih h2
   refine⟨by simp[q1],fun j o' hj=>?_⟩
   cases j with
   | zero=>simp only[List.getElem?_cons_zero,sJ]at hj; subst hj; exact⟨a,rfl,h1⟩
   | succ j=>simpa using q2 j o' (by simpa using hj)
  ·simp at h
theorem stage_spec(m:Nat→Bool):∀(l:List AOper) (k:Nat),k≤stage m k l∧stage m k l≤k+l.length∧(∀c o,l[c]?=some o→isChain o.op=true→k+c<stage m k l→m (k+c)=true) ∧
  (∀o,stage m k l<k+l.length→l[stage m k l-k]?=some o→isChain o.op=true∧m (stage m k l)=false):=by
 intro l
 induction l with
 | nil=>intro k; exact⟨Nat.le_refl _,Nat.le_refl _,fun c o h=>by simp at h,fun o h=>by simp[stage]at h⟩
 | cons o r ih=>
  intro k
  simp only[stage]
  cases hb:(isChain o.op&&!m k) with
  | true=>
   simp only[cond_true,Bool.and_eq_true,Bool.not_eq_true']at hb ⊢
   refine⟨Nat.le_refl _,by simp,fun c o' _ _ h=>om,fun o' _ h=>?_⟩
   simp only[Nat.sub_self,List.getElem?_cons_zero,sJ]at h
   subst h
   exact hb
  | false=>
   simp only[cond_false]
   obtain⟨h1,h2,h3,h4⟩:=ih (k+1)
   refine⟨om,by simp only[List.length_cons]; omega,fun c o' hc hch hlt=>?_,fun o' hlt ho=>?_⟩
   ·cases c with
    | zero=>
     simp only[List.getElem?_cons_zero,sJ]at hc
     subst hc
     rw[hch]at hb
     simpa using hb
    | succ c=>
     rw[show k+(c+1)=k+1+c by omega]
     exact h3 c o' (by simpa using hc) hch om
   ·simp only[List.length_cons]at hlt
    refine h4 o' om ?_
    rw[show stage m (k+1) r-k=(stage m (k+1) r-(k+1))+1 by omega]at ho
    simpa using ho
end Go.Abs
namespace Go.Abs
def newOf:AOp→Option (List AVal×Option (Nat×Nat))
 | .new z=>some (z,none)
 | .mkSlice by_ z (.c l) (.c c)=>match natOf l,natOf c with
  | some l,some c=>bif Nat.ble l c&&Nat.ble (by_*c) 281474976710656 then some (rep z c,some (l,c)) else none
  | _,_=>none
 | .hf (.fill _ _) _=>some ([],none)
 | .hf .mkMap []=>some ([],some (1,0))
 | _=>none
def clOp(b:Nat)(z:List AVal)(s:Option (Nat×Nat)):AOp→AOp
 | .hf (.fill _ k) xs=>.hf (.fill b k) xs
 | _=>.claim b z s
def isFill:AOp→Bool
 | .hf (.fill _ _) _=>true
 | _=>false
theorem clOp_no{b:Nat}{z:List AVal}{s:Option (Nat×Nat)}{o:AOp}(h:isFill o=false):clOp b z s o=.claim b z s:=by
 unfold clOp
 split
 ·simp[isFill]at h
 ·rfl
def claims:Nat→List AOper→List AOper
 | _,[]=>[]
 | b,o::r=>match newOf o.op with
  | some (z,s)=>⟨o.dst,clOp b z s o.op,o.guard⟩::claims (b+1) r
  | none=>o::claims b r
def reserves:AHeap→List AOper→AHeap
 | H,[]=>H
 | H,o::r=>match newOf o.op with
  | some (z,s)=>reserves (H.push (resO z s)) r
  | none=>reserves H r
structure SameK(a b:AOper):Prop where
 dst:a.dst=b.dst
 chain:isChain a.op=isChain b.op
 load:isLoad a.op=isLoad b.op
 reads:readsO a=readsO b
theorem SameK.refl(a:AOper):SameK a a:=⟨rfl,rfl,rfl,rfl⟩
structure Like(l m:List AOper):Prop where
 len:l.length=m.length
 at_:∀(i:Nat) (a:AOper),l[i]?=some a→∃b,m[i]?=some b∧SameK a b
theorem Like.cons{a b:AOper}{l m:List AOper}(h:SameK a b)(k:Like l m):Like (a::l) (b::m):=by
 refine⟨by simp[k.len],fun i x hx=>?_⟩
 cases i with
 | zero=>simp at hx; subst hx; exact⟨b,by simp,h⟩
 | succ i=>simp at hx; simpa using k.at_ i x hx
theorem claims_like:∀(l:List AOper) (b c:Nat),Like (claims b l) (claims c l)
 | [],b,c=>⟨rfl,fun i a h=>by simp[claims]at h⟩
 | o::r,b,c=>by
  simp only[claims]
  cases newOf o.op with
  | none=>exact Like.cons (SameK.refl _) (claims_like r _ _)
  | some p=>
   obtain⟨z,s⟩:=p
   refine Like.cons ?_ (claims_like r _ _)
   unfold clOp
   split <;> exact⟨rfl,rfl,rfl,rfl⟩
theorem Like.none{l m:List AOper}(h:Like l m){i:Nat}(hi:l[i]?=none):m[i]?=none:=by
 rw[List.getElem?_eq_none_iff]at hi ⊢
 rw[← h.len]; exact hi
theorem okPair_like{ms:List Nat}{i j:Nat}{a b a' b':AOper}(h:SameK a a')(k:SameK b b'):okPair ms i j a b=okPair ms i j a' b':=by
 unfold okPair disj
 rw[h.chain,k.chain,h.dst,k.dst,h.reads,k.reads]
theorem okPairs_like{l m:List AOper}(h:Like l m)(ms:List Nat):okPairs l ms=okPairs m ms:=by
 unfold okPairs
 rw[h.len]
 congr 1
 funext j
 cases hj:l[j]? with
 | none=>rw[h.none hj]
 | some b=>
  obtain⟨b',hb',kb⟩:=h.at_ j b hj
  rw[hb']
  simp only
  congr 1
  funext i
  cases hi:l[i]? with
  | none=>rw[h.none hi]
  | some a=>
   obtain⟨a',ha',ka⟩:=h.at_ i a hi
   rw[ha']
   simp only
   exact okPair_like ka kb
theorem isStage_like{l m:List AOper}(h:Like l m)(p:Nat):isStage l p=isStage m p:=by
 unfold isStage
 cases hj:l[p]? with
 | none=>rw[h.none hj,h.len]
 | some b=>
  obtain⟨b',hb',kb⟩:=h.at_ p b hj
  rw[hb']
  exact kb.chain
theorem mayAt_like{l m:List AOper}(h:Like l m)(ms:List Nat)(j p:Nat):mayAt l ms j p=mayAt m ms j p:=by
 unfold mayAt
 rw[isStage_like h,h.len]
 congr 2
 funext c
 cases hj:l[c]? with
 | none=>rw[h.none hj]
 | some b=>
  obtain⟨b',hb',kb⟩:=h.at_ c b hj
  rw[hb']
  simp only[kb.chain]
theorem sameH_like{l m:List AOper}(h:Like l m)(j p:Nat):sameH l j p=sameH m j p:=by
 unfold sameH
 congr 2
 funext c
 cases hj:l[c]? with
 | none=>rw[h.none hj]
 | some b=>
  obtain⟨b',hb',kb⟩:=h.at_ c b hj
  rw[hb']
  simp only[kb.chain]
theorem chkOf_like{l m:List AOper}(h:Like l m)(ms:List Nat)(j:Nat):chkOf l ms j=chkOf m ms j:=by
 unfold chkOf
 cases hj:l[j]? with
 | none=>rw[h.none hj]
 | some b=>
  obtain⟨b',hb',kb⟩:=h.at_ j b hj
  rw[hb']
  simp only[kb.load,h.len]
  congr 1
  congr 1
  funext p
  rw[sameH_like h,mayAt_like h]
theorem call_not_new{P:Program}{c:Call}{z:List AVal}(h:cCall P c=some (.new z)):False:=by
 unfold cCall at h
 repeat' split at h
 all_goals first
  | (simp at h; done)
  | (cases hb:(Nat.beq _ _&&isTail P _) <;> simp[hb]at h; done)
  | skip
 all_goals (revert h; intro h; simp only[cond_eq_ite]at h; split at h <;> simp at h)
theorem cOpX_not_new{P:Program}{o:Op}{z:List AVal}(h:cOpX P o=some (.new z)):False:=by
 unfold cOpX at h
 repeat' split at h
 all_goals first
  | (simp at h; done)
  | (simp only[cond_eq_ite]at h; split at h <;> first | (simp at h; done) | (split at h <;> simp at h))
theorem new_of{P:Program}{o:Op}{z:List AVal}(h:cOp P o=some (.new z)):∃e,o=.alloc e∧zeroOf P e=some z:=by
 unfold cOp at h
 split at h
 ·rename_i a ha
  simp only[sJ]at h
  subst h
  exact (cOpX_not_new ha).elim
 ·split at h
  ·rename_i a ha
   simp only[sJ]at h
   subst h
   cases o <;> simp only[cOp0,reduceCtorEq]at ha
   case alloc e _=>
    split at ha
    ·rename_i z' hz
     simp only[sJ,AOp.new.injEq]at ha
     subst ha
     exact⟨e,rfl,hz⟩
    ·simp at ha
   case call c=>exact (call_not_new ha).elim
   all_goals
    exfalso
    repeat' split at ha
    all_goals first
     | (simp at ha; done)
     | (simp only[cond_eq_ite]at ha; split at ha <;> simp at ha)
  ·simp at h
theorem call_not_mk{P:Program}{c:Call}{b:Nat}{z:List AVal}{x y:Opd}(h:cCall P c=some (.mkSlice b z x y)):False:=by
 unfold cCall at h
 repeat' split at h
 all_goals first
  | (simp at h; done)
  | (cases hb:(Nat.beq _ _&&isTail P _) <;> simp[hb]at h; done)
  | skip
 all_goals (revert h; intro h; simp only[cond_eq_ite]at h; split at h <;> simp at h)
theorem cOpX_not_mk{P:Program}{o:Op}{b:Nat}{z:List AVal}{x y:Opd}(h:cOpX P o=some (.mkSlice b z x y)):False:=by
 unfold cOpX at h
 repeat' split at h
 all_goals first
  | (simp at h; done)
  | (simp only[cond_eq_ite]at h; split at h <;> first | (simp at h; done) | (split at h <;> simp at h))
theorem mk_of{P:Program}{o:Op}{b:Nat}{z:List AVal}{x y:Opd}(h:cOp P o=some (.mkSlice b z x y)) :
  ∃t l c e m,o=.makeSlice t l c∧P.underlying t=some (.slice e)∧elemOf P e=some (m,b)∧zeroOf P e=some z∧cOpd l=some x∧cOpd c=some y:=by
 unfold cOp at h
 split at h
 ·rename_i a ha
  simp only[sJ]at h
  subst h
  exact (cOpX_not_mk ha).elim
 ·split at h
  ·rename_i a ha
   simp only[sJ]at h
   subst h
   cases o <;> simp only[cOp0,reduceCtorEq]at ha
   case makeSlice t l c _=>
    split at ha
    ·rename_i e hu
     split at ha
     ·rename_i m b' z' l' c' h1 h2 h3 h4
      simp only[sJ,AOp.mkSlice.injEq]at ha
      obtain⟨rfl,rfl,rfl,rfl⟩:=ha
      exact⟨t,l,c,e,m,rfl,hu,h1,h2,h3,h4⟩
     ·simp at ha
    ·simp at ha
   case call c=>exact (call_not_mk ha).elim
   all_goals
    exfalso
    repeat' split at ha
    all_goals first
     | (simp at ha; done)
     | (simp only[cond_eq_ite]at ha; split at ha <;> simp at ha)
  ·simp at h
theorem call_not_mm{P:Program}{c:Call}{l:List Opd}(h:cCall P c=some (.hf .mkMap l)):False:=by
 unfold cCall at h
 repeat' split at h
 all_goals first
  | (simp at h; done)
  | (cases hb:(Nat.beq _ _&&isTail P _) <;> simp[hb]at h; done)
  | skip
 all_goals (revert h; intro h; simp only[cond_eq_ite]at h; split at h <;> simp at h)
theorem cOpX_mm{P:Program}{o:Op}{l:List Opd}(h:cOpX P o=some (.hf .mkMap l)):∃t,o=.makeMap t none:=by
 unfold cOpX at h
 split at h
 all_goals first
  | exact⟨_,rfl⟩
  | exfalso
 all_goals
  repeat' split at h
  all_goals first
   | (simp at h; done)
   | (simp only[cond_eq_ite]at h; split at h <;> first | (simp at h; done) | (split at h <;> simp at h))
theorem mm_of{P:Program}{o:Op}{l:List Opd}(h:cOp P o=some (.hf .mkMap l)):∃t,o=.makeMap t none:=by
 unfold cOp at h
 split at h
 ·rename_i a ha
  simp only[sJ]at h
  subst h
  exact cOpX_mm ha
 ·split at h
  ·rename_i a ha
   simp only[sJ]at h
   subst h
   cases o <;> simp only[cOp0,reduceCtorEq]at ha
   case call c=>exact (call_not_mm ha).elim
   all_goals
    exfalso
    repeat' split at ha
    all_goals first
     | (simp at ha; done)
     | (simp only[cond_eq_ite]at ha; split at ha <;> simp at ha)
  ·simp at h
def ClaimOp(P:Program)(o:Op)(z:List AVal)(s:Option (Nat×Nat)):Prop:=
 (∃e,o=.alloc e∧zeroOf P e=some z∧s=none) ∨
 (∃t l c e m by_ z0 x y ln cn,o=.makeSlice t l c∧P.underlying t=some (.slice e)∧elemOf P e=some (m,by_)∧zeroOf P e=some z0∧cOpd l=some (.c x)∧cOpd c=some (.c y) ∧
  natOf x=some ln∧natOf y=some cn∧(ln≤cn∧by_*cn≤281474976710656)∧z=rep z0 cn∧s=some (ln,cn)) ∨
 ∃t,o=.makeMap t none∧z=[]∧s=some (1,0)
theorem call_not_fill{P:Program}{c:Call}{b:Nat}{k:LaidK}{xs:List Opd}(h:cCall P c=some (.hf (.fill b k) xs)):False:=by
 unfold cCall at h
 repeat' split at h
 all_goals first
  | (simp at h; done)
  | (simp only[cond_eq_ite]at h; split at h <;> simp at h)
theorem cOpX_not_fill{P:Program}{o:Op}{b:Nat}{k:LaidK}{xs:List Opd}(h:cOpX P o=some (.hf (.fill b k) xs)):False:=by
 unfold cOpX at h
 repeat' split at h
 all_goals first
  | (simp at h; done)
  | (simp only[cond_eq_ite]at h; split at h <;> first | (simp at h; done) | (split at h <;> simp at h))
theorem cOp_not_fill{P:Program}{o:Op}{b:Nat}{k:LaidK}{xs:List Opd}(h:cOp P o=some (.hf (.fill b k) xs)):False:=by
 unfold cOp at h
 split at h
 ·rename_i a ha
  simp only[sJ]at h
  subst h
  exact cOpX_not_fill ha
 ·split at h
  ·rename_i a ha
   simp only[sJ]at h
   subst h
   cases o <;> simp only[cOp0,reduceCtorEq]at ha
   case call c _=>exact call_not_fill ha
   all_goals
    exfalso
    repeat' split at ha
    all_goals first
     | (simp at ha; done)
     | (simp only[cond_eq_ite]at ha; split at ha <;> simp at ha)
  ·simp at h
theorem cOp_isFill{P:Program}{o:Op}{a:AOp}(h:cOp P o=some a):isFill a=false:=by
 unfold isFill
 split
 ·exact (cOp_not_fill h).elim
 ·rfl
theorem newOf_of{P:Program}{o:Op}{a:AOp}{z:List AVal}{s:Option (Nat×Nat)}(h:cOp P o=some a)(hn:newOf a=some (z,s)):ClaimOp P o z s:=by
 unfold newOf at hn
 split at hn
 ·simp only[sJ,pJ]at hn
  obtain⟨rfl,rfl⟩:=hn
  obtain⟨e,he,hz⟩:=new_of h
  exact .inl ⟨e,he,hz,rfl⟩
 ·rename_i by_ z0 x y
  obtain⟨t,l,c,e,m,h1,h2,h3,h4,h5,h6⟩:=mk_of h
  split at hn
  ·rename_i ln cn hl hc
   cases hb:(Nat.ble ln cn&&Nat.ble (by_*cn) 281474976710656) with
   | false=>rw[hb]at hn; simp at hn
   | true=>
    rw[hb]at hn
    simp only[cond_true,sJ,pJ]at hn
    obtain⟨rfl,rfl⟩:=hn
    simp only[Bool.and_eq_true,Nat.ble_eq]at hb
    exact .inr (.inl ⟨t,l,c,e,m,by_,z0,x,y,ln,cn,h1,h2,h3,h4,h5,h6,hl,hc,hb,rfl,rfl⟩)
  ·simp at hn
 ·exact (cOp_not_fill h).elim
 ·simp only[sJ,pJ]at hn
  obtain⟨rfl,rfl⟩:=hn
  obtain⟨t,ht⟩:=mm_of h
  exact .inr (.inr ⟨t,ht,rfl,rfl⟩)
 ·simp at hn
def IsCl(P:Program)(n:Nat)(ops:Array Oper)(o:Oper)(a:AOper)(b:Nat):Prop:=
 ∃z s g,ClaimOp P o.op z s∧cGuard n ops o.guard=some g∧okDst n o.dst=true∧a=⟨o.dst,.claim b z s,g⟩
theorem claims_at{P:Program}{n:Nat}{ops:Array Oper}:∀{rest:List Oper} {l:List AOper},cOpers P n ops rest=some l→∀b,(claims b l).length=rest.length ∧
  ∀(j:Nat) (o:Oper),rest[j]?=some o→∃a,(claims b l)[j]?=some a∧(cOper P n ops o=some a∨∃c,b≤c∧IsCl P n ops o a c):=by
 intro rest
 induction rest with
 | nil=>intro l h b; simp only[cOpers,sJ]at h; subst h; exact⟨rfl,fun j o h=>by simp at h⟩
 | cons o r ih=>
  intro l h b
  simp only[cOpers]at h
  split at h
  ·rename_i a l' ha hl'
   simp only[sJ]at h
   subst h
   have key:∀(x:AOper) (b':Nat),b≤b'→(cOper P n ops o=some x∨∃c,b≤c∧IsCl P n ops o x c)→claims b (a::l')=x::claims b' l' →
     (claims b (a::l')).length=(o::r).length∧∀(j:Nat) (o':Oper),(o::r)[j]?=some o'→∃a',(claims b (a::l'))[j]?=some a'∧(cOper P n ops o'=some a'∨∃c,b≤c∧IsCl P n ops o' a' c):=by
    intro x b' hb hx he
    rw[he]
    obtain⟨i1,i2⟩:=ih hl' b'
    refine⟨by simp[i1],fun j o' hj=>?_⟩
    cases j with
    | zero=>simp at hj; subst hj; exact⟨x,by simp,hx⟩
    | succ j=>
     simp at hj
     obtain⟨a',h1,h2⟩:=i2 j o' hj
     refine⟨a',by simpa using h1,?_⟩
     rcases h2 with h2 | ⟨c,h2,h3⟩
     ·exact .inl h2
     ·exact .inr ⟨c,om,h3⟩
   cases hop:newOf a.op with
   | some p=>
    obtain⟨z,s⟩:=p
    refine key ⟨a.dst,clOp b z s a.op,a.guard⟩ (b+1) om ?_ (by simp only[claims,hop])
    unfold cOper at ha
    split at ha
    ·rename_i ax g hopc hg
     cases hdst:okDst n o.dst with
     | false=>rw[hdst]at ha; simp at ha
     | true=>
      rw[hdst]at ha
      simp only[cond_true,sJ]at ha
      subst ha
      rw[clOp_no (cOp_isFill hopc)]
      exact .inr ⟨b,Nat.le_refl _,z,s,g,newOf_of hopc hop,hg,hdst,rfl⟩
    ·simp at ha
   | none=>exact key a b rL (.inl ha) (by simp only[claims,hop])
  ·simp at h
end Go.Abs
