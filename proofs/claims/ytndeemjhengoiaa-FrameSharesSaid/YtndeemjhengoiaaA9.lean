/- The abstract machine, part 9: its operations, compiled from the model's, and that the model's do the same. -/
import Derived.Test.YtndeemjhengoiaaA8e
namespace Go.Abs

inductive Opd where
  | t (i : Nat)
  | c (v : AVal)
  | f (id : FuncId)

inductive AOp where
  | mv (x : Opd)
  | pick (c a b : Opd)
  | new (zero : List AVal)
  | box (x : Opd)
  | build (zero : List AVal) (parts : List (Nat × Nat × Opd))
  | buildSl (len : Nat) (zero : List AVal) (parts : List (Nat × Nat × Opd))
  | load (agg : Bool) (size : Nat) (x : Opd)
  | store (size : Nat) (a x : Opd)
  | nilChk (x : Opd)
  | bin (op : BinOp) (x y : Opd)
  | un (op : UnOp) (x : Opd)
  | conv (k : IntKind) (x : Opd)
  | convSB (x : Opd)
  | convBS (x : Opd)
  | mkFunc (fn : Fn) (first captured : List Opd)
  | mkIface (t : TypeId) (x : Opd)
  | mkSlice (bytes : Nat) (zero : List AVal) (l c : Opd)
  | sl (size : Nat) (x : Opd) (lo hi mx : Option Opd)
  | slStr (x : Opd) (lo hi : Option Opd)
  | fieldA (off : Nat) (x : Opd)
  | field (agg : Bool) (size off : Nat) (x : Opd)
  | idxA (size : Nat) (x i : Opd)
  | idxArr (n size : Nat) (x i : Opd)
  | idx (n size : Nat) (agg : Bool) (x i : Opd)
  | idxS (x i : Opd)
  | extract (i : Nat) (x : Opd)
  | append (size bytes : Nat) (s x : Opd)
  | len (str : Bool) (x : Opd)
  | call (f : FuncId) (args : List Opd)
  | callv (f : Opd) (args : List Opd)
  | pf (f : PF) (xs : List Opd)
  | hf (f : HF) (xs : List Opd)
  | bad
  | claim (b : Nat) (zero : List AVal)
  | slA (n size : Nat) (x : Opd) (lo hi mx : Option Opd)

inductive Nx where
  | val (v : AVal)
  | enter (f : FuncId) (args : List AVal)

def undefA : AVal := .tuple []
def ev (T : Tr AVal) : Opd → AVal
  | .t i => match T.get i with
    | some v => v
    | none => undefA
  | .c v => v
  | .f id => .func (.func id) [] []
def evs (T : Tr AVal) : List Opd → List AVal
  | [] => []
  | x :: r => ev T x :: evs T r
def evO (T : Tr AVal) : Option Opd → Option AVal
  | none => none
  | some x => some (ev T x)
def evP (T : Tr AVal) : List (Nat × Nat × Opd) → List (Nat × Nat × AVal)
  | [] => []
  | (o, n, x) :: r => (o, n, ev T x) :: evP T r

def vv (H : AHeap) : Option AVal → Option (Nx × AHeap)
  | some v => some (.val v, H)
  | none => none
def vh : Option (AVal × AHeap) → Option (Nx × AHeap)
  | some (v, H) => some (.val v, H)
  | none => none
def aNilChk : AVal → Option AVal
  | .ptr none => none
  | .nilIface => none
  | .nilFunc => none
  | .func (.method _) _ _ => none
  | .val _ => none
  | x => some x
def aLenK (str : Bool) : AVal → Option AVal
  | .str s => bif str then some (.int .i64 s.length) else none
  | .slice _ n _ => bif str then none else some (.int .i64 n)
  | _ => none

def aop (tb : FuncId → Bool) (T : Tr AVal) (H : AHeap) : AOp → Option (Nx × AHeap)
  | .mv x => some (.val (ev T x), H)
  | .pick c a b => match ev T c with
    | .bool b' => some (.val (bif b' then ev T a else ev T b), H)
    | _ => none
  | .new z => vh (some (oNew H z))
  | .box x => vh (some (oNew H (ev T x).cells))
  | .build z ps => vv H (aBuild z (evP T ps))
  | .buildSl n z ps => vh (aBuildSl n z H (evP T ps))
  | .load a n x => vv H (oLoad a n H (ev T x))
  | .store n a x => match oStore n H (ev T a) (ev T x) with
    | some H' => some (.val undefA, H')
    | none => none
  | .nilChk x => vv H (aNilChk (ev T x))
  | .bin op x y => vv H (aBin op (ev T x) (ev T y))
  | .un op x => vv H (aUn op (ev T x))
  | .conv k x => vv H (aConv k (ev T x))
  | .convSB x => vh (aSB H (ev T x))
  | .convBS x => vv H (aBS H (ev T x))
  | .mkFunc fn a b => some (.val (.func fn (evs T a) (evs T b)), H)
  | .mkIface t x => some (.val (.iface t (ev T x)), H)
  | .mkSlice b z l c => vh (aMake b z H (ev T l) (ev T c))
  | .sl n x lo hi mx => vv H (aSl n (ev T x) (evO T lo) (evO T hi) (evO T mx))
  | .slStr x lo hi => vv H (aSlStr (ev T x) (evO T lo) (evO T hi))
  | .fieldA o x => vv H (aField o (ev T x))
  | .field a n o x => vv H (aFieldV a n o (ev T x))
  | .idxA n x i => vv H (aIdxA n (ev T x) (ev T i))
  | .idxArr m n x i => vv H (aIdxArr m n (ev T x) (ev T i))
  | .idx m n a x i => vv H (aIdx m n a (ev T x) (ev T i))
  | .idxS x i => vv H (aIdxS (ev T x) (ev T i))
  | .extract i x => vv H (aExtract i (ev T x))
  | .append n b s x => vh (aAppend n b H (ev T s) (ev T x))
  | .len s x => vv H (aLenK s (ev T x))
  | .call f args => bif tb f then some (.enter f (evs T args), H) else none
  | .callv f args => match ev T f with
    | .func (.func f) a b => bif tb f then some (.enter f (a ++ evs T args ++ b), H) else none
    | _ => none
  | .pf f xs => vv H (aPf f (evs T xs))
  | .hf f xs => vh (aHf f H (evs T xs))
  | .bad => none
  | .claim b z => vv H (aClaim H b z)
  | .slA m n x lo hi mx => vv H (aSlArr m n (ev T x) (evO T lo) (evO T hi) (evO T mx))

/-! ### compiling -/
section
variable (P : Program)
def cOpd : Operand → Option Opd
  | .tmp t => some (.t t)
  | .const v => match absC v with
    | some x => some (.c x)
    | none => none
  | .global _ => none
  | .func f => some (.f f)
def cOpds : List Operand → Option (List Opd)
  | [] => some []
  | x :: r => match cOpd x, cOpds r with
    | some y, some l => some (y :: l)
    | _, _ => none
def cOpdO : Option Operand → Option (Option Opd)
  | none => some none
  | some x => match cOpd x with
    | some y => some (some y)
    | none => none
/-- a literal's parts, their places looked up -/
def cParts (place : Nat → Option (Nat × Nat)) : List (Nat × Operand) → Option (List (Nat × Nat × Opd))
  | [] => some []
  | (i, x) :: r => match place i, cOpd x, cParts place r with
    | some (o, n), some y, some l => some ((o, n, y) :: l)
    | _, _, _ => none
def hasBody (f : FuncId) : Bool :=
  match P.funcs[f]? with
  | some fn => fn.body.isSome && !(fn.name == "runtime.NumGoroutine")
  | none => false
def isTail (t : TypeId) : Bool :=
  match P.underlying t with
  | some (.slice _) => true
  | some .string => true
  | _ => false

def cCall (c : Call) : Option AOp :=
  match c.callee with
  | .value (.func f) => match cOpds c.args.toList with
      | some l => some (.call f l)
      | none => none
  | .value x => match cOpd x, cOpds c.args.toList with
    | some y, some l => some (.callv y l)
    | _, _ => none
  | .builtin .append => match c.argTypes.toList, cOpds c.args.toList with
    | [sT, xT], some [s, x] => match P.underlying sT with
      | some (.slice e) => match tyOf P e, elemOf P e with
        | some (_, n), some (n', b) => bif Nat.beq n n' && isTail P xT then some (.append n b s x) else none
        | _, _ => none
      | _ => none
    | _, _ => none
  | .builtin .len => match c.argTypes.toList, cOpds c.args.toList with
    | [T], some [x] => match P.underlying T with
      | some (.slice _) => some (.len false x)
      | some .string => some (.len true x)
      | _ => none
    | _, _ => none
  | _ => none

def cOp0 (o : Op) : Option AOp :=
  match o with
  | .move x => match cOpd x with | some y => some (.mv y) | none => none
  | .assign x => match cOpd x with | some y => some (.mv y) | none => none
  | .pick c a b => match cOpd c, cOpd a, cOpd b with | some c, some a, some b => some (.pick c a b) | _, _, _ => none
  | .alloc e => match zeroOf P e with | some z => some (.new z) | none => none
  | .box _ x => match cOpd x with | some y => some (.box y) | none => none
  | .build t ps => match P.underlying t, zeroOf P t with
    | some (.struct fs), some z => match placesOf P fs.toList with
      | some pl => match cParts (fun i => pl[i]?) ps.toList with
        | some l => some (.build z l)
        | none => none
      | none => none
    | some (.array _ e), some z => match tyOf P e with
      | some (_, n) => match cParts (fun i => some (i * n, n)) ps.toList with
        | some l => some (.build z l)
        | none => none
      | none => none
    | _, _ => none
  | .buildSlice t len ps => match P.underlying t with
    | some (.slice e) => match tyOf P e, zeroOf P e with
      | some (_, n), some z => match cParts (fun i => some (i * n, n)) ps.toList with
        | some l => bif Nat.beq z.length n && Nat.ble (len * n) 16777216 then some (.buildSl len z l) else none
        | none => none
      | _, _ => none
    | _ => none
  | .load t a => match tyOf P t, cOpd a with | some (g, n), some y => some (.load g n y) | _, _ => none
  | .store t a x => match tyOf P t, cOpd a, cOpd x with | some (_, n), some a, some y => some (.store n a y) | _, _, _ => none
  | .nilCheck x => match cOpd x with | some y => some (.nilChk y) | none => none
  | .binOp op _ x y _ => match cOpd x, cOpd y with | some a, some b => some (.bin op a b) | _, _ => none
  | .unOp op _ x => match cOpd x with | some y => some (.un op y) | none => none
  | .convert s d x => match cOpd x with
    | some y => match P.underlying s, P.underlying d with
      | some _, some (.int k) => some (.conv k y)
      | some .string, some (.slice e) => match P.underlying e with
        | some (.int .u8) => some (.convSB y)
        | _ => none
      | some (.slice e), some .string => match P.underlying e with
        | some (.int .u8) => some (.convBS y)
        | _ => none
      | _, _ => none
    | none => none
  | .makeInterface t x => match cOpd x, P.underlying t with
    | some _, some (.interface _) => none
    | some y, some _ => some (.mkIface t y)
    | _, _ => none
  | .makeFunc fn a b => match cOpds a.toList, cOpds b.toList with | some a, some b => some (.mkFunc fn a b) | _, _ => none
  | .makeSlice t l c => match P.underlying t with
    | some (.slice e) => match elemOf P e, zeroOf P e, cOpd l, cOpd c with
      | some (_, b), some z, some l, some c => some (.mkSlice b z l c)
      | _, _, _, _ => none
    | _ => none
  | .slice t x lo hi mx => match P.underlying t, cOpd x, cOpdO lo, cOpdO hi, cOpdO mx with
    | some .string, some x, some lo, some hi, some none => some (.slStr x lo hi)
    | some (.slice e), some x, some lo, some hi, some mx => match tyOf P e with
      | some (_, n) => some (.sl n x lo hi mx)
      | none => none
    | _, _, _, _, _ => none
  | .fieldAddr s x i => match P.underlying s, cOpd x with
    | some (.struct fs), some y => match fs[i]? with
      | some f => match tyOf P f.type with
        | some (_, n) => bif Nat.beq n 0 then none else some (.fieldA f.offset y)
        | none => none
      | none => none
    | _, _ => none
  | .field s x i => match P.underlying s, cOpd x with
    | some (.struct fs), some y => match fs[i]? with
      | some f => match tyOf P f.type with
        | some (g, n) => some (.field g n f.offset y)
        | none => none
      | none => none
    | _, _ => none
  | .indexAddr t x i => match P.underlying t, cOpd x, cOpd i with
    | some (.slice e), some x, some i => match tyOf P e with
      | some (_, n) => some (.idxA n x i)
      | none => none
    | some (.array m e), some x, some i => match tyOf P e with
      | some (_, n) => some (.idxArr m n x i)
      | none => none
    | _, _, _ => none
  | .index t x i => match P.underlying t, cOpd x, cOpd i with
    | some .string, some x, some i => some (.idxS x i)
    | some (.array m e), some x, some i => match tyOf P e with
      | some (g, n) => some (.idx m n g x i)
      | none => none
    | _, _, _ => none
  | .extract x i => match cOpd x with | some y => some (.extract i y) | none => none
  | .call c => cCall P c
  | _ => none

def cOpX (o : Op) : Option AOp :=
  match o with
  | .binOp .eql t x y _ => match cOpd x, cOpd y with
    | some a, some b => match eqKOf P t x y with
      | some k => some (.pf (.eqv false k) [a, b])
      | none => match eqSOf P t with
        | some fs => some (.pf (.eqS false fs) [a, b])
        | none => none
    | _, _ => none
  | .binOp .neq t x y _ => match cOpd x, cOpd y with
    | some a, some b => match eqKOf P t x y with
      | some k => some (.pf (.eqv true k) [a, b])
      | none => match eqSOf P t with
        | some fs => some (.pf (.eqS true fs) [a, b])
        | none => none
    | _, _ => none
  | .range t x => match P.underlying t, cOpd x with
    | some .string, some y => some (.hf .strRange [y])
    | _, _ => none
  | .next x true => match cOpd x with
    | some y => some (.hf .strNext [y])
    | none => none
  | .slice t x lo hi mx => match P.underlying t, cOpd x, cOpdO lo, cOpdO hi, cOpdO mx with
    | some (.array m e), some x, some lo, some hi, some mx => match tyOf P e with
      | some (_, n) => some (.slA m n x lo hi mx)
      | none => none
    | _, _, _, _, _ => none
  | .convert s d x => bif Nat.beq s d then (match P.underlying s, cOpd x with
    | some (.slice e), some y => match P.underlying e with
      | some (.int .u8) => some (.hf .mark [y])
      | _ => none
    | _, _ => none) else none
  | .call c => match c.callee with
    | .builtin .max => match cOpds c.args.toList with
      | some l => some (.pf (.mm true) l)
      | none => none
    | .builtin .min => match cOpds c.args.toList with
      | some l => some (.pf (.mm false) l)
      | none => none
    | .value (.func f) => bif isIbs P f then match cOpds c.args.toList with
        | some l => some (.pf .ibs l)
        | none => none
      else none
    | _ => none
  | _ => none
/-- whatever is not known is never done -/
def cOp (o : Op) : Option AOp :=
  match cOpX P o with
  | some a => some a
  | none => match cOp0 P o with
    | some a => some a
    | none => some .bad
end

/-! ### the model's do the same -/
section
variable {P : Program} {Prot : Gh} {w0 : World} {ρ : Pl} {H H' : AHeap} {w : World}

structure TmpsRel (ρ : Pl) (n : Nat) (T : Tr AVal) (tmps : Array Value) : Prop where
  size : tmps.size = n
  at_ : ∀ t, VRel ρ (ev T (.t t)) (tmps.getD t undef)

theorem TmpsRel.mono {ρ ρ' : Pl} {n : Nat} {T : Tr AVal} {tmps : Array Value} (h : ρ.le ρ') (t : TmpsRel ρ n T tmps) : TmpsRel ρ' n T tmps := ⟨t.size, fun i => VRel.mono h _ _ (t.at_ i)⟩

theorem opd_ok {n : Nat} {T : Tr AVal} {a : Act} (h : TmpsRel ρ n T a.tmps) {x : Operand} {y : Opd} (hc : cOpd x = some y) : VRel ρ (ev T y) (a.eval x) := by
  cases x with
  | tmp t => simp only [cOpd, Option.some.injEq] at hc; subst hc; exact h.at_ t
  | const v =>
    simp only [cOpd] at hc
    split at hc
    · rename_i x hx
      simp only [Option.some.injEq] at hc
      subst hc
      exact absC_ok hx
    · simp at hc
  | global g => simp [cOpd] at hc
  | func f =>
    simp only [cOpd, Option.some.injEq] at hc
    subst hc
    simp only [ev, Act.eval, VRel]
    exact ⟨#[], #[], rfl, by simp [VRels], by simp [VRels]⟩
theorem opds_ok {n : Nat} {T : Tr AVal} {a : Act} (h : TmpsRel ρ n T a.tmps) : ∀ {l : List Operand} {m : List Opd}, cOpds l = some m → VRels ρ (evs T m) (l.map a.eval) := by
  intro l
  induction l with
  | nil => intro m hc; simp only [cOpds, Option.some.injEq] at hc; subst hc; simp [evs, VRels]
  | cons x r ih =>
    intro m hc
    simp only [cOpds] at hc
    split at hc
    · rename_i y l' h1 h2
      simp only [Option.some.injEq] at hc
      subst hc
      simp only [evs, List.map_cons, VRels]
      exact ⟨_, _, rfl, opd_ok h h1, ih h2⟩
    · simp at hc
theorem opdO_ok {n : Nat} {T : Tr AVal} {a : Act} (h : TmpsRel ρ n T a.tmps) {x : Option Operand} {y : Option Opd} (hc : cOpdO x = some y) : ORelV ρ (evO T y) (x.map a.eval) := by
  cases x with
  | none => simp only [cOpdO, Option.some.injEq] at hc; subst hc; rfl
  | some x =>
    simp only [cOpdO] at hc
    split at hc
    · rename_i z hz
      simp only [Option.some.injEq] at hc
      subst hc
      exact ⟨_, rfl, opd_ok h hz⟩
    · simp at hc
theorem parts_ok {n : Nat} {T : Tr AVal} {a : Act} (h : TmpsRel ρ n T a.tmps) {place : Nat → Option (Nat × Nat)} : ∀ {l : List (Nat × Operand)} {m : List (Nat × Nat × Opd)}, cParts place l = some m →
    PartsRel ρ place (evP T m) (l.map fun p => (p.1, a.eval p.2)) := by
  intro l
  induction l with
  | nil => intro m hc; simp only [cParts, Option.some.injEq] at hc; subst hc; simp [evP, PartsRel]
  | cons x r ih =>
    intro m hc
    obtain ⟨i, x⟩ := x
    simp only [cParts] at hc
    split at hc
    · rename_i o k y l' h1 h2 h3
      simp only [Option.some.injEq] at hc
      subst hc
      simp only [evP, List.map_cons, PartsRel]
      exact ⟨_, _, _, rfl, h1, opd_ok h h2, ih h3⟩
    · simp at hc

def NxRel (ρ : Pl) : Nx → Next → Prop
  | .val x, .value v => VRel ρ x v
  | .val x, .skip => VRel ρ x undef
  | .enter f l, .enter g vs => g = f ∧ VRels ρ l vs.toList
  | _, _ => False

def OpSim (P : Program) (Prot : Gh) (w0 : World) (ρ : Pl) (w : World) (s : Sem Next) (nx : Nx) (H' : AHeap) : Prop :=
  ∃ ρ' w' n, ρ.le ρ' ∧ s.run P w = .ok n w' ∧ Rel Prot w0 ρ' H' w' ∧ NxRel ρ' nx n

theorem OpSim.val (R : Rel Prot w0 ρ H w) {x : AVal} {s : Sem Value} (h : ∃ u, s.run P w = .ok u w ∧ VRel ρ x u) : OpSim P Prot w0 ρ w (do pure (.value (← s))) (.val x) H := by
  obtain ⟨u, h1, h2⟩ := h
  exact ⟨ρ, w, .value u, Pl.le_refl _, by simp only [Sem.run_bind, h1, Result.andThen_ok]; rfl, R, h2⟩
theorem OpSim.good {x : AVal} {s : Sem Value} (h : GoodV P Prot w0 ρ w s x H') : OpSim P Prot w0 ρ w (do pure (.value (← s))) (.val x) H' := by
  obtain ⟨ρ', w', u, h1, h2, h3, h4⟩ := h
  exact ⟨ρ', w', .value u, h1, by simp only [Sem.run_bind, h2, Result.andThen_ok]; rfl, h3, h4⟩
theorem vv_spec {x : Option AVal} {nx : Nx} (h : vv H x = some (nx, H')) : ∃ y, x = some y ∧ nx = .val y ∧ H' = H := by
  unfold vv at h
  split at h
  · simp only [Option.some.injEq, Prod.mk.injEq] at h; exact ⟨_, rfl, h.1.symm, h.2.symm⟩
  · simp at h
theorem vh_spec {x : Option (AVal × AHeap)} {nx : Nx} (h : vh x = some (nx, H')) : ∃ y, x = some (y, H') ∧ nx = .val y := by
  unfold vh at h
  split at h
  · simp only [Option.some.injEq, Prod.mk.injEq] at h; obtain ⟨rfl, rfl⟩ := h; exact ⟨_, rfl, rfl⟩
  · simp at h

theorem nilChk_ok (R : Rel Prot w0 ρ H w) {x y : AVal} {v : Value} (hx : VRel ρ x v) (h : aNilChk x = some y) (o : Oper) {q : Operand} (ev' : Operand → Value) (hv : ev' q = v) :
    OpSim P Prot w0 ρ w (execOp ev' { o with op := .nilCheck q }) (.val y) H := by
  have hy : y = x ∧ (∀ b, execOp ev' { o with op := .nilCheck q } = pure (.value v) ∨ b = true) := by
    cases x with
    | val a => simp [aNilChk] at h
    | ptr a =>
      cases a with
      | none => simp [aNilChk] at h
      | some a =>
        simp only [aNilChk, Option.some.injEq] at h
        simp only [VRel] at hx
        obtain ⟨L, _, _, rfl⟩ := hx
        exact ⟨h.symm, fun _ => .inl (by simp [execOp, hv])⟩
    | nilIface => simp [aNilChk] at h
    | nilFunc => simp [aNilChk] at h
    | func fn a b =>
      cases fn <;> simp only [aNilChk, Option.some.injEq, reduceCtorEq] at h
      all_goals
        simp only [VRel] at hx
        obtain ⟨f, c, rfl, _⟩ := hx
        exact ⟨h.symm, fun _ => .inl (by simp [execOp, hv])⟩
    | slice a n r =>
      simp only [aNilChk, Option.some.injEq] at h
      have : ∃ b m c, v = .slice b m c := by
        cases a with
        | none => simp only [VRel] at hx; exact ⟨_, _, _, hx.2.2⟩
        | some a => obtain ⟨_, _, _, _, _, h3, _⟩ := slice_off hx; exact ⟨_, _, _, h3⟩
      obtain ⟨b, m, c, rfl⟩ := this
      exact ⟨h.symm, fun _ => .inl (by simp [execOp, hv])⟩
    | map a =>
      simp only [aNilChk, Option.some.injEq] at h
      cases a with
      | none => simp only [VRel] at hx; subst hx; exact ⟨h.symm, fun _ => .inl (by simp [execOp, hv])⟩
      | some a => simp only [VRel] at hx; obtain ⟨L, _, rfl⟩ := hx; exact ⟨h.symm, fun _ => .inl (by simp [execOp, hv])⟩
    | bool b => simp only [aNilChk, Option.some.injEq] at h; simp only [VRel] at hx; subst hx; exact ⟨h.symm, fun _ => .inl (by simp [execOp, hv])⟩
    | int b c => simp only [aNilChk, Option.some.injEq] at h; simp only [VRel] at hx; subst hx; exact ⟨h.symm, fun _ => .inl (by simp [execOp, hv])⟩
    | str b => simp only [aNilChk, Option.some.injEq] at h; simp only [VRel] at hx; subst hx; exact ⟨h.symm, fun _ => .inl (by simp [execOp, hv])⟩
    | iface t b => simp only [aNilChk, Option.some.injEq] at h; simp only [VRel] at hx; obtain ⟨_, rfl, _⟩ := hx; exact ⟨h.symm, fun _ => .inl (by simp [execOp, hv])⟩
    | agg l => simp only [aNilChk, Option.some.injEq] at h; simp only [VRel] at hx; obtain ⟨_, rfl, _⟩ := hx; exact ⟨h.symm, fun _ => .inl (by simp [execOp, hv])⟩
    | tuple l => simp only [aNilChk, Option.some.injEq] at h; simp only [VRel] at hx; obtain ⟨_, rfl, _⟩ := hx; exact ⟨h.symm, fun _ => .inl (by simp [execOp, hv])⟩
  obtain ⟨rfl, h2⟩ := hy
  rcases h2 false with h2 | h2
  · exact ⟨ρ, w, .value v, Pl.le_refl _, by rw [h2]; rfl, R, hx⟩
  · simp at h2
end
end Go.Abs
