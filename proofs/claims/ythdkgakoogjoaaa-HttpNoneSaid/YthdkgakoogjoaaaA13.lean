/- The abstract machine, part 13: the same run, told so that the kernel has each value reckoned before it goes on. -/
import Derived.Test.YthdkgakoogjoaaaA12
namespace Go.Abs

def fN {α : Type} (m : Nat) (f : Nat → α) : α := match m with | 0 => f 0 | k + 1 => f (k + 1)
theorem fN_eq {α : Type} (m : Nat) (f : Nat → α) : fN m f = f m := by cases m <;> rfl
def fI {α : Type} (n : Int) (f : Int → α) : α := match n with | .ofNat m => fN m fun m => f (.ofNat m) | .negSucc m => fN m fun m => f (.negSucc m)
theorem fI_eq {α : Type} (m : Int) (f : Int → α) : fI m f = f m := by cases m <;> simp [fI, fN_eq]
def fB {α : Type} (b : Bool) (f : Bool → α) : α := match b with | true => f true | false => f false
theorem fB_eq {α : Type} (m : Bool) (f : Bool → α) : fB m f = f m := by cases m <;> rfl
def fA {α : Type} (a : Ad) (f : Ad → α) : α := match a with | ⟨b, l, o⟩ => fN b fun b => fN l fun l => fN o fun o => f ⟨b, l, o⟩
theorem fA_eq {α : Type} (m : Ad) (f : Ad → α) : fA m f = f m := by cases m; simp [fA, fN_eq]
def fAO {α : Type} (a : Option Ad) (f : Option Ad → α) : α := match a with | none => f none | some a => fA a fun a => f (some a)
theorem fAO_eq {α : Type} (m : Option Ad) (f : Option Ad → α) : fAO m f = f m := by cases m <;> simp [fAO, fA_eq]
/-- the spine of a list -/
def fS {β : Type} : List β → List β
  | [] => []
  | x :: l => match fS l with | [] => [x] | y :: t => x :: y :: t
theorem fS_eq {β : Type} : ∀ l : List β, fS l = l
  | [] => rfl
  | x :: l => by simp only [fS, fS_eq l]; cases l <;> rfl
def fL {α β : Type} (l : List β) (f : List β → α) : α := match fS l with | [] => f [] | x :: t => f (x :: t)
theorem fL_eq {α β : Type} (l : List β) (f : List β → α) : fL l f = f l := by unfold fL; rw [fS_eq]; cases l <;> rfl
def fR {α : Type} (r : Room) (f : Room → α) : α := match r with | .known c => fN c fun c => f (.known c) | .open_ s => fN s fun s => f (.open_ s)
theorem fR_eq {α : Type} (r : Room) (f : Room → α) : fR r f = f r := by cases r <;> simp [fR, fN_eq]
def fV1 {α : Type} (x : AVal) (f : AVal → α) : α :=
  match x with
  | .bool b => fB b fun b => f (.bool b)
  | .int k n => fI n fun n => f (.int k n)
  | .str s => fL s fun s => f (.str s)
  | .ptr a => fAO a fun a => f (.ptr a)
  | .slice a n r => fAO a fun a => fN n fun n => fR r fun r => f (.slice a n r)
  | .map r => f (.map r)
  | .func a b c => f (.func a b c)
  | .nilFunc => f .nilFunc
  | .iface t v => f (.iface t v)
  | .nilIface => f .nilIface
  | .agg l => f (.agg l)
  | .tuple l => f (.tuple l)
  | .val v => f (.val v)
theorem fV1_eq {α : Type} (x : AVal) (f : AVal → α) : fV1 x f = f x := by
  cases x <;> simp [fV1, fB_eq, fI_eq, fL_eq, fAO_eq, fN_eq, fR_eq]
/-- the spine and each value -/
def fSV : List AVal → List AVal
  | [] => []
  | x :: l => fV1 x fun x => match fSV l with | [] => [x] | y :: t => x :: y :: t
theorem fSV_eq : ∀ l : List AVal, fSV l = l
  | [] => rfl
  | x :: l => by simp only [fSV, fV1_eq, fSV_eq l]; cases l <;> rfl
def fLV {α : Type} (l : List AVal) (f : List AVal → α) : α := match fSV l with | [] => f [] | x :: t => f (x :: t)
theorem fLV_eq {α : Type} (l : List AVal) (f : List AVal → α) : fLV l f = f l := by unfold fLV; rw [fSV_eq]; cases l <;> rfl
def fV {α : Type} (x : AVal) (f : AVal → α) : α :=
  match x with
  | .agg l => fLV l fun l => f (.agg l)
  | .tuple l => fLV l fun l => f (.tuple l)
  | .func a b c => fLV b fun b => fLV c fun c => f (.func a b c)
  | .iface t v => fV1 v fun v => f (.iface t v)
  | x => fV1 x f
theorem fV_eq {α : Type} (x : AVal) (f : AVal → α) : fV x f = f x := by
  cases x <;> simp [fV, fV1_eq, fLV_eq]

/-- a trie with one place set, the path to it reckoned -/
def Tr.setS {α : Type} (v : α) : Nat → Tr α → Nat → Tr α
  | 0, t, _ => t
  | f + 1, .e, k => bif Nat.beq k 0 then .n .e (some v) .e else bif Nat.beq (k % 2) 1 then
      (match Tr.setS v f .e (k / 2) with | .e => .n .e none .e | .n a b c => .n (.n a b c) none .e)
    else (match Tr.setS v f .e (k / 2 - 1) with | .e => .n .e none .e | .n a b c => .n .e none (.n a b c))
  | f + 1, .n l o r, k => bif Nat.beq k 0 then .n l (some v) r else bif Nat.beq (k % 2) 1 then
      (match Tr.setS v f l (k / 2) with | .e => .n .e o r | .n a b c => .n (.n a b c) o r)
    else (match Tr.setS v f r (k / 2 - 1) with | .e => .n l o .e | .n a b c => .n l o (.n a b c))
theorem Tr.setS_eq {α : Type} (v : α) : ∀ (f : Nat) (t : Tr α) (k : Nat), Tr.setS v f t k = Tr.setF v f t k
  | 0, _, _ => rfl
  | f + 1, .e, k => by
    simp only [Tr.setS, Tr.setF, Tr.setS_eq v f]
    congr 2 <;> split <;> simp_all
  | f + 1, .n l o r, k => by
    simp only [Tr.setS, Tr.setF, Tr.setS_eq v f]
    congr 2 <;> split <;> simp_all

def fT {α β : Type} (t : Tr β) (f : Tr β → α) : α := match t with | .e => f .e | .n a b c => f (.n a b c)
theorem fT_eq {α β : Type} (t : Tr β) (f : Tr β → α) : fT t f = f t := by cases t <;> rfl
def aputS {α : Type} (T : Tr AVal) (d : Option Nat) (v : AVal) (f : Tr AVal → α) : α :=
  match d with
  | some d => fT (Tr.setS v (d + 1) T d) f
  | none => f T
theorem aputS_eq {α : Type} (T : Tr AVal) (d : Option Nat) (v : AVal) (f : Tr AVal → α) : aputS T d v f = f (aput T d v) := by
  cases d <;> simp [aputS, aput, fT_eq, Tr.setS_eq, Tr.set]

def fO {α : Type} (o : AObj) (f : AObj → α) : α :=
  match o with
  | .cells l low ro => fL l fun l => fN low fun low => f (.cells l low ro)
  | .map es c => f (.map es c)
  | .iter s p => fN p fun p => f (.iter s p)
theorem fO_eq {α : Type} (o : AObj) (f : AObj → α) : fO o f = f o := by cases o <;> simp [fO, fL_eq, fN_eq]

/-- the heap, reckoned -/
def fH {α : Type} (H : AHeap) (f : AHeap → α) : α := match H with | ⟨n, t⟩ => fN n fun n => fT t fun t => f ⟨n, t⟩
theorem fH_eq {α : Type} (H : AHeap) (f : AHeap → α) : fH H f = f H := by cases H; simp [fH, fN_eq, fT_eq]

/-! ### code as functions -/
abbrev K := Tr AVal → AHeap → Option (AEx × Tr AVal × AHeap)
abbrev CallF := FuncId → List AVal → AHeap → Option (AVal × AHeap)

def kn : IntKind → Nat
  | .i8 => 0 | .i16 => 1 | .i32 => 2 | .i64 => 3 | .u8 => 4 | .u16 => 5 | .u32 => 6 | .u64 => 7
theorem kn_inj {a b : IntKind} : Nat.beq (kn a) (kn b) = decide (a = b) := by cases a <;> cases b <;> rfl
def b2 (f : IntKind → Int → Int → Option AVal) (op : BinOp) (x y : AVal) : Option AVal :=
  match x, y with
  | .int k a, .int k' b => bif Nat.beq (kn k) (kn k') then f k a b else none
  | .str x, .str y => aStr op x y
  | _, _ => none
def bF : BinOp → AVal → AVal → Option AVal
  | .add => b2 (fun k a b => some (.int k (wrF k (a + b)))) .add
  | .sub => b2 (fun k a b => some (.int k (wrF k (a - b)))) .sub
  | .mul => b2 (fun k a b => some (.int k (wrF k (a * b)))) .mul
  | .eql => b2 (fun _ a b => some (.bool (eqF a b))) .eql
  | .neq => b2 (fun _ a b => some (.bool (!eqF a b))) .neq
  | .lss => b2 (fun _ a b => some (.bool (ltF a b))) .lss
  | .leq => b2 (fun _ a b => some (.bool (!ltF b a))) .leq
  | .gtr => b2 (fun _ a b => some (.bool (ltF b a))) .gtr
  | .geq => b2 (fun _ a b => some (.bool (!ltF a b))) .geq
  | .quo => b2 (fun k a b => bif eqF b 0 then none else some (.int k (wrF k (a.tdiv b)))) .quo
  | .rem => b2 (fun k a b => bif eqF b 0 then none else some (.int k (a.tmod b))) .rem
  | .and => b2 (aIntF .and) .and
  | .or => b2 (aIntF .or) .or
  | .xor => b2 (aIntF .xor) .xor
  | .andNot => b2 (aIntF .andNot) .andNot
  | .shl => aBin .shl
  | .shr => aBin .shr
theorem b2_eq (op : BinOp) (hs : isShift op = false) (x y : AVal) : b2 (aIntF op) op x y = aBin op x y := by
  unfold b2 aBin
  cases x <;> cases y <;> simp [hs, kn_inj, Bool.cond_decide]
theorem bF_eq (op : BinOp) (x y : AVal) : bF op x y = aBin op x y :=
  match op with
  | .add => b2_eq .add rfl x y
  | .sub => b2_eq .sub rfl x y
  | .mul => b2_eq .mul rfl x y
  | .eql => b2_eq .eql rfl x y
  | .neq => b2_eq .neq rfl x y
  | .lss => b2_eq .lss rfl x y
  | .leq => b2_eq .leq rfl x y
  | .gtr => b2_eq .gtr rfl x y
  | .geq => b2_eq .geq rfl x y
  | .quo => b2_eq .quo rfl x y
  | .rem => b2_eq .rem rfl x y
  | .and => b2_eq .and rfl x y
  | .or => b2_eq .or rfl x y
  | .xor => b2_eq .xor rfl x y
  | .andNot => b2_eq .andNot rfl x y
  | .shl => rfl
  | .shr => rfl

section
variable (tb : FuncId → Bool) (call : CallF)

def oEnd : K := fun T H => some (.normal, T, H)
def oMv (d : Option Nat) (x : Opd) (k : K) : K := fun T H => fV1 (ev T x) fun v => aputS T d v fun T => k T H
def oVal (d : Option Nat) (f : Tr AVal → Option AVal) (k : K) : K := fun T H => match f T with | some v => fV v fun v => aputS T d v fun T => k T H | none => none
def oGen (d : Option Nat) (o : AOp) (k : K) : K := fun T H => match aop tb T H o with
  | some (.val v, H') => fH H' fun H' => fV v fun v => aputS T d v fun T => k T H'
  | some (.enter f args, H') => fLV args fun args => match call f args H' with
    | some (v, H'') => fH H'' fun H'' => fV v fun v => aputS T d v fun T => k T H''
    | none => none
  | none => none
def oLd (d : Option Nat) (g : Bool) (n : Nat) (x : Opd) (k : K) : K := fun T H => match Go.Abs.oLoad g n H (ev T x) with | some v => fV v fun v => aputS T d v fun T => k T H | none => none
def oSt (n : Nat) (a x : Opd) (d : Option Nat) (k : K) : K := fun T H => match Go.Abs.oStore n H (ev T a) (ev T x) with | some H' => fH H' fun H' => aputS T d undefA fun T => k T H' | none => none
def oCall (d : Option Nat) (f : FuncId) (l : List Opd) (k : K) : K := fun T H => bif tb f then fLV (evs T l) fun args => match call f args H with
    | some (v, H') => fH H' fun H' => fV v fun v => aputS T d v fun T => k T H'
    | none => none
  else none
def oG (t : Nat) (b : Bool) (d : Option Nat) (o : K → K) (k : K) : K := fun T H => bif gOK T (some (t, b)) then o k T H else aputS T d undefA fun T => k T H

def sOp (d : Option Nat) : AOp → K → K
  | .mv x => oMv d x
  | .bin op x y => oVal d fun T => bF op (ev T x) (ev T y)
  | .nilChk x => oVal d fun T => aNilChk (ev T x)
  | .un op x => oVal d fun T => aUn op (ev T x)
  | .conv k x => oVal d fun T => aConv k (ev T x)
  | .fieldA o x => oVal d fun T => aField o (ev T x)
  | .field a n o x => oVal d fun T => aFieldV a n o (ev T x)
  | .idxA n x i => oVal d fun T => aIdxA n (ev T x) (ev T i)
  | .idxArr m n x i => oVal d fun T => aIdxArr m n (ev T x) (ev T i)
  | .idxS x i => oVal d fun T => aIdxS (ev T x) (ev T i)
  | .extract i x => oVal d fun T => aExtract i (ev T x)
  | .len s x => oVal d fun T => aLenK s (ev T x)
  | .load g n x => oLd d g n x
  | .store n a x => oSt n a x d
  | .call f l => oCall tb call d f l
  | o => oGen tb call d o
def sOper (o : AOper) : K → K :=
  match o.guard with
  | none => sOp tb call o.dst o.op
  | some (t, b) => oG t b o.dst (sOp tb call o.dst o.op)
def sOpers : List AOper → K
  | [] => oEnd
  | o :: r => sOper tb call o (sOpers r)
/-- a trace, reckoned as it goes -/
def atrS : List AOper → Tr AVal → AHeap → Option (Tr AVal × AHeap × List (AVal × AHeap))
  | [], T, H => some (T, H, [])
  | o :: r, T, H => match astep tb call o T H with
    | some (v, H') => fH H' fun H' => fV v fun v => aputS T o.dst v fun T => match atrS r T H' with
      | some (T, H2, s) => some (T, H2, (v, H') :: s)
      | none => none
    | none => none
theorem atrS_eq : ∀ (l : List AOper) (T : Tr AVal) (H : AHeap) (k : Nat), atrS tb call l T H = match atrace tb call l T H with
    | some ss => some (tsel (fun _ => true) k l ss T, hAt H ss l.length, ss)
    | none => none := by
  intro l
  induction l with
  | nil => intro T H k; rfl
  | cons o r ih =>
    intro T H k
    simp only [atrS, atrace, fH_eq, fV_eq, aputS_eq]
    cases hs : astep tb call o T H with
    | none => rfl
    | some p =>
      obtain ⟨v, H'⟩ := p
      simp only
      rw [ih _ _ (k + 1)]
      cases ht : atrace tb call r (aput T o.dst v) H' with
      | none => rfl
      | some ss =>
        have hl := (trace_at r _ H' ss 0 ht).1
        have : hAt H' ss r.length = hAt H ((v, H') :: ss) (o :: r).length := by
          simp only [List.length_cons]
          cases hr : r.length with
          | zero => rfl
          | succ q =>
            simp only [hAt, List.getElem?_cons_succ]
            rw [List.getElem?_eq_getElem (by omega)]
        simp only [tsel, cond_true, this]
def allNil : List (List Nat) → Bool
  | [] => true
  | [] :: r => allNil r
  | _ :: _ => false
theorem chk_nil {hs : List AHeap} : ∀ (l : List AOper) (ps : List (List Nat)) (ss : List (AVal × AHeap)) (T : Tr AVal), allNil ps = true → chkRun tb hs l ps ss T = true := by
  intro l
  induction l with
  | nil => intro ps ss T _; rfl
  | cons o r ih =>
    intro ps ss T h
    cases ps with
    | nil => rfl
    | cons p ps =>
      cases p with
      | nil =>
        cases ss with
        | nil => rfl
        | cons s ss => obtain ⟨v, H⟩ := s; simp only [chkRun, List.all_nil, Bool.true_and]; exact ih _ _ _ h
      | cons q p => simp [allNil] at h
def kDraw1 (l : List AOper) (chk : List (List Nat)) : K := fun T H => match atrS tb call l T H with
  | some (T', H', ss) => bif allNil chk then some (.normal, T', H') else bif chkRun tb (H :: ss.map (·.2)) l chk ss T then some (.normal, T', H') else none
  | none => none
theorem kDraw1_eq (l : List AOper) (chk : List (List Nat)) (T : Tr AVal) (H : AHeap) : kDraw1 tb call l chk T H = adraw tb call l chk T H := by
  simp only [kDraw1, adraw, atrS_eq tb call l T H 0]
  cases atrace tb call l T H with
  | none => rfl
  | some ss =>
    simp only
    cases hn : allNil chk with
    | true => rw [chk_nil tb l chk ss T hn]; rfl
    | false => rfl
def hasNew : List AOper → Bool
  | [] => false
  | o :: r => match o.op with
    | .new _ => true
    | _ => hasNew r
theorem noNew : ∀ (l : List AOper), hasNew l = false → ∀ (b : Nat) (H : AHeap), claims b l = l ∧ reserves H l = H
  | [], _, b, H => ⟨rfl, rfl⟩
  | o :: r, h, b, H => by
    obtain ⟨d, op, g⟩ := o
    cases op <;> simp only [hasNew, Bool.true_eq_false] at h <;> exact ⟨by simp only [claims, (noNew r h b H).1], by simp only [reserves, (noNew r h b H).2]⟩
def claimS (b : Nat) : List AOper → List AOper
  | [] => []
  | o :: r => match o.op with
    | .new z => fN b fun b => ⟨o.dst, .claim b z, o.guard⟩ :: claimS (b + 1) r
    | _ => o :: claimS b r
theorem claimS_eq : ∀ (l : List AOper) (b : Nat), claimS b l = claims b l
  | [], _ => rfl
  | o :: r, b => by
    obtain ⟨d, op, g⟩ := o
    cases op <;> simp only [claimS, claims, fN_eq, claimS_eq r, toClaim]
def kDraw (l : List AOper) (chk : List (List Nat)) : K := fun T H =>
  bif hasNew l then fH (reserves H l) fun H' => fN H.next fun b => kDraw1 tb call (claimS b l) chk T H' else kDraw1 tb call l chk T H
theorem kDraw_eq (n : Nat) (l : List AOper) (chk : List (List Nat)) : kDraw tb call l chk = aexec tb call n (.draw l chk) := by
  funext T H
  simp only [kDraw, aexec, fH_eq, fN_eq, claimS_eq, kDraw1_eq]
  cases hn : hasNew l with
  | true => rfl
  | false => rw [(noNew l hn H.next H).1, (noNew l hn H.next H).2]; rfl
def kSeq (a b : K) : K := fun T H => match a T H with
  | some (.normal, T', H') => b T' H'
  | some (e, T', H') => some (e, T', H')
  | none => none
def kCond (x : Opd) (a b : K) : K := fun T H => match ev T x with
  | .bool true => a T H
  | .bool false => b T H
  | _ => none
def kBlock (id : Nat) (c : K) : K := fun T H => match c T H with
  | some (.exit j, T', H') => bif Nat.beq j id then some (.normal, T', H') else some (.exit j, T', H')
  | some (e, T', H') => some (e, T', H')
  | none => none
def kLoop (n : Nat) (c : K) : K := fun T H => aloop c n T H
def kExit (id : Nat) : K := fun T H => some (.exit id, T, H)
def kRet : K := fun T H => some (.ret, T, H)
def sCode (n : Nat) : ACode → K
  | .skip => oEnd
  | .reg l => sOpers tb call l
  | .draw l chk => kDraw tb call l chk
  | .seq a b => kSeq (sCode n a) (sCode n b)
  | .cond c a b => kCond c (sCode n a) (sCode n b)
  | .block i c => kBlock i (sCode n c)
  | .loop c => kLoop n (sCode n c)
  | .exit i => kExit i
  | .ret => kRet

theorem vvK {x : Option AVal} {H : AHeap} {d : Option Nat} {k : K} {T : Tr AVal} : (match vv H x with
    | some (.val v, H') => k (aput T d v) H'
    | some (.enter f args, H') => match call f args H' with
      | some (v, H'') => k (aput T d v) H''
      | none => none
    | none => none) = match x with | some v => k (aput T d v) H | none => none := by
  cases x <;> rfl
theorem sOp_eq (d : Option Nat) (o : AOp) (k : K) (T : Tr AVal) (H : AHeap) : sOp tb call d o k T H = match aop tb T H o with
    | some (.val v, H') => k (aput T d v) H'
    | some (.enter f args, H') => match call f args H' with
      | some (v, H'') => k (aput T d v) H''
      | none => none
    | none => none := by
  cases o
  case mv x => simp only [sOp, oMv, fV1_eq, aputS_eq, aop]
  case store n a x => simp only [sOp, oSt, fH_eq, aputS_eq, aop]; cases Go.Abs.oStore n H (ev T a) (ev T x) <;> rfl
  case load g n x => simp only [sOp, oLd, fV_eq, aputS_eq, aop, vvK]
  case call f l =>
    simp only [sOp, oCall, fLV_eq, fH_eq, fV_eq, aputS_eq, aop]
    cases tb f <;> rfl
  all_goals first
    | (simp only [sOp, oVal, bF_eq, fV_eq, aputS_eq, aop, vvK]; done)
    | (simp only [sOp, oGen, fLV_eq, fH_eq, fV_eq, aputS_eq]; done)
    | (simp only [sOp, oGen, fLV_eq, fH_eq, fV_eq, aputS_eq]; rfl)
theorem sOper_eq (o : AOper) (k : K) (T : Tr AVal) (H : AHeap) : sOper tb call o k T H = bif gOK T o.guard then (match aop tb T H o.op with
    | some (.val v, H') => k (aput T o.dst v) H'
    | some (.enter f args, H') => match call f args H' with
      | some (v, H'') => k (aput T o.dst v) H''
      | none => none
    | none => none) else k (aput T o.dst undefA) H := by
  obtain ⟨d, op, g⟩ := o
  cases g with
  | none => simp only [sOper, sOp_eq, gOK, cond_true]
  | some g =>
    obtain ⟨t, b⟩ := g
    simp only [sOper, oG, sOp_eq, aputS_eq]
theorem sOpers_eq : ∀ (l : List AOper) (T : Tr AVal) (H : AHeap), sOpers tb call l T H = match aregs tb call l T H with
    | some (T', H') => some (.normal, T', H')
    | none => none := by
  intro l
  induction l with
  | nil => intro T H; rfl
  | cons o r ih =>
    intro T H
    simp only [sOpers, sOper_eq, aregs, ih]
    cases gOK T o.guard with
    | false => rfl
    | true =>
      simp only [cond_true]
      cases aop tb T H o.op with
      | none => rfl
      | some p =>
        obtain ⟨nx, H'⟩ := p
        cases nx with
        | val v => rfl
        | enter f args =>
          simp only
          cases call f args H' with
          | none => rfl
          | some q => rfl
theorem sCode_eq (n : Nat) : ∀ c : ACode, sCode tb call n c = aexec tb call n c := by
  intro c
  induction c with
  | skip => rfl
  | reg ops => funext T H; simp only [sCode, aexec, sOpers_eq]; rfl
  | draw l chk => exact kDraw_eq tb call n l chk
  | seq a b iha ihb => funext T H; simp only [sCode, kSeq, aexec, iha, ihb]; rfl
  | cond c a b iha ihb => funext T H; simp only [sCode, kCond, aexec, iha, ihb]; rfl
  | block i c ih => funext T H; simp only [sCode, kBlock, aexec, ih]; rfl
  | loop c ih => funext T H; simp only [sCode, kLoop, aexec, ih]
  | exit i => rfl
  | ret => rfl
end

def putArgsS {α : Type} : List AVal → Nat → Tr AVal → (Tr AVal → α) → α
  | [], _, T, f => f T
  | x :: r, i, T, f => fT (Tr.setS x (i + 1) T i) fun T => putArgsS r (i + 1) T f
theorem putArgsS_eq {α : Type} : ∀ (l : List AVal) (i : Nat) (T : Tr AVal) (f : Tr AVal → α), putArgsS l i T f = f (putArgs l i T)
  | [], _, _, _ => rfl
  | x :: r, i, T, f => by simp only [putArgsS, putArgs, fT_eq, Tr.setS_eq, putArgsS_eq r]; rfl

structure SFn where
  nt : Nat
  body : (FuncId → Bool) → CallF → Nat → K
  res : List ARes
def shFn (f : AFn) : SFn := ⟨f.nt, fun tb call n => sCode tb call n f.body, f.res⟩
def Tr.map {α β : Type} (f : α → β) : Tr α → Tr β
  | .e => .e
  | .n l v r => .n (l.map f) (match v with | some v => some (f v) | none => none) (r.map f)
theorem Tr.get_map {α β : Type} (f : α → β) : ∀ (t : Tr α) (k : Nat), (t.map f).get k = match t.get k with | some v => some (f v) | none => none
  | .e, _ => rfl
  | .n l v r, k => by
    simp only [Tr.map, Tr.get, Tr.get_map f l, Tr.get_map f r]
    cases Nat.beq k 0 <;> cases Nat.beq (k % 2) 1 <;> rfl

def scall (tab : Tr SFn) : Nat → CallF
  | 0, _, _, _ => none
  | n + 1, f, args, H => match tab.get f with
    | some fn => bif Nat.ble args.length fn.nt then
        putArgsS args 0 .e fun T => match fn.body (fun f => match tab.get f with | some _ => true | none => false) (scall tab n) n T H with
        | some (.exit _, _, _) => none
        | some (_, T, H') => match ares T H' fn.res with
          | some l => some (aresV l, H')
          | none => none
        | none => none
      else none
    | none => none
theorem scall_eq (tab : Tr AFn) : ∀ n, scall (tab.map shFn) n = acall tab n := by
  intro n
  induction n with
  | zero => rfl
  | succ n ih =>
    funext f args H
    have ht : (fun f => match (tab.map shFn).get f with | some _ => true | none => false) = fun f => match tab.get f with | some _ => true | none => false := by
      funext f; rw [Tr.get_map]; cases tab.get f <;> rfl
    simp only [scall, acall, putArgsS_eq, ih]
    rw [ht, Tr.get_map]
    cases tab.get f with
    | none => rfl
    | some fn => simp only [shFn, sCode_eq]; rfl
end Go.Abs
