/- Part of a proof (H0 HN0 H1 H2 H3 H4); no condition. -/
import Derived.Shelf.Unicode.CaseTo
import Derived.Shelf.Unicode.DecodeSlow
import Derived.Shelf.Strconv.Itoa3
import Derived.Lib.MapU
import Derived.Lib.IndexMore
import Derived.Test.YticgfaajkcdfaaaGreatDoorP7
import Derived.Test.YticgfaajkcdfaaaGreatDoorP8
set_option linter.unusedSimpArgs false
set_option linter.unusedVariables false
set_option linter.unnecessarySimpa false
namespace Go.Proofs.Ht
open Go.Abs Go.Abs.S
abbrev Bs := List UInt8
structure Rq where
  m : Bs
  t : Bs
  hs : List (Bs × Bs)
  body : Bs
  close : Bool
structure PS where
  st : Nat
  fault : Nat
  line : Bs
  blank : Bool
  now : Rq
  need : Nat
  trailers : Nat
  fed : Nat
def Rq.none : Rq := ⟨[], [], [], [], false⟩
def PS.zero : PS := ⟨0, 0, [], false, Rq.none, 0, 0, 0⟩
def PS.reset (s : PS) (k : Nat) : PS := ⟨k, s.fault, [], false, Rq.none, 0, 0, 0⟩
def digB (b : UInt8) : Bool := decide (48 ≤ b.toNat) && decide (b.toNat ≤ 57)
def hexB (b : UInt8) : Bool := digB b || ((decide (97 ≤ b.toNat) && decide (b.toNat ≤ 102)) || (decide (65 ≤ b.toNat) && decide (b.toNat ≤ 70)))
def hexV (b : UInt8) : Nat := if digB b then b.toNat - 48 else if 97 ≤ b.toNat then b.toNat - 87 else b.toNat - 55
def tcL : Bs := [33, 35, 36, 37, 38, 39, 42, 43, 45, 46, 94, 95, 96, 124, 126]
def tch (b : UInt8) : Bool := digB b || (((decide (97 ≤ b.toNat) && decide (b.toNat ≤ 122)) || (decide (65 ≤ b.toNat) && decide (b.toNat ≤ 90))) || decide (b ∈ tcL))
def valB (b : UInt8) : Bool := decide (b.toNat = 9) || (decide (32 ≤ b.toNat) && !decide (b.toNat = 127))
def blk (b : UInt8) : Bool := decide (b.toNat = 32) || decide (b.toNat = 9)
def tarB (b : UInt8) : Bool := decide (33 ≤ b.toNat) && decide (b.toNat ≤ 126)
def no13 (b : UInt8) : Bool := !decide (b.toNat = 13)
def lowB (b : UInt8) : UInt8 := if 65 ≤ b.toNat ∧ b.toNat ≤ 90 then b + 32 else b
def low (s : Bs) : Bs := s.map lowB
def token (s : Bs) : Bool := !decide (s = []) && s.all tch
def fnd (s : Bs) (c : UInt8) : Nat := s.findIdx (· == c)
def cutF (s : Bs) (c : UInt8) : Bs × Bs × Bool := if fnd s c < s.length then (s.take (fnd s c), s.drop (fnd s c + 1), true) else (s, [], false)
def trimF (s : Bs) : Bs := ((s.dropWhile blk).reverse.dropWhile blk).reverse
def headerF (s : Bs) : Option (Bs × Bs) :=
  if (!(cutF s 58).2.2 || !token (cutF s 58).1) = true then Option.none
  else if (trimF (cutF s 58).2.1).all valB then some (low (cutF s 58).1, trimF (cutF s 58).2.1) else Option.none
def decF (s : Bs) : Nat := s.foldl (fun n b => n * 10 + (b.toNat - 48)) 0
def hexF (s : Bs) : Nat := s.foldl (fun n b => n * 16 + hexV b) 0
def numberF (s : Bs) : Option Nat := if s.length < 1 ∨ 9 < s.length ∨ s.all digB = false then Option.none else some (decF s)
def sepR (r : Nat) : Bool := decide (r = 44) || (decide (r = 32) || decide (r = 9))
def rune (s : Bs) (pos : Nat) : Option (Nat × Nat) := match nthB s pos with
  | Option.none => Option.none
  | some c => bif Nat.ble 128 c.toNat then some (Utf8.decode (strOf s) pos) else some (c.toNat, 1)
def spans (s : Bs) : Nat → Nat → Option Nat → List (Nat × Nat) → Option Nat × List (Nat × Nat)
  | 0, _, b, l => (b, l)
  | f + 1, pos, b, l => match rune s pos with
    | Option.none => (b, l)
    | some (r, n) => if sepR r then (match b with
        | some i => spans s f (pos + n) Option.none (l ++ [(i, pos)])
        | Option.none => spans s f (pos + n) Option.none l)
      else (match b with
        | some i => spans s f (pos + n) (some i) l
        | Option.none => spans s f (pos + n) (some pos) l)
def fields (s : Bs) : List (Nat × Nat) := match spans s (s.length + 1) 0 Option.none [] with
  | (some i, l) => l ++ [(i, s.length)]
  | (Option.none, l) => l
def closeW : Bs := [99, 108, 111, 115, 101]
def closesF (s : Bs) : Bool := (fields s).any fun p => decide (low ((s.drop p.1).take (p.2 - p.1)) = closeW)
def valuesF (hs : List (Bs × Bs)) (n : Bs) : List Bs := (hs.filter fun h => decide (h.1 = n)).map (·.2)
def clN : Bs := [99, 111, 110, 116, 101, 110, 116, 45, 108, 101, 110, 103, 116, 104]
def teN : Bs := [116, 114, 97, 110, 115, 102, 101, 114, 45, 101, 110, 99, 111, 100, 105, 110, 103]
def hostN : Bs := [104, 111, 115, 116]
def conN : Bs := [99, 111, 110, 110, 101, 99, 116, 105, 111, 110]
def chW : Bs := [99, 104, 117, 110, 107, 101, 100]
def verW : Bs := [72, 84, 84, 80, 47, 49, 46, 49]
abbrev Out := PS × List Rq × Nat
def wholeF (s : PS) : PS × List Rq := (s.reset (if s.now.close then 8 else 0), [s.now])
def requestF (s : PS) (l : Bs) (right : Bool) : PS × Nat :=
  if right = false then (s, 20)
  else if l = [] then (if s.blank then (s, 20) else ({ s with blank := true }, 0))
  else
    let a := cutF l 32
    if (!a.2.2 || !token a.1) = true then (s, 20)
    else
      let b := cutF a.2.1 32
      if b.2.2 = false ∨ b.2.1 ≠ verW ∨ b.1 = [] ∨ b.1.head? ≠ some 47 then (s, 20)
      else if b.1.all tarB = false then (s, 20)
      else ({ s with now := { s.now with m := a.1, t := b.1 }, st := 1 }, 0)
def headersEndF (s : PS) : Out :=
  let lengths := valuesF s.now.hs clN
  let codings := valuesF s.now.hs teN
  if (valuesF s.now.hs hostN).length ≠ 1 ∨ 1 < lengths.length + codings.length then (s, [], 21)
  else if codings.length = 1 ∧ low (codings.headD []) ≠ chW then (s, [], 21)
  else
    let go := fun (n : Nat) =>
      let s' : PS := { s with now := { s.now with close := (valuesF s.now.hs conN).foldl (fun c v => c || closesF v) s.now.close }, need := n }
      if codings.length = 1 then ({ s' with st := 3 }, [], 0)
      else if 0 < n then ({ s' with st := 2 }, [], 0)
      else ((wholeF s').1, (wholeF s').2, 0)
    if lengths.length = 1 then (match numberF (lengths.headD []) with
      | Option.none => (s, [], 21)
      | some n => if 65536 < n then (s, [], 3) else go n)
    else go 0
def headerLineF (s : PS) (l : Bs) (right : Bool) : Out :=
  if l ≠ [] ∧ 40 ≤ s.now.hs.length then (s, [], 3)
  else if right = false then (s, [], 21)
  else if l = [] then headersEndF s
  else match headerF l with
    | Option.none => (s, [], 21)
    | some h => ({ s with now := { s.now with hs := s.now.hs ++ [h] } }, [], 0)
def trailerF (s : PS) (l : Bs) (right : Bool) : Out :=
  if l ≠ [] ∧ 40 ≤ s.trailers then (s, [], 3)
  else if right = false then (s, [], 21)
  else if l = [] then ((wholeF s).1, (wholeF s).2, 0)
  else match headerF l with
    | Option.none => (s, [], 21)
    | some _ => ({ s with trailers := s.trailers + 1 }, [], 0)
def chunkF (s : PS) (l : Bs) (right : Bool) : PS × Nat :=
  if right = false then (s, 22)
  else
    let a := cutF l 59
    if a.1.length < 1 ∨ 7 < a.1.length ∨ a.1.all hexB = false ∨ a.2.1.all valB = false then (s, 22)
    else if hexF a.1 = 0 then ({ s with st := 7 }, 0)
    else if 65536 < s.now.body.length + hexF a.1 then (s, 3)
    else ({ s with need := hexF a.1, st := 4 }, 0)
def wantF (s : PS) : Nat := if s.st = 0 then 20 else if s.st = 3 then 22 else 21
def endedF (s0 : PS) : Out :=
  let l0 := s0.line
  let s := { s0 with line := [] }
  let whole := decide (l0.getLast? = some 13)
  let l := if whole then l0.take (l0.length - 1) else l0
  if 2000 < l.length then (s, [], 3)
  else if whole = false then (s, [], wantF s)
  else
    let right := l.all no13
    if s.st = 0 then ((requestF s l right).1, [], (requestF s l right).2)
    else if s.st = 1 then headerLineF s l right
    else if s.st = 3 then ((chunkF s l right).1, [], (chunkF s l right).2)
    else trailerF s l right
def takeF (s : PS) (c : UInt8) : Out :=
  if s.st = 2 ∨ s.st = 4 then
    let s' := { s with now := { s.now with body := s.now.body ++ [c] }, need := s.need - 1 }
    if 0 < s'.need then (s', [], 0)
    else if s.st = 2 then ((wholeF s').1, (wholeF s').2, 0)
    else ({ s' with st := 5 }, [], 0)
  else if s.st = 5 then (if c.toNat ≠ 13 then (s, [], 22) else ({ s with st := 6 }, [], 0))
  else if s.st = 6 then (if c.toNat ≠ 10 then (s, [], 22) else ({ s with st := 3 }, [], 0))
  else if c.toNat = 10 then endedF s
  else if 2001 < s.line.length + 1 then ({ s with line := s.line ++ [c] }, [], 3)
  else ({ s with line := s.line ++ [c] }, [], 0)
def stepF (s : PS) (c : UInt8) : PS × List Rq :=
  if s.st = 8 then (s, [])
  else
    let o := takeF { s with fed := s.fed + 1 } c
    if o.2.2 = 0 then (o.1, o.2.1) else ({ o.1 with fault := o.2.2 }.reset 8, o.2.1)
def feedF : PS → Bs → PS × List Rq
  | s, [] => (s, [])
  | s, c :: r => ((feedF (stepF s c).1 r).1, (stepF s c).2 ++ (feedF (stepF s c).1 r).2)
theorem feed_app (s : PS) (a b : Bs) : feedF s (a ++ b) = ((feedF (feedF s a).1 b).1, (feedF s a).2 ++ (feedF (feedF s a).1 b).2) := by
  induction a generalizing s with
  | nil => simp [feedF]
  | cons c r ih => simp only [List.cons_append, feedF, ih, List.append_assoc]
theorem feed_one (s : PS) (c : UInt8) : feedF s [c] = stepF s c := by simp [feedF]
structure Bd (k : Nat) (s : PS) : Prop where
  st : s.st ≤ 8
  fault : s.fault ≤ 100
  line : s.line.length ≤ k
  m : s.now.m.length ≤ k
  t : s.now.t.length ≤ k
  body : s.now.body.length ≤ k
  hs : s.now.hs.length ≤ k
  he : ∀ h ∈ s.now.hs, h.1.length ≤ k ∧ h.2.length ≤ k
  trailers : s.trailers ≤ k
  fed : s.fed ≤ k
  need : s.need ≤ 300000000
  pos : s.st = 2 ∨ s.st = 4 → 0 < s.need
end Go.Proofs.Ht
namespace Go.Proofs.Ht
open Go.Abs Go.Abs.S Go.Proofs Go.Shelf Go.Lib
structure Prem (w : World) : Prop where
  cas : CaseVar 0 caseA w
  utf : Utf8Tabs 2 3 w
  pow : TabIs Tryz.prog w "internal/strconv.uint64pow10" .u64 pow10Tab
  len : ∃ m : Int, w.cell? ⟨1, 0, none⟩ = some (.int .i64 m)
def GX (n : Nat) (H : AHeap) : Prop := n ≤ H.next ∧ ∀ H', Ext n H H' → ∀ Prot w0 ρ w, Rel Prot w0 ρ H' w → Prem w
theorem GX.ext {n : Nat} {H H' : AHeap} (h : GX n H) (e : Ext n H H') : GX n H' := ⟨Nat.le_trans h.1 e.next, fun H2 e2 => h.2 H2 (e.trans e2)⟩
theorem GX.fwd {n m : Nat} {H H' : AHeap} (h : GX n H) (e : Ext m H H') (hm : n ≤ m) : GX n H' := h.ext (e.less hm)
theorem GX.at {n : Nat} {H : AHeap} (h : GX n H) {Prot : Gh} {w0 : World} {ρ : Pl} {w : World} (R : Rel Prot w0 ρ H w) : Prem w := h.2 H (Ext.refl _ _) _ _ _ _ R
open Classical in
noncomputable def runX (f : Nat) (args : List AVal) (H : AHeap) : Option (AVal × AHeap) :=
  if f = 5 then (match args with
    | [.str s] => if (∃ n, GX n H) ∧ s.length ≤ 1000000000 then some (.str (toLowerD s), H) else none
    | _ => none)
  else if f = 24 then (match args with
    | [.int .i64 z] => if (∃ n, GX n H) ∧ -1000000000 ≤ z ∧ z ≤ 1000000000 then some (.str (itoa z), H) else none
    | _ => none)
  else if f = 25 then (match args with
    | [.str s, .str p] => if (∃ n, GX n H) ∧ s.length ≤ 1000000000 then some (.tuple [.str (Lib.cut s p).1, .str (Lib.cut s p).2.1, .bool (Lib.cut s p).2.2], H) else none
    | _ => none)
  else none
noncomputable def natX : ANat := ⟨fun f => Nat.beq f 5 || (Nat.beq f 24 || Nat.beq f 25), runX, fun _ => none⟩
theorem tolower_call {n : Nat} {H : AHeap} (h : GX n H) (s : Bs) (hs : s.length ≤ 1000000000) {K : AVal → AHeap → Prop} (hk : K (.str (toLowerD s)) H) : ACalls Tryz.prog natX 5 [.str s] H K :=
  acalls_nat rfl (by show runX 5 [.str s] H = _; simp only [runX]; rw [if_pos trivial, if_pos ⟨⟨n, h⟩, hs⟩]) hk
theorem itoa_call {n : Nat} {H : AHeap} (h : GX n H) (z : Int) (h1 : -1000000000 ≤ z) (h2 : z ≤ 1000000000) {K : AVal → AHeap → Prop} (hk : K (.str (itoa z)) H) : ACalls Tryz.prog natX 24 [.int .i64 z] H K :=
  acalls_nat rfl (by show runX 24 [.int .i64 z] H = _; simp only [runX]; rw [if_neg (by decide), if_pos trivial, if_pos ⟨⟨n, h⟩, h1, h2⟩]) hk
theorem scut_call {n : Nat} {H : AHeap} (h : GX n H) (s p : Bs) (hs : s.length ≤ 1000000000) {K : AVal → AHeap → Prop} (hk : K (.tuple [.str (Lib.cut s p).1, .str (Lib.cut s p).2.1, .bool (Lib.cut s p).2.2]) H) : ACalls Tryz.prog natX 25 [.str s, .str p] H K :=
  acalls_nat rfl (by show runX 25 [.str s, .str p] H = _; simp only [runX]; rw [if_neg (by decide), if_neg (by decide), if_pos trivial, if_pos ⟨⟨n, h⟩, hs⟩]) hk
end Go.Proofs.Ht
namespace Go.Proofs.Ht
open Go.Abs Go.Abs.S
set_option linter.unusedSimpArgs false
abbrev by8 (c : UInt8) : AVal := .int .u8 (c.toNat : Int)
def Says (g : Nat) (p : UInt8 → Bool) : Prop := ∀ (c : UInt8) (H : AHeap), ACalls Tryz.prog natX g [by8 c] H fun v H' => v = .bool (p c) ∧ H = H'
theorem digB_int (c : UInt8) : digB c = (decide ((48 : Int) ≤ c.toNat) && decide ((c.toNat : Int) ≤ 57)) := by
  rw [Bool.eq_iff_iff]; simp only [digB, Bool.and_eq_true, decide_eq_true_eq]; omega
theorem valB_int (c : UInt8) : valB c = (decide ((c.toNat : Int) = 9) || (decide ((32 : Int) ≤ c.toNat) && !decide ((c.toNat : Int) = 127))) := by
  rw [Bool.eq_iff_iff]; simp only [valB, Bool.or_eq_true, Bool.and_eq_true, Bool.not_eq_true', decide_eq_true_eq, decide_eq_false_iff_not]; omega
theorem blk_int (c : UInt8) : blk c = (decide ((c.toNat : Int) = 32) || decide ((c.toNat : Int) = 9)) := by
  rw [Bool.eq_iff_iff]; simp only [blk, Bool.or_eq_true, decide_eq_true_eq]; omega
theorem tarB_int (c : UInt8) : tarB c = (decide ((33 : Int) ≤ c.toNat) && decide ((c.toNat : Int) ≤ 126)) := by
  rw [Bool.eq_iff_iff]; simp only [tarB, Bool.and_eq_true, decide_eq_true_eq]; omega
theorem no13_int (c : UInt8) : no13 c = !decide ((c.toNat : Int) = 13) := by
  rw [Bool.eq_iff_iff]; simp only [no13, Bool.not_eq_true', decide_eq_false_iff_not]; omega
theorem says_dig : Says 107 digB := by
  intro c H
  refine acalls_ofN rfl za107 rfl ?_
  rw [digB_int]
  by_cases h1 : (48 : Int) ≤ (c.toNat : Int) <;> by_cases h2 : (c.toNat : Int) ≤ 57
  all_goals
    simp only [c107, sA, Int.reduceNegSucc, reduceCtorEq, Nat.reduceEqDiff, ↓reduceIte, Nat.reduceAdd, Int.reduceEq, Int.reduceLT, Int.reduceLE, Nat.reduceLT, h1, h2]
    exact ⟨by simp, (by first | with_reducible rfl | trivial | rfl | assumption)⟩
theorem says_val : Says 97 valB := by
  intro c H
  refine acalls_ofN rfl za97 rfl ?_
  rw [valB_int]
  by_cases h1 : (c.toNat : Int) = 9 <;> by_cases h2 : (32 : Int) ≤ (c.toNat : Int) <;> by_cases h3 : (c.toNat : Int) = 127
  all_goals first
    | (exfalso; omega)
    | (simp only [c97, sA, Int.reduceNegSucc, reduceCtorEq, Nat.reduceEqDiff, ↓reduceIte, Nat.reduceAdd, Int.reduceEq, Int.reduceLT, Int.reduceLE, Nat.reduceLT, h1, h2, h3]
       exact ⟨by simp, (by first | with_reducible rfl | trivial | rfl | assumption)⟩)
theorem says_blk : Says 110 blk := by
  intro c H
  refine acalls_ofN rfl za110 rfl ?_
  rw [blk_int]
  by_cases h1 : (c.toNat : Int) = 32 <;> by_cases h2 : (c.toNat : Int) = 9
  all_goals first
    | (exfalso; omega)
    | (simp only [c110, sA, Int.reduceNegSucc, reduceCtorEq, Nat.reduceEqDiff, ↓reduceIte, Nat.reduceAdd, Int.reduceEq, Int.reduceLT, Int.reduceLE, Nat.reduceLT, h1, h2]
       exact ⟨by simp, (by first | with_reducible rfl | trivial | rfl | assumption)⟩)
theorem says_tar : Says 93 tarB := by
  intro c H
  refine acalls_ofN rfl za93 rfl ?_
  rw [tarB_int]
  by_cases h1 : (33 : Int) ≤ (c.toNat : Int) <;> by_cases h2 : (c.toNat : Int) ≤ 126
  all_goals
    simp only [c93, sA, Int.reduceNegSucc, reduceCtorEq, Nat.reduceEqDiff, ↓reduceIte, Nat.reduceAdd, Int.reduceEq, Int.reduceLT, Int.reduceLE, Nat.reduceLT, h1, h2]
    exact ⟨by simp, (by first | with_reducible rfl | trivial | rfl | assumption)⟩
theorem says_no13 : Says 78 no13 := by
  intro c H
  refine acalls_ofN rfl za78 rfl ?_
  rw [no13_int]
  by_cases h1 : (c.toNat : Int) = 13
  all_goals
    simp only [c78, sA, Int.reduceNegSucc, reduceCtorEq, Nat.reduceEqDiff, ↓reduceIte, Nat.reduceAdd, Int.reduceEq, Int.reduceLT, Int.reduceLE, Nat.reduceLT, h1]
    exact ⟨by simp, (by first | with_reducible rfl | trivial | rfl | assumption)⟩
theorem hexB_int (c : UInt8) : hexB c = (digB c || ((decide ((97 : Int) ≤ c.toNat) && decide ((c.toNat : Int) ≤ 102)) || (decide ((65 : Int) ≤ c.toNat) && decide ((c.toNat : Int) ≤ 70)))) := by
  rw [Bool.eq_iff_iff]; simp only [hexB, Bool.or_eq_true, Bool.and_eq_true, decide_eq_true_eq]
  have : ∀ a b : Nat, ((a : Int) ≤ (b : Int)) ↔ a ≤ b := fun a b => by omega
  constructor <;> (intro h; rcases h with h | h | h; exact .inl h; exact .inr (.inl (by omega)); exact .inr (.inr (by omega)))
theorem says_hex : Says 96 hexB := by
  intro c H
  refine acalls_ofN rfl za96 rfl ?_
  rw [hexB_int]
  by_cases h1 : (97 : Int) ≤ (c.toNat : Int) <;> by_cases h2 : (c.toNat : Int) ≤ 102 <;> by_cases h3 : (65 : Int) ≤ (c.toNat : Int) <;> by_cases h4 : (c.toNat : Int) ≤ 70
  all_goals first
    | (exfalso; omega)
    | (simp only [c96, sA, Int.reduceNegSucc, reduceCtorEq, Nat.reduceEqDiff, ↓reduceIte, Nat.reduceAdd, Int.reduceEq, Int.reduceLT, Int.reduceLE, Nat.reduceLT]
       refine (says_dig c H).mono ?_
       rintro v _ ⟨rfl, rfl⟩
       cases digB c <;> (simp only [sA, Int.reduceNegSucc, reduceCtorEq, Nat.reduceEqDiff, ↓reduceIte, Nat.reduceAdd, Int.reduceEq, Int.reduceLT, Int.reduceLE, Nat.reduceLT, h1, h2, h3, h4]; exact ⟨by simp, (by first | with_reducible rfl | trivial | rfl | assumption)⟩))
theorem ibF_fnd (c : UInt8) (s : Bs) (n : Nat) : ibF c s n = if fnd s c < s.length then ((n + fnd s c : Nat) : Int) else -1 := by
  induction s generalizing n with
  | nil => rfl
  | cons b r ih =>
    rw [ibF]
    by_cases h : b = c
    · subst h
      have e : Nat.beq b.toNat b.toNat = true := Nat.beq_refl _
      have e2 : fnd (b :: r) b = 0 := by simp [fnd, List.findIdx_cons]
      rw [e, cond_true, e2, if_pos (by simp)]; rfl
    · have e : Nat.beq b.toNat c.toNat = false := by
        cases hb : Nat.beq b.toNat c.toNat with
        | false => rfl
        | true => exact absurd (UInt8.toNat_inj.1 (Nat.eq_of_beq_eq_true hb)) h
      have e2 : fnd (b :: r) c = fnd r c + 1 := by
        have : (b == c) = false := by simpa using h
        simp [fnd, List.findIdx_cons, this]
      rw [e, cond_false, ih, e2]
      simp only [List.length_cons, Nat.add_lt_add_iff_right]
      split
      · congr 1; omega
      · rfl
theorem fnd_mem (s : Bs) (c : UInt8) : fnd s c < s.length ↔ c ∈ s := by
  unfold fnd
  rw [List.findIdx_lt_length]
  constructor
  · rintro ⟨x, hx, he⟩
    have : x = c := by simpa using he
    rw [← this]; exact hx
  · intro h; exact ⟨c, h, by simp⟩
theorem ib_spec (s : Bs) (c : UInt8) {H : AHeap} : ACalls Tryz.prog natX 88 [.str s, by8 c] H fun v H' => v = .int .i64 (ibF c s 0) ∧ H = H' := by
  refine acalls_ofN rfl za88 rfl ?_
  simp only [c88, sA, Int.reduceNegSucc, reduceCtorEq, Nat.reduceEqDiff, ↓reduceIte, Nat.reduceAdd, Int.reduceEq, Int.reduceLT, Int.reduceLE, Nat.reduceLT]
  have key : ACalls Tryz.prog natX 72 [.str s, by8 c] H fun v H' => v = .int .i64 (ibF c s 0) ∧ H = H' := by
    refine acalls_ofN rfl za72 rfl ?_
    have e : aPf .ibs [.str s, by8 c] = some (.int .i64 (ibF c s 0)) := by
      have : aPf .ibs [.str s, by8 c] = some (.int .i64 (ibF c.toNat.toUInt8 s 0)) := rfl
      rw [this]
      congr 3
      exact UInt8.ofNat_toNat
    simp only [c72, sA, Int.reduceNegSucc, reduceCtorEq, Nat.reduceEqDiff, ↓reduceIte, Nat.reduceAdd, Int.reduceEq, Int.reduceLT, Int.reduceLE, Nat.reduceLT, e]
    exact ⟨by trivial, by trivial⟩
  refine key.mono ?_
  rintro v _ ⟨rfl, rfl⟩
  simp only [sA, Int.reduceNegSucc, reduceCtorEq, Nat.reduceEqDiff, ↓reduceIte, Nat.reduceAdd, Int.reduceEq, Int.reduceLT, Int.reduceLE, Nat.reduceLT]
  exact ⟨(by first | with_reducible rfl | trivial | rfl | assumption), (by first | with_reducible rfl | trivial | rfl | assumption)⟩
theorem tch_int (c : UInt8) : tch c = (digB c || (((decide ((97 : Int) ≤ c.toNat) && decide ((c.toNat : Int) ≤ 122)) || (decide ((65 : Int) ≤ c.toNat) && decide ((c.toNat : Int) ≤ 90))) || decide ((0 : Int) ≤ ibF c tcL 0))) := by
  have h0 : ((0 : Int) ≤ ibF c tcL 0) ↔ c ∈ tcL := by
    rw [ibF_fnd, ← fnd_mem]
    split
    · rename_i h; exact ⟨fun _ => h, fun _ => by omega⟩
    · rename_i h; exact ⟨fun h' => absurd h' (by omega), fun h' => absurd h' h⟩
  have h1 : decide ((0 : Int) ≤ ibF c tcL 0) = decide (c ∈ tcL) := by rw [decide_eq_decide]; exact h0
  have h2 : ((decide ((97 : Int) ≤ c.toNat) && decide ((c.toNat : Int) ≤ 122)) || (decide ((65 : Int) ≤ c.toNat) && decide ((c.toNat : Int) ≤ 90))) = ((decide (97 ≤ c.toNat) && decide (c.toNat ≤ 122)) || (decide (65 ≤ c.toNat) && decide (c.toNat ≤ 90))) := by
    rw [Bool.eq_iff_iff]; simp only [Bool.or_eq_true, Bool.and_eq_true, decide_eq_true_eq]; omega
  rw [h1, h2]; rfl
theorem says_tch : Says 101 tch := by
  intro c H
  refine acalls_ofN rfl za101 rfl ?_
  rw [tch_int]
  have ib : ∀ {H : AHeap}, ACalls Tryz.prog natX 88 [.str [33, 35, 36, 37, 38, 39, 42, 43, 45, 46, 94, 95, 96, 124, 126], by8 c] H fun v H' => v = .int .i64 (ibF c tcL 0) ∧ H = H' := ib_spec tcL c
  by_cases h1 : (97 : Int) ≤ (c.toNat : Int) <;> by_cases h2 : (c.toNat : Int) ≤ 122 <;> by_cases h3 : (65 : Int) ≤ (c.toNat : Int) <;> by_cases h4 : (c.toNat : Int) ≤ 90
  all_goals first
    | (exfalso; omega)
    | (simp only [c101, sA, Int.reduceNegSucc, reduceCtorEq, Nat.reduceEqDiff, ↓reduceIte, Nat.reduceAdd, Int.reduceEq, Int.reduceLT, Int.reduceLE, Nat.reduceLT, h1, h2, h3, h4]
       refine (says_dig c H).mono ?_
       rintro v _ ⟨rfl, rfl⟩
       cases digB c <;> first
         | (simp only [sA, Int.reduceNegSucc, reduceCtorEq, Nat.reduceEqDiff, ↓reduceIte, Nat.reduceAdd, Int.reduceEq, Int.reduceLT, Int.reduceLE, Nat.reduceLT]; exact ⟨by simp, (by first | with_reducible rfl | trivial | rfl | assumption)⟩)
         | (simp only [sA, Int.reduceNegSucc, reduceCtorEq, Nat.reduceEqDiff, ↓reduceIte, Nat.reduceAdd, Int.reduceEq, Int.reduceLT, Int.reduceLE, Nat.reduceLT]
            refine ib.mono ?_
            rintro v _ ⟨rfl, rfl⟩
            simp only [sA, Int.reduceNegSucc, reduceCtorEq, Nat.reduceEqDiff, ↓reduceIte, Nat.reduceAdd, Int.reduceEq, Int.reduceLT, Int.reduceLE, Nat.reduceLT]
            exact ⟨by simp, (by first | with_reducible rfl | trivial | rfl | assumption)⟩))
theorem all_spec {g : Nat} {p : UInt8 → Bool} (hp : Says g p) {H : AHeap} (s : Bs) (hs : s.length ≤ 4611686018427387904) (hg : g < 1024 := by decide) :
    ACalls Tryz.prog natX 77 [.str s, .func (.func g) [] []] H fun v H' => v = .bool (s.all p) ∧ H = H' := by
  refine acalls_ofN rfl za77 rfl ?_
  simp only [c77, sA, Int.reduceNegSucc, reduceCtorEq, Nat.reduceEqDiff, ↓reduceIte, Nat.reduceAdd, Int.reduceEq, Int.reduceLT, Int.reduceLE, Nat.reduceLT]
  refine aw_loop (fun q (T : Env) H' => ∃ j : Nat, j ≤ s.length ∧ q = s.length - j ∧ T 0 = .str s ∧ T 1 = .func (.func g) [] [] ∧ T 7 = .int .i64 (s.length : Int) ∧ T 8 = .int .i64 (j : Int) ∧ (s.take j).all p = true ∧ H = H') s.length
    ⟨0, Nat.zero_le _, rfl, by simp only [sA, Int.reduceNegSucc, reduceCtorEq, Nat.reduceEqDiff, ↓reduceIte, Nat.reduceAdd, Int.reduceEq, Int.reduceLT, Int.reduceLE, Nat.reduceLT]; try rfl, by simp only [sA, Int.reduceNegSucc, reduceCtorEq, Nat.reduceEqDiff, ↓reduceIte, Nat.reduceAdd, Int.reduceEq, Int.reduceLT, Int.reduceLE, Nat.reduceLT]; try rfl, by simp only [sA, Int.reduceNegSucc, reduceCtorEq, Nat.reduceEqDiff, ↓reduceIte, Nat.reduceAdd, Int.reduceEq, Int.reduceLT, Int.reduceLE, Nat.reduceLT]; try rfl, by simp only [sA, Int.reduceNegSucc, reduceCtorEq, Nat.reduceEqDiff, ↓reduceIte, Nat.reduceAdd, Int.reduceEq, Int.reduceLT, Int.reduceLE, Nat.reduceLT]; try rfl, rfl, rfl⟩ ?_
  rintro q T _ ⟨j, hj, rfl, g0, g1, g7, g8, hA, rfl⟩
  by_cases hlt : j < s.length
  · have hlt' : (j : Int) < (s.length : Int) := by omega
    obtain ⟨c, hc⟩ := isSome_of_lt hlt
    simp only [sA, Int.reduceNegSucc, reduceCtorEq, Nat.reduceEqDiff, ↓reduceIte, Nat.reduceAdd, Int.reduceEq, Int.reduceLT, Int.reduceLE, Nat.reduceLT, g0, g1, g7, g8, hlt', str_idx hc, hg]
    refine (hp c H).mono ?_
    rintro v _ ⟨rfl, rfl⟩
    cases hpc : p c with
    | true =>
      simp only [sA, Int.reduceNegSucc, reduceCtorEq, Nat.reduceEqDiff, ↓reduceIte, Nat.reduceAdd, Int.reduceEq, Int.reduceLT, Int.reduceLE, Nat.reduceLT, g0, g1, g7, g8, wrap1 j (by omega)]
      refine ⟨_, by omega, j + 1, by omega, rfl, (by first | with_reducible rfl | trivial | rfl | assumption), (by first | with_reducible rfl | trivial | rfl | assumption), (by first | with_reducible rfl | trivial | rfl | assumption), (by first | with_reducible rfl | trivial | rfl | assumption), ?_, (by first | with_reducible rfl | trivial | rfl | assumption)⟩
      rw [List.take_add_one, hc, List.all_append, hA]; simp [hpc]
    | false =>
      simp only [sA, Int.reduceNegSucc, reduceCtorEq, Nat.reduceEqDiff, ↓reduceIte, Nat.reduceAdd, Int.reduceEq, Int.reduceLT, Int.reduceLE, Nat.reduceLT, g0, g1, g7, g8]
      refine ⟨?_, (by first | with_reducible rfl | trivial | rfl | assumption)⟩
      have : s.all p = false := by
        rw [Bool.eq_false_iff]
        intro h
        have := List.all_eq_true.1 h c (List.mem_of_getElem? hc)
        rw [hpc] at this; simp at this
      rw [this]
  · have hlt' : ¬ (j : Int) < (s.length : Int) := by omega
    simp only [sA, Int.reduceNegSucc, reduceCtorEq, Nat.reduceEqDiff, ↓reduceIte, Nat.reduceAdd, Int.reduceEq, Int.reduceLT, Int.reduceLE, Nat.reduceLT, g0, g1, g7, g8, hlt']
    refine ⟨?_, (by first | with_reducible rfl | trivial | rfl | assumption)⟩
    rw [List.take_of_length_le (by omega)] at hA
    rw [hA]
theorem cut_spec (s : Bs) (c : UInt8) (hs : s.length ≤ 4611686018427387904) {H : AHeap} : ACalls Tryz.prog natX 91 [.str s, by8 c] H fun v H' => v = .tuple [.str (cutF s c).1, .str (cutF s c).2.1, .bool (cutF s c).2.2] ∧ H = H' := by
  refine acalls_ofN rfl za91 rfl ?_
  simp only [c91, sA, Int.reduceNegSucc, reduceCtorEq, Nat.reduceEqDiff, ↓reduceIte, Nat.reduceAdd, Int.reduceEq, Int.reduceLT, Int.reduceLE, Nat.reduceLT]
  refine (ib_spec s c).mono ?_
  rintro v _ ⟨rfl, rfl⟩
  by_cases h : fnd s c < s.length
  · have e : ibF c s 0 = (fnd s c : Int) := by rw [ibF_fnd, if_pos h, Nat.zero_add]
    have hn : ¬ ((fnd s c : Int) < 0) := by omega
    simp only [sA, Int.reduceNegSucc, reduceCtorEq, Nat.reduceEqDiff, ↓reduceIte, Nat.reduceAdd, Int.reduceEq, Int.reduceLT, Int.reduceLE, Nat.reduceLT, e, hn, str_slH (Nat.le_of_lt h), wrap1 (fnd s c) (by omega), str_slL (show fnd s c + 1 ≤ s.length by omega)]
    exact ⟨by simp only [cutF, if_pos h], (by first | with_reducible rfl | trivial | rfl | assumption)⟩
  · have e : ibF c s 0 = -1 := by rw [ibF_fnd, if_neg h]
    have hn : (-1 : Int) < 0 := by omega
    simp only [sA, Int.reduceNegSucc, reduceCtorEq, Nat.reduceEqDiff, ↓reduceIte, Nat.reduceAdd, Int.reduceEq, Int.reduceLT, Int.reduceLE, Nat.reduceLT, e, hn]
    exact ⟨by simp only [cutF, if_neg h], (by first | with_reducible rfl | trivial | rfl | assumption)⟩
theorem token_spec (s : Bs) (hs : s.length ≤ 4611686018427387904) {H : AHeap} : ACalls Tryz.prog natX 92 [.str s] H fun v H' => v = .bool (token s) ∧ H = H' := by
  refine acalls_ofN rfl za92 rfl ?_
  by_cases h0 : s = []
  · subst h0
    simp only [c92, sA, Int.reduceNegSucc, reduceCtorEq, Nat.reduceEqDiff, ↓reduceIte, Nat.reduceAdd, Int.reduceEq, Int.reduceLT, Int.reduceLE, Nat.reduceLT]
    exact ⟨by simp [token], (by first | with_reducible rfl | trivial | rfl | assumption)⟩
  · simp only [c92, sA, Int.reduceNegSucc, reduceCtorEq, Nat.reduceEqDiff, ↓reduceIte, Nat.reduceAdd, Int.reduceEq, Int.reduceLT, Int.reduceLE, Nat.reduceLT, h0]
    refine (all_spec says_tch s hs).mono ?_
    rintro v _ ⟨rfl, rfl⟩
    simp only [sA, Int.reduceNegSucc, reduceCtorEq, Nat.reduceEqDiff, ↓reduceIte, Nat.reduceAdd, Int.reduceEq, Int.reduceLT, Int.reduceLE, Nat.reduceLT]
    exact ⟨by simp [token, h0], (by first | with_reducible rfl | trivial | rfl | assumption)⟩
end Go.Proofs.Ht
namespace Go.Proofs.Ht
open Go.Abs Go.Abs.S
set_option linter.unusedSimpArgs false
theorem dropWhile_le (p : UInt8 → Bool) : ∀ s : Bs, (s.dropWhile p).length ≤ s.length
  | [] => Nat.le_refl _
  | b :: s => by
    rw [List.dropWhile_cons]
    split
    · have := dropWhile_le p s; simp; omega
    · exact Nat.le_refl _
theorem split_at {s : Bs} {j : Nat} {c : UInt8} (h : s[j]? = some c) : s = s.take j ++ c :: s.drop (j + 1) := by
  obtain ⟨hlt, he⟩ := List.getElem?_eq_some_iff.1 h
  rw [← he, ← List.drop_eq_getElem_cons hlt, List.take_append_drop]
theorem trim_spec (s : Bs) {H : AHeap} (hs : s.length ≤ 1000000) : ACalls Tryz.prog natX 106 [.str s] H fun v H' => v = .str (trimF s) ∧ H = H' := by
  refine acalls_ofN rfl za106 rfl ?_
  simp only [c106, sA, Int.reduceNegSucc, reduceCtorEq, Nat.reduceEqDiff, ↓reduceIte, Nat.reduceAdd, Int.reduceEq, Int.reduceLT, Int.reduceLE, Nat.reduceLT]
  refine aw_cut (fun (T : Env) H' => T 0 = .str (s.dropWhile blk) ∧ H = H') (calls_mono _ _) ?_ ?_
  · refine aw_loop (fun q (T : Env) H' => ∃ u : Bs, q = u.length ∧ u.length ≤ s.length ∧ T 0 = .str u ∧ u.dropWhile blk = s.dropWhile blk ∧ H = H') s.length ⟨s, rfl, Nat.le_refl _, by simp only [sA, Int.reduceNegSucc, reduceCtorEq, Nat.reduceEqDiff, ↓reduceIte, Nat.reduceAdd, Int.reduceEq, Int.reduceLT, Int.reduceLE, Nat.reduceLT]; try rfl, rfl, rfl⟩ ?_
    rintro q T _ ⟨u, rfl, hul, g0, hA, rfl⟩
    by_cases h0 : u = []
    · subst h0
      have e : s.dropWhile blk = [] := by rw [← hA]; rfl
      simp only [sA, Int.reduceNegSucc, reduceCtorEq, Nat.reduceEqDiff, ↓reduceIte, Nat.reduceAdd, Int.reduceEq, Int.reduceLT, Int.reduceLE, Nat.reduceLT, g0]
      exact ⟨by rw [e], (by first | with_reducible rfl | trivial | rfl | assumption)⟩
    · obtain ⟨b, r, rfl⟩ : ∃ b r, u = b :: r := by
        cases u with
        | nil => exact absurd rfl h0
        | cons b r => exact ⟨b, r, rfl⟩
      have i0 : aIdxS (.str (b :: r)) (.int .i64 0) = some (by8 b) := str_idx (i := 0) rfl .i64
      have s1 : aSlStr (.str (b :: r)) (some (.int .i64 1)) none = some (.str r) := by
        have := str_slL (s := b :: r) (l := 1) (by simp)
        simpa using this
      simp only [sA, Int.reduceNegSucc, reduceCtorEq, Nat.reduceEqDiff, ↓reduceIte, Nat.reduceAdd, Int.reduceEq, Int.reduceLT, Int.reduceLE, Nat.reduceLT, g0, h0, i0]
      refine (says_blk b H).mono ?_
      rintro v _ ⟨rfl, rfl⟩
      cases hb : blk b with
      | true =>
        simp only [sA, Int.reduceNegSucc, reduceCtorEq, Nat.reduceEqDiff, ↓reduceIte, Nat.reduceAdd, Int.reduceEq, Int.reduceLT, Int.reduceLE, Nat.reduceLT, g0, s1]
        exact ⟨_, by simp, r, rfl, by simp at hul; omega, (by first | with_reducible rfl | trivial | rfl | assumption), by rw [← hA, List.dropWhile_cons, if_pos hb], (by first | with_reducible rfl | trivial | rfl | assumption)⟩
      | false =>
        simp only [sA, Int.reduceNegSucc, reduceCtorEq, Nat.reduceEqDiff, ↓reduceIte, Nat.reduceAdd, Int.reduceEq, Int.reduceLT, Int.reduceLE, Nat.reduceLT, g0]
        exact ⟨by rw [← hA, List.dropWhile_cons, if_neg (by rw [hb]; simp)], (by first | with_reducible rfl | trivial | rfl | assumption)⟩
  · rintro T _ ⟨g0, rfl⟩
    simp only [sA, Int.reduceNegSucc, reduceCtorEq, Nat.reduceEqDiff, ↓reduceIte, Nat.reduceAdd, Int.reduceEq, Int.reduceLT, Int.reduceLE, Nat.reduceLT]
    generalize hw : s.dropWhile blk = w at *
    have hwl : w.length ≤ 1000000 := by rw [← hw]; have := dropWhile_le blk s; omega
    have hb : trimF s = (w.reverse.dropWhile blk).reverse := by rw [trimF, hw]
    refine aw_loop (fun q (T : Env) H' => ∃ u : Bs, q = u.length ∧ u.length ≤ w.length ∧ T 0 = .str u ∧ u.reverse.dropWhile blk = w.reverse.dropWhile blk ∧ H = H') w.length ⟨w, rfl, Nat.le_refl _, g0, rfl, rfl⟩ ?_
    clear g0 T
    rintro q T _ ⟨u, rfl, hul, g0, hA, rfl⟩
    by_cases h0 : u = []
    · subst h0
      simp only [sA, Int.reduceNegSucc, reduceCtorEq, Nat.reduceEqDiff, ↓reduceIte, Nat.reduceAdd, Int.reduceEq, Int.reduceLT, Int.reduceLE, Nat.reduceLT, g0]
      refine ⟨?_, (by first | with_reducible rfl | trivial | rfl | assumption)⟩
      rw [hb, ← hA]; rfl
    · have hpos := List.length_pos_iff.2 h0
      obtain ⟨b, hbb⟩ := isSome_of_lt (l := u) (i := u.length - 1) (by omega)
      have hsp : u = u.take (u.length - 1) ++ [b] := by
        have := split_at hbb
        rwa [show u.length - 1 + 1 = u.length by omega, List.drop_length] at this
      have hrev : u.reverse = b :: (u.take (u.length - 1)).reverse := by
        conv => lhs; rw [hsp]
        rw [List.reverse_append, List.reverse_singleton, List.singleton_append]
      have w1 : IntKind.i64.wrap ((u.length : Int) - 1) = ((u.length - 1 : Nat) : Int) := by
        rw [wrap64 (by omega) (by omega)]; omega
      simp only [sA, Int.reduceNegSucc, reduceCtorEq, Nat.reduceEqDiff, ↓reduceIte, Nat.reduceAdd, Int.reduceEq, Int.reduceLT, Int.reduceLE, Nat.reduceLT, g0, h0, w1, str_idx hbb]
      refine (says_blk b H).mono ?_
      rintro v _ ⟨rfl, rfl⟩
      cases hv : blk b with
      | true =>
        simp only [sA, Int.reduceNegSucc, reduceCtorEq, Nat.reduceEqDiff, ↓reduceIte, Nat.reduceAdd, Int.reduceEq, Int.reduceLT, Int.reduceLE, Nat.reduceLT, g0, w1, str_slH (show u.length - 1 ≤ u.length by omega)]
        exact ⟨_, by simp <;> omega, u.take (u.length - 1), rfl, by simp <;> omega, (by first | with_reducible rfl | trivial | rfl | assumption), by rw [← hA, hrev, List.dropWhile_cons, if_pos hv], (by first | with_reducible rfl | trivial | rfl | assumption)⟩
      | false =>
        simp only [sA, Int.reduceNegSucc, reduceCtorEq, Nat.reduceEqDiff, ↓reduceIte, Nat.reduceAdd, Int.reduceEq, Int.reduceLT, Int.reduceLE, Nat.reduceLT, g0]
        refine ⟨?_, (by first | with_reducible rfl | trivial | rfl | assumption)⟩
        rw [hb, ← hA]
        have : u.reverse.dropWhile blk = u.reverse := by
          rw [hrev, List.dropWhile_cons, if_neg (by rw [hv]; simp)]
        rw [this, List.reverse_reverse]
theorem trim_len (s : Bs) : (trimF s).length ≤ s.length := by
  have h1 := dropWhile_le blk s
  have h2 := dropWhile_le blk (s.dropWhile blk).reverse
  simp only [trimF, List.length_reverse] at *
  omega
theorem byts_set (s : Bs) (i : Nat) (c : UInt8) : byts (s.set i c) = (byts s).set i (by8 c) := by simp [byts]
theorem set_snoc {α : Type} (a b : List α) (x y : α) : (a ++ x :: b).set a.length y = a ++ y :: b := by simp
theorem lower_spec (s : Bs) {H : AHeap} (hs : s.length ≤ 1000000) : ACalls Tryz.prog natX 103 [.str s] H fun v H' => v = .str (low s) ∧ Ext H.next H H' := by
  refine acalls_ofN rfl za103 rfl ?_
  have mk : aSB H (.str s) = some (slR H.next s.length (.open_ 1), H.push (.cells (byts s) 0 false)) := by
    have : aSB H (.str s) = some (.slice (some ⟨H.next, s.length, 0⟩) s.length (.open_ 1), H.push (.cells (byts s) 0 false)) := rfl
    rw [this]; rfl
  simp only [c103, sA, Int.reduceNegSucc, reduceCtorEq, Nat.reduceEqDiff, ↓reduceIte, Nat.reduceAdd, Int.reduceEq, Int.reduceLT, Int.reduceLE, Nat.reduceLT, mk, row_len]
  refine aw_loop (fun q (T : Env) H' => ∃ j : Nat, j ≤ s.length ∧ q = s.length - j ∧ T 3 = slR H.next s.length (.open_ 1) ∧ T 8 = slR H.next s.length (.open_ 1) ∧ T 9 = .int .i64 (s.length : Int) ∧ T 10 = .int .i64 (j : Int) ∧ Row H' H.next (byts (low (s.take j) ++ s.drop j)) ∧ Ext H.next H H' ∧ H.next < H'.next) s.length
    ⟨0, Nat.zero_le _, rfl, by simp only [sA, Int.reduceNegSucc, reduceCtorEq, Nat.reduceEqDiff, ↓reduceIte, Nat.reduceAdd, Int.reduceEq, Int.reduceLT, Int.reduceLE, Nat.reduceLT]; try rfl, by simp only [sA, Int.reduceNegSucc, reduceCtorEq, Nat.reduceEqDiff, ↓reduceIte, Nat.reduceAdd, Int.reduceEq, Int.reduceLT, Int.reduceLE, Nat.reduceLT]; try rfl, by simp only [sA, Int.reduceNegSucc, reduceCtorEq, Nat.reduceEqDiff, ↓reduceIte, Nat.reduceAdd, Int.reduceEq, Int.reduceLT, Int.reduceLE, Nat.reduceLT]; try rfl, by simp only [sA, Int.reduceNegSucc, reduceCtorEq, Nat.reduceEqDiff, ↓reduceIte, Nat.reduceAdd, Int.reduceEq, Int.reduceLT, Int.reduceLE, Nat.reduceLT]; try rfl, by simpa [low] using row_push H (byts s), (Ext.refl _ H).push (Nat.le_refl _) _, Nat.lt_succ_self _⟩ ?_
  rintro q T H' ⟨j, hj, rfl, g3, g8, g9, g10, hR, E, hn⟩
  have hlow : (low (s.take j)).length = j := by simp [low]; omega
  have hlen : (byts (low (s.take j) ++ s.drop j)).length = s.length := by rw [byts_len, List.length_append, hlow]; simp; omega
  by_cases hlt : j < s.length
  · have hlt' : (j : Int) < (s.length : Int) := by omega
    obtain ⟨c, hc⟩ := isSome_of_lt hlt
    have hsp : s.drop j = c :: s.drop (j + 1) := by
      obtain ⟨h1, h2⟩ := List.getElem?_eq_some_iff.1 hc
      rw [← h2, ← List.drop_eq_getElem_cons h1]
    have hat : (byts (low (s.take j) ++ s.drop j))[j]? = some (by8 c) := by
      refine byts_get ?_
      rw [List.getElem?_append_right (by omega), hlow, Nat.sub_self, hsp]; rfl
    have hnext : low (s.take (j + 1)) = low (s.take j) ++ [lowB c] := by
      rw [List.take_add_one, hc]; simp [low]
    have ld := row_load hR hlen hat
    by_cases hup : 65 ≤ c.toNat ∧ c.toNat ≤ 90
    · have h1 : (65 : Int) ≤ (c.toNat : Int) := by omega
      have h2 : (c.toNat : Int) ≤ 90 := by omega
      have hw : IntKind.u8.wrap ((c.toNat : Int) + 32) = ((lowB c).toNat : Int) := by
        rw [wrapU8 (by omega) (by omega), lowB, if_pos hup, UInt8.toNat_add]
        have : (32 : UInt8).toNat = 32 := rfl
        rw [this]; omega
      obtain ⟨H2, m2, r2, k2, o2⟩ := row_store hR hlen hlt (x := by8 (lowB c)) rfl
      simp only [sA, Int.reduceNegSucc, reduceCtorEq, Nat.reduceEqDiff, ↓reduceIte, Nat.reduceAdd, Int.reduceEq, Int.reduceLT, Int.reduceLE, Nat.reduceLT, g3, g8, g9, g10, hlt', row_idx _ hlt, ld, h1, h2, hw, m2, wrap1 j (by omega)]
      refine ⟨_, by omega, j + 1, by omega, rfl, (by first | with_reducible rfl | trivial | rfl | assumption), (by first | with_reducible rfl | trivial | rfl | assumption), (by first | with_reducible rfl | trivial | rfl | assumption), (by first | with_reducible rfl | trivial | rfl | assumption), ?_, ⟨by have := E.next; omega, fun b hb => by rw [o2 _ (by omega)]; exact E.old b hb⟩, by omega⟩
      rw [hsp, ← byts_set] at r2
      have e : (low (s.take j) ++ c :: s.drop (j + 1)).set j (lowB c) = low (s.take (j + 1)) ++ s.drop (j + 1) := by
        rw [hnext]
        have := set_snoc (low (s.take j)) (s.drop (j + 1)) c (lowB c)
        rw [hlow] at this
        rw [this]; simp
      rw [e] at r2
      exact r2
    · have hl : lowB c = c := by rw [lowB, if_neg hup]
      have e : low (s.take j) ++ s.drop j = low (s.take (j + 1)) ++ s.drop (j + 1) := by rw [hnext, hl, hsp]; simp
      rw [e] at hR
      by_cases h1 : (65 : Int) ≤ (c.toNat : Int) <;> by_cases h2 : (c.toNat : Int) ≤ 90
      all_goals first
        | (exfalso; omega)
        | (simp only [sA, Int.reduceNegSucc, reduceCtorEq, Nat.reduceEqDiff, ↓reduceIte, Nat.reduceAdd, Int.reduceEq, Int.reduceLT, Int.reduceLE, Nat.reduceLT, g3, g8, g9, g10, hlt', row_idx _ hlt, ld, h1, h2, wrap1 j (by omega)]
           exact ⟨_, by omega, j + 1, by omega, rfl, (by first | with_reducible rfl | trivial | rfl | assumption), (by first | with_reducible rfl | trivial | rfl | assumption), (by first | with_reducible rfl | trivial | rfl | assumption), (by first | with_reducible rfl | trivial | rfl | assumption), hR, E, hn⟩)
  · have hlt' : ¬ (j : Int) < (s.length : Int) := by omega
    have ej : j = s.length := by omega
    rw [List.take_of_length_le (by omega), List.drop_of_length_le (by omega), List.append_nil] at hR
    have hl : (low s).length = s.length := by simp [low]
    have hb : aBS H' (slR H.next s.length (.open_ 1)) = some (.str (low s)) := by
      have := bs_cel (hR.cel (r := .open_ 1) (byts_len _) hn)
      rwa [hl] at this
    simp only [sA, Int.reduceNegSucc, reduceCtorEq, Nat.reduceEqDiff, ↓reduceIte, Nat.reduceAdd, Int.reduceEq, Int.reduceLT, Int.reduceLE, Nat.reduceLT, g3, g8, g9, g10, hlt', hb]
    exact ⟨(by first | with_reducible rfl | trivial | rfl | assumption), E⟩
theorem fin_ct {T : Env} {H : AHeap} (g : Bool) (n i j : Nat) (K : AVal → AHeap → Prop) {v : AVal} (h : oLoad g n H (T i) = some v) (hk : K (.tuple [v, T j]) H) : fin [.cell g n i, .t j] K .ret T H := by
  simp only [fin, wRes, h, OptP_some]; exact hk
def optV : Option (Bs × Bs) → AVal
  | none => .tuple [.agg [.str [], .str []], .bool false]
  | some p => .tuple [.agg [.str p.1, .str p.2], .bool true]
theorem cut_len (s : Bs) (c : UInt8) : (cutF s c).1.length ≤ s.length ∧ (cutF s c).2.1.length ≤ s.length := by
  unfold cutF
  split
  · simp; omega
  · simp
theorem header_spec {H : AHeap} (s : Bs) (hs : s.length ≤ 1000000) : ACalls Tryz.prog natX 95 [.str s] H fun v H' => v = optV (headerF s) ∧ Ext H.next H H' := by
  refine acalls_ofN rfl za95 rfl ?_
  obtain ⟨H1, m1, r1, k1, o1⟩ := row_newL H [.str [], .str []] (n := 2) rfl
  have E1 : Ext H.next H H1 := Ext.of_new k1 o1 (Nat.le_refl _)
  have hcl := cut_len s 58
  have b0 : aBuild [.str [], .str []] [] = some (.agg [.str [], .str []]) := rfl
  have none_way : ∀ {v}, headerF s = none → v = .tuple [.agg [.str [], .str []], .bool false] → v = optV (headerF s) := fun h1 h2 => by rw [h1, h2]; rfl
  obtain ⟨H2, m2, r2, k2, o2⟩ := row_storeN r1 (n := 2) rfl (xs := [.str [], .str []]) rfl rfl
  have E2 : Ext H.next H H2 := ⟨by omega, fun c hc => by rw [o2 _ (by omega), E1.old c hc]⟩
  simp only [c95, sA, Int.reduceNegSucc, reduceCtorEq, Nat.reduceEqDiff, ↓reduceIte, Nat.reduceAdd, Int.reduceEq, Int.reduceLT, Int.reduceLE, Nat.reduceLT, m1]
  refine (cut_spec s 58 (by omega)).mono ?_
  rintro v _ ⟨rfl, rfl⟩
  have hend : ∀ {T : Env} {K : AVal → AHeap → Prop}, T 2 = cellR H.next 2 0 → K (.tuple [.agg [.str [], .str []], T 3]) H2 → fin [.cell true 2 2, .t 3] K .ret T H2 := fun h1 h2 => fin_ct _ _ _ _ _ (by rw [h1]; exact row_loadN r2 (n := 2) rfl) h2
  cases hc : (cutF s 58).2.2 with
  | false =>
    simp only [sA, Int.reduceNegSucc, reduceCtorEq, Nat.reduceEqDiff, ↓reduceIte, Nat.reduceAdd, Int.reduceEq, Int.reduceLT, Int.reduceLE, Nat.reduceLT, ext_0, ext_1, ext_2, b0, m2]
    refine hend (by simp only [sA, Int.reduceNegSucc, reduceCtorEq, Nat.reduceEqDiff, ↓reduceIte, Nat.reduceAdd, Int.reduceEq, Int.reduceLT, Int.reduceLE, Nat.reduceLT]; try rfl) ⟨none_way ?_ ?_, E2⟩
    · simp [headerF, hc]
    · simp only [sA, Int.reduceNegSucc, reduceCtorEq, Nat.reduceEqDiff, ↓reduceIte, Nat.reduceAdd, Int.reduceEq, Int.reduceLT, Int.reduceLE, Nat.reduceLT]; try rfl
  | true =>
    simp only [sA, Int.reduceNegSucc, reduceCtorEq, Nat.reduceEqDiff, ↓reduceIte, Nat.reduceAdd, Int.reduceEq, Int.reduceLT, Int.reduceLE, Nat.reduceLT, ext_0, ext_1, ext_2]
    refine (token_spec (cutF s 58).1 (by omega)).mono ?_
    rintro v _ ⟨rfl, rfl⟩
    cases htk : token (cutF s 58).1 with
    | false =>
      simp only [sA, Int.reduceNegSucc, reduceCtorEq, Nat.reduceEqDiff, ↓reduceIte, Nat.reduceAdd, Int.reduceEq, Int.reduceLT, Int.reduceLE, Nat.reduceLT, b0, m2]
      refine hend (by simp only [sA, Int.reduceNegSucc, reduceCtorEq, Nat.reduceEqDiff, ↓reduceIte, Nat.reduceAdd, Int.reduceEq, Int.reduceLT, Int.reduceLE, Nat.reduceLT]; try rfl) ⟨none_way ?_ ?_, E2⟩
      · simp [headerF, hc, htk]
      · simp only [sA, Int.reduceNegSucc, reduceCtorEq, Nat.reduceEqDiff, ↓reduceIte, Nat.reduceAdd, Int.reduceEq, Int.reduceLT, Int.reduceLE, Nat.reduceLT]; try rfl
    | true =>
      simp only [sA, Int.reduceNegSucc, reduceCtorEq, Nat.reduceEqDiff, ↓reduceIte, Nat.reduceAdd, Int.reduceEq, Int.reduceLT, Int.reduceLE, Nat.reduceLT]
      refine (trim_spec (cutF s 58).2.1 (by omega)).mono ?_
      rintro v _ ⟨rfl, rfl⟩
      have htl := trim_len (cutF s 58).2.1
      simp only [sA, Int.reduceNegSucc, reduceCtorEq, Nat.reduceEqDiff, ↓reduceIte, Nat.reduceAdd, Int.reduceEq, Int.reduceLT, Int.reduceLE, Nat.reduceLT]
      refine (all_spec says_val (trimF (cutF s 58).2.1) (by omega)).mono ?_
      rintro v _ ⟨rfl, rfl⟩
      cases hv : (trimF (cutF s 58).2.1).all valB with
      | false =>
        simp only [sA, Int.reduceNegSucc, reduceCtorEq, Nat.reduceEqDiff, ↓reduceIte, Nat.reduceAdd, Int.reduceEq, Int.reduceLT, Int.reduceLE, Nat.reduceLT, b0, m2]
        refine hend (by simp only [sA, Int.reduceNegSucc, reduceCtorEq, Nat.reduceEqDiff, ↓reduceIte, Nat.reduceAdd, Int.reduceEq, Int.reduceLT, Int.reduceLE, Nat.reduceLT]; try rfl) ⟨none_way ?_ ?_, E2⟩
        · simp [headerF, hc, htk, hv]
        · simp only [sA, Int.reduceNegSucc, reduceCtorEq, Nat.reduceEqDiff, ↓reduceIte, Nat.reduceAdd, Int.reduceEq, Int.reduceLT, Int.reduceLE, Nat.reduceLT]; try rfl
      | true =>
        simp only [sA, Int.reduceNegSucc, reduceCtorEq, Nat.reduceEqDiff, ↓reduceIte, Nat.reduceAdd, Int.reduceEq, Int.reduceLT, Int.reduceLE, Nat.reduceLT]
        refine (lower_spec (cutF s 58).1 (by omega)).mono ?_
        rintro v H3 ⟨rfl, E3⟩
        have R3 := r1.same (E3.old H.next (by omega))
        obtain ⟨H4, m4, r4, k4, o4⟩ := row_storeN R3 (n := 2) rfl (xs := [.str (low (cutF s 58).1), .str (trimF (cutF s 58).2.1)]) rfl rfl
        have b1 : aBuild [.str [], .str []] [(0, 1, .str (low (cutF s 58).1)), (1, 1, .str (trimF (cutF s 58).2.1))] = some (.agg [.str (low (cutF s 58).1), .str (trimF (cutF s 58).2.1)]) := rfl
        simp only [sA, Int.reduceNegSucc, reduceCtorEq, Nat.reduceEqDiff, ↓reduceIte, Nat.reduceAdd, Int.reduceEq, Int.reduceLT, Int.reduceLE, Nat.reduceLT, b1, m4]
        refine fin_ct _ _ _ _ _ (row_loadN r4 (n := 2) rfl) ⟨?_, ⟨by have := E3.next; omega, fun c hc => by rw [o4 _ (by omega), E3.old _ (by omega), E1.old c hc]⟩⟩
        have : headerF s = some (low (cutF s 58).1, trimF (cutF s 58).2.1) := by simp [headerF, hc, htk, hv]
        rw [this]
        simp only [sA, Int.reduceNegSucc, reduceCtorEq, Nat.reduceEqDiff, ↓reduceIte, Nat.reduceAdd, Int.reduceEq, Int.reduceLT, Int.reduceLE, Nat.reduceLT]; rfl
theorem decF_snoc (s : Bs) (b : UInt8) : decF (s ++ [b]) = decF s * 10 + (b.toNat - 48) := by simp [decF, List.foldl_append]
theorem hexF_snoc (s : Bs) (b : UInt8) : hexF (s ++ [b]) = hexF s * 16 + hexV b := by simp [hexF, List.foldl_append]
theorem decF_lt (s : Bs) (h : s.all digB = true) : decF s < 10 ^ s.length := by
  have : ∀ (r : Bs) (n k : Nat), r.all digB = true → n < 10 ^ k → r.foldl (fun n b => n * 10 + (b.toNat - 48)) n < 10 ^ (k + r.length) := by
    intro r
    induction r with
    | nil => intro n k _ hn; exact hn
    | cons b r ih =>
      intro n k hr hn
      simp only [List.all_cons, Bool.and_eq_true] at hr
      simp only [List.foldl_cons, List.length_cons]
      rw [show k + (r.length + 1) = (k + 1) + r.length by omega]
      refine ih _ _ hr.2 ?_
      have hb : b.toNat - 48 ≤ 9 := by
        have := hr.1
        simp only [digB, Bool.and_eq_true, decide_eq_true_eq] at this
        omega
      rw [Nat.pow_succ]; omega
  have := this s 0 0 h (by simp)
  simpa [decF] using this
theorem hexV_lt (b : UInt8) (h : hexB b = true) : hexV b ≤ 15 := by
  simp only [hexB, digB, Bool.or_eq_true, Bool.and_eq_true, decide_eq_true_eq] at h
  unfold hexV
  simp only [digB, Bool.and_eq_true, decide_eq_true_eq]
  split
  · omega
  · split <;> omega
theorem hexF_lt (s : Bs) (h : s.all hexB = true) : hexF s < 16 ^ s.length := by
  have : ∀ (r : Bs) (n k : Nat), r.all hexB = true → n < 16 ^ k → r.foldl (fun n b => n * 16 + hexV b) n < 16 ^ (k + r.length) := by
    intro r
    induction r with
    | nil => intro n k _ hn; exact hn
    | cons b r ih =>
      intro n k hr hn
      simp only [List.all_cons, Bool.and_eq_true] at hr
      simp only [List.foldl_cons, List.length_cons]
      rw [show k + (r.length + 1) = (k + 1) + r.length by omega]
      refine ih _ _ hr.2 ?_
      have hb := hexV_lt b hr.1
      rw [Nat.pow_succ]; omega
  have := this s 0 0 h (by simp)
  simpa [hexF] using this
def numV : Option Nat → AVal
  | none => .tuple [.int .i64 0, .bool false]
  | some n => .tuple [.int .i64 (n : Int), .bool true]
theorem number_spec (s : Bs) (hs : s.length ≤ 1000000) {H : AHeap} : ACalls Tryz.prog natX 104 [.str s] H fun v H' => v = numV (numberF s) ∧ H = H' := by
  refine acalls_ofN rfl za104 rfl ?_
  by_cases h1 : s.length < 1
  · have h1' : (s.length : Int) < 1 := by omega
    simp only [c104, sA, Int.reduceNegSucc, reduceCtorEq, Nat.reduceEqDiff, ↓reduceIte, Nat.reduceAdd, Int.reduceEq, Int.reduceLT, Int.reduceLE, Nat.reduceLT, h1']
    exact ⟨by simp [numberF, h1, numV], (by first | with_reducible rfl | trivial | rfl | assumption)⟩
  by_cases h2 : 9 < s.length
  · have h1' : ¬ (s.length : Int) < 1 := by omega
    have h2' : (9 : Int) < (s.length : Int) := by omega
    simp only [c104, sA, Int.reduceNegSucc, reduceCtorEq, Nat.reduceEqDiff, ↓reduceIte, Nat.reduceAdd, Int.reduceEq, Int.reduceLT, Int.reduceLE, Nat.reduceLT, h1', h2']
    exact ⟨by simp [numberF, h2, numV], (by first | with_reducible rfl | trivial | rfl | assumption)⟩
  have h1' : ¬ (s.length : Int) < 1 := by omega
  have h2' : ¬ (9 : Int) < (s.length : Int) := by omega
  simp only [c104, sA, Int.reduceNegSucc, reduceCtorEq, Nat.reduceEqDiff, ↓reduceIte, Nat.reduceAdd, Int.reduceEq, Int.reduceLT, Int.reduceLE, Nat.reduceLT, h1', h2']
  refine (all_spec says_dig s (by omega)).mono ?_
  rintro v _ ⟨rfl, rfl⟩
  cases hd : s.all digB with
  | false =>
    simp only [sA, Int.reduceNegSucc, reduceCtorEq, Nat.reduceEqDiff, ↓reduceIte, Nat.reduceAdd, Int.reduceEq, Int.reduceLT, Int.reduceLE, Nat.reduceLT]
    exact ⟨by simp [numberF, hd, numV], (by first | with_reducible rfl | trivial | rfl | assumption)⟩
  | true =>
    simp only [sA, Int.reduceNegSucc, reduceCtorEq, Nat.reduceEqDiff, ↓reduceIte, Nat.reduceAdd, Int.reduceEq, Int.reduceLT, Int.reduceLE, Nat.reduceLT]
    refine aw_loop (fun q (T : Env) H' => ∃ j : Nat, j ≤ s.length ∧ q = s.length - j ∧ T 0 = .str s ∧ T 4 = .int .i64 (decF (s.take j) : Int) ∧ T 20 = .int .i64 (s.length : Int) ∧ T 21 = .int .i64 (j : Int) ∧ H = H') s.length
      ⟨0, Nat.zero_le _, rfl, by simp only [sA, Int.reduceNegSucc, reduceCtorEq, Nat.reduceEqDiff, ↓reduceIte, Nat.reduceAdd, Int.reduceEq, Int.reduceLT, Int.reduceLE, Nat.reduceLT]; try rfl, by simp only [sA, Int.reduceNegSucc, reduceCtorEq, Nat.reduceEqDiff, ↓reduceIte, Nat.reduceAdd, Int.reduceEq, Int.reduceLT, Int.reduceLE, Nat.reduceLT]; try rfl, by simp only [sA, Int.reduceNegSucc, reduceCtorEq, Nat.reduceEqDiff, ↓reduceIte, Nat.reduceAdd, Int.reduceEq, Int.reduceLT, Int.reduceLE, Nat.reduceLT]; try rfl, by simp only [sA, Int.reduceNegSucc, reduceCtorEq, Nat.reduceEqDiff, ↓reduceIte, Nat.reduceAdd, Int.reduceEq, Int.reduceLT, Int.reduceLE, Nat.reduceLT]; try rfl, rfl⟩ ?_
    rintro q T _ ⟨j, hj, rfl, g0, g4, g20, g21, rfl⟩
    by_cases hlt : j < s.length
    · have hlt' : (j : Int) < (s.length : Int) := by omega
      obtain ⟨c, hc⟩ := isSome_of_lt hlt
      have hdc : digB c = true := List.all_eq_true.1 hd c (List.mem_of_getElem? hc)
      simp only [digB, Bool.and_eq_true, decide_eq_true_eq] at hdc
      have hlim : decF (s.take j) < 10 ^ 9 := by
        have h := decF_lt (s.take j) (List.all_eq_true.2 fun x hx => List.all_eq_true.1 hd x (List.mem_of_mem_take hx))
        have h3 : (s.take j).length ≤ 9 := by simp; omega
        exact Nat.lt_of_lt_of_le h (Nat.pow_le_pow_right (by omega) h3)
      generalize hn : decF (s.take j) = n at *
      have w1 : IntKind.i64.wrap ((n : Int) * 10) = ((n * 10 : Nat) : Int) := by rw [wrap64 (by omega) (by omega)]; omega
      have w2 : IntKind.u8.wrap ((c.toNat : Int) - 48) = ((c.toNat - 48 : Nat) : Int) := by rw [wrapU8 (by omega) (by omega)]; omega
      have w3 : IntKind.i64.wrap ((c.toNat - 48 : Nat) : Int) = ((c.toNat - 48 : Nat) : Int) := wrap64 (by omega) (by omega)
      simp only [sA, Int.reduceNegSucc, reduceCtorEq, Nat.reduceEqDiff, ↓reduceIte, Nat.reduceAdd, Int.reduceEq, Int.reduceLT, Int.reduceLE, Nat.reduceLT, g0, g4, g20, g21, hlt', str_idx hc, w1, w2, w3, wrapN (n * 10) (c.toNat - 48) (by omega), wrap1 j (by omega)]
      refine ⟨_, by omega, j + 1, by omega, rfl, (by first | with_reducible rfl | trivial | rfl | assumption), ?_, (by first | with_reducible rfl | trivial | rfl | assumption), (by first | with_reducible rfl | trivial | rfl | assumption), (by first | with_reducible rfl | trivial | rfl | assumption)⟩
      rw [List.take_add_one, hc, Option.toList_some, decF_snoc, hn]
    · have hlt' : ¬ (j : Int) < (s.length : Int) := by omega
      rw [List.take_of_length_le (by omega)] at g4
      simp only [sA, Int.reduceNegSucc, reduceCtorEq, Nat.reduceEqDiff, ↓reduceIte, Nat.reduceAdd, Int.reduceEq, Int.reduceLT, Int.reduceLE, Nat.reduceLT, g0, g4, g20, g21, hlt']
      exact ⟨by simp [numberF, h1, h2, hd, numV], (by first | with_reducible rfl | trivial | rfl | assumption)⟩
theorem hexw_spec (c : UInt8) (h : hexB c = true) {H : AHeap} : ACalls Tryz.prog natX 98 [by8 c] H fun v H' => v = .int .i64 (hexV c : Int) ∧ H = H' := by
  refine acalls_ofN rfl za98 rfl ?_
  simp only [c98, sA, Int.reduceNegSucc, reduceCtorEq, Nat.reduceEqDiff, ↓reduceIte, Nat.reduceAdd, Int.reduceEq, Int.reduceLT, Int.reduceLE, Nat.reduceLT]
  refine (says_dig c H).mono ?_
  rintro v _ ⟨rfl, rfl⟩
  have hd := digB_int c
  have h' := h
  rw [hexB_int] at h'
  simp only [hexB, Bool.or_eq_true, Bool.and_eq_true, decide_eq_true_eq] at h
  cases hb : digB c with
  | true =>
    have hb' := hb
    simp only [digB, Bool.and_eq_true, decide_eq_true_eq] at hb'
    have w2 : IntKind.u8.wrap ((c.toNat : Int) - 48) = ((c.toNat - 48 : Nat) : Int) := by rw [wrapU8 (by omega) (by omega)]; omega
    have w3 : IntKind.i64.wrap ((c.toNat - 48 : Nat) : Int) = ((c.toNat - 48 : Nat) : Int) := wrap64 (by omega) (by omega)
    simp only [sA, Int.reduceNegSucc, reduceCtorEq, Nat.reduceEqDiff, ↓reduceIte, Nat.reduceAdd, Int.reduceEq, Int.reduceLT, Int.reduceLE, Nat.reduceLT, w2, w3]
    exact ⟨by simp [hexV, hb], (by first | with_reducible rfl | trivial | rfl | assumption)⟩
  | false =>
    rw [hb] at h
    simp only [Bool.false_eq_true, false_or] at h
    by_cases h1 : 97 ≤ c.toNat
    · have h1' : (97 : Int) ≤ (c.toNat : Int) := by omega
      have w2 : IntKind.u8.wrap ((c.toNat : Int) - 97) = ((c.toNat - 97 : Nat) : Int) := by rw [wrapU8 (by omega) (by omega)]; omega
      have w3 : IntKind.i64.wrap ((c.toNat - 97 : Nat) : Int) = ((c.toNat - 97 : Nat) : Int) := wrap64 (by omega) (by omega)
      have w4 : IntKind.i64.wrap (((c.toNat - 97 : Nat) : Int) + 10) = ((c.toNat - 87 : Nat) : Int) := by rw [wrap64 (by omega) (by omega)]; omega
      simp only [sA, Int.reduceNegSucc, reduceCtorEq, Nat.reduceEqDiff, ↓reduceIte, Nat.reduceAdd, Int.reduceEq, Int.reduceLT, Int.reduceLE, Nat.reduceLT, h1', w2, w3, w4]
      exact ⟨by simp [hexV, hb, h1], (by first | with_reducible rfl | trivial | rfl | assumption)⟩
    · have h1' : ¬ (97 : Int) ≤ (c.toNat : Int) := by omega
      have w2 : IntKind.u8.wrap ((c.toNat : Int) - 65) = ((c.toNat - 65 : Nat) : Int) := by rw [wrapU8 (by omega) (by omega)]; omega
      have w3 : IntKind.i64.wrap ((c.toNat - 65 : Nat) : Int) = ((c.toNat - 65 : Nat) : Int) := wrap64 (by omega) (by omega)
      have w4 : IntKind.i64.wrap (((c.toNat - 65 : Nat) : Int) + 10) = ((c.toNat - 55 : Nat) : Int) := by rw [wrap64 (by omega) (by omega)]; omega
      simp only [sA, Int.reduceNegSucc, reduceCtorEq, Nat.reduceEqDiff, ↓reduceIte, Nat.reduceAdd, Int.reduceEq, Int.reduceLT, Int.reduceLE, Nat.reduceLT, h1', w2, w3, w4]
      exact ⟨by simp [hexV, hb, h1], (by first | with_reducible rfl | trivial | rfl | assumption)⟩
end Go.Proofs.Ht
namespace Go.Proofs.Ht
open Go.Abs Go.Abs.S
set_option linter.unusedSimpArgs false
theorem decode_pos (s : ByteArray) (pos : Nat) : 1 ≤ (Utf8.decode s pos).2 := by
  simp only [Utf8.decode]
  repeat' split
  all_goals simp
theorem rune_none {s : Bs} {pos : Nat} : rune s pos = none ↔ s.length ≤ pos := by
  unfold rune
  rw [nthB_eq]
  cases h : s[pos]? with
  | none => simp [List.getElem?_eq_none_iff.1 h]
  | some c =>
    have hlt := (List.getElem?_eq_some_iff.1 h).1
    have : ¬ s.length ≤ pos := by omega
    cases hb : Nat.ble 128 c.toNat <;> simp [hb] <;> omega
theorem rune_pos {s : Bs} {pos r n : Nat} (h : rune s pos = some (r, n)) : 1 ≤ n ∧ pos < s.length := by
  constructor
  · unfold rune at h
    split at h
    · simp at h
    · rename_i c _
      cases hb : Nat.ble 128 c.toNat with
      | true =>
        rw [hb] at h
        simp only [cond_true, Option.some.injEq] at h
        have := decode_pos (strOf s) pos
        rw [h] at this; exact this
      | false =>
        rw [hb] at h
        simp only [cond_false, Option.some.injEq, Prod.mk.injEq] at h
        omega
  · by_cases hl : s.length ≤ pos
    · rw [rune_none.2 hl] at h; simp at h
    · omega
def itP (b : Nat) : AVal := .ptr (some ⟨b, 0, 0⟩)
theorem range_it (H : AHeap) (s : Bs) : aHf .strRange H [.str s] = some (itP H.next, H.push (.iter s 0)) := _root_.id rfl
theorem next_end {H : AHeap} {b : Nat} {s : Bs} {pos : Nat} (h : H.get b = some (.iter s pos)) (hr : rune s pos = none) : aHf .strNext H [itP b] = some (.tuple [.bool false], H) := by
  unfold rune at hr
  show aNext H [.ptr (some ⟨b, 0, 0⟩)] = _
  unfold aNext
  simp only [h]
  cases hn : nthB s pos with
  | none => rfl
  | some c =>
    rw [hn] at hr
    cases hb : Nat.ble 128 c.toNat <;> simp [hb] at hr
theorem next_some {H : AHeap} {b : Nat} {s : Bs} {pos r n : Nat} (h : H.get b = some (.iter s pos)) (hr : rune s pos = some (r, n)) : aHf .strNext H [itP b] = some (.tuple [.bool true, .int .i64 (pos : Int), .int .i32 (r : Int)], H.set b (.iter s (pos + n))) := by
  unfold rune at hr
  show aNext H [.ptr (some ⟨b, 0, 0⟩)] = _
  unfold aNext
  simp only [h]
  cases hn : nthB s pos with
  | none => rw [hn] at hr; simp at hr
  | some c =>
    rw [hn] at hr
    cases hb : Nat.ble 128 c.toNat with
    | true =>
      simp only [hb, cond_true, Option.some.injEq] at hr
      simp only [hb, cond_true, hr]
      rfl
    | false =>
      simp only [hb, cond_false, Option.some.injEq, Prod.mk.injEq] at hr
      obtain ⟨rfl, rfl⟩ := hr
      simp only [hb, cond_false]
      rfl
theorem un_xor {i : Nat} (h : i < 2 ^ 63) : ∃ z : Int, aUn .xor (.int .i64 (i : Int)) = some (.int .i64 z) ∧ z < 0 := by
  refine ⟨_, rfl, ?_⟩
  have e : (BitVec.ofInt IntKind.i64.bits (if IntKind.i64.signed then -1 else IntKind.i64.max) ^^^ BitVec.ofInt IntKind.i64.bits (i : Int)).toNat = 2 ^ 64 - 1 - i := by
    show (BitVec.ofInt 64 (-1) ^^^ BitVec.ofInt 64 (i : Int)).toNat = _
    have h1 : BitVec.ofInt 64 (-1) = BitVec.allOnes 64 := by decide
    rw [h1, BitVec.allOnes_xor, BitVec.toNat_not, ofInt_nat, Nat.mod_eq_of_lt (by omega)]
  rw [e, IntKind.wrap_i64]
  omega
theorem sep_spec (r : Nat) {H : AHeap} : ACalls Tryz.prog natX 109 [.int .i32 (r : Int)] H fun v H' => v = .bool (sepR r) ∧ H = H' := by
  refine acalls_ofN rfl za109 rfl ?_
  have e : sepR r = (decide ((r : Int) = 44) || (decide ((r : Int) = 32) || decide ((r : Int) = 9))) := by
    rw [Bool.eq_iff_iff]; simp only [sepR, Bool.or_eq_true, decide_eq_true_eq]; omega
  rw [e]
  by_cases h1 : (r : Int) = 44 <;> by_cases h2 : (r : Int) = 32 <;> by_cases h3 : (r : Int) = 9
  all_goals first
    | (exfalso; omega)
    | (simp only [c109, sA, Int.reduceNegSucc, reduceCtorEq, Nat.reduceEqDiff, ↓reduceIte, Nat.reduceAdd, Int.reduceEq, Int.reduceLT, Int.reduceLE, Nat.reduceLT, h1, h2, h3]
       exact ⟨by simp, (by first | with_reducible rfl | trivial | rfl | assumption)⟩)
def spC (l : List (Nat × Nat)) : List AVal := l.flatMap fun p => [.int .i64 (p.1 : Int), .int .i64 (p.2 : Int)]
theorem spC_snoc (l : List (Nat × Nat)) (p : Nat × Nat) : spC (l ++ [p]) = spC l ++ [.int .i64 (p.1 : Int), .int .i64 (p.2 : Int)] := by simp [spC]
theorem spC_at {l : List (Nat × Nat)} {i : Nat} {p : Nat × Nat} (h : l[i]? = some p) : ((spC l).drop (i * 2)).take 2 = [.int .i64 (p.1 : Int), .int .i64 (p.2 : Int)] := by
  induction l generalizing i with
  | nil => simp at h
  | cons q l ih =>
    cases i with
    | zero => simp at h; subst h; simp [spC]
    | succ i =>
      have := ih (by simpa using h)
      have e : (i + 1) * 2 = i * 2 + 2 := by omega
      rw [e]
      simpa [spC] using this
def partS (s : Bs) (p : Nat × Nat) : Bs := (s.drop p.1).take (p.2 - p.1)
theorem ff_spec (s : Bs) (hs : s.length ≤ 1000000) {H : AHeap} : ACalls Tryz.prog natX 108 [.str s, .func (.func 109) [] []] H fun v H' => Cel H'.next H' v (strs ((fields s).map (partS s))) ∧ (fields s).length ≤ s.length + 1 ∧ Ext H.next H H' := by
  refine acalls_ofN rfl za108 rfl ?_
  obtain ⟨v0, H0, m0, G0, E0, k0, B0⟩ := GrN.make (m := 2) (bytes := 16) (cap := 32) (z := [.int .i64 0, .int .i64 0]) H rfl (by omega) (by omega) (Nat.zero_le _)
  have m0' : aMake 16 [.int .i64 0, .int .i64 0] H (.int .i64 0) (.int .i64 32) = some (v0, H0) := m0
  simp only [c108, sA, Int.reduceNegSucc, reduceCtorEq, Nat.reduceEqDiff, ↓reduceIte, Nat.reduceAdd, Int.reduceEq, Int.reduceLT, Int.reduceLE, Nat.reduceLT, m0', range_it]
  have G1 : GrN 2 0 (H0.push (.iter s 0)) v0 [] 0 := G0.same (by rw [push_next]; omega) (G0.blk.mono fun b hb => get_push_lt hb)
  refine aw_cut (fun (T : Env) H' => ∃ (l : List (Nat × Nat)) (b : Option Nat) (z : Int), T 0 = .str s ∧ T 6 = .int .i64 z ∧ (match b with | some i => z = (i : Int) ∧ i ≤ s.length | none => z < 0) ∧ GrN 2 0 H' (T 5) (spC l) l.length ∧ Blk (T 5) (H.next ≤ ·) ∧ (∀ p ∈ l, p.1 ≤ p.2 ∧ p.2 ≤ s.length) ∧ l.length ≤ s.length ∧ spans s (s.length + 1) 0 none [] = (b, l) ∧ Ext H.next H H') (calls_mono _ _) ?_ ?_
  · refine aw_loop (fun q (T : Env) H' => ∃ (l : List (Nat × Nat)) (b : Option Nat) (z : Int) (pos f : Nat), q = s.length - pos ∧ s.length + 1 ≤ f + pos ∧ T 0 = .str s ∧ T 1 = .func (.func 109) [] [] ∧ T 6 = .int .i64 z ∧ T 14 = itP H0.next ∧ H'.get H0.next = some (.iter s pos) ∧ H0.next < H'.next ∧ Blk (T 5) (H0.next ≠ ·) ∧ Blk (T 5) (H.next ≤ ·) ∧ (match b with | some i => z = (i : Int) ∧ i ≤ pos ∧ i ≤ s.length | none => z < 0) ∧ GrN 2 0 H' (T 5) (spC l) l.length ∧ (∀ p ∈ l, p.1 ≤ p.2 ∧ p.2 ≤ s.length) ∧ l.length ≤ pos ∧ l.length ≤ s.length ∧ spans s f pos b l = spans s (s.length + 1) 0 none [] ∧ Ext H.next H H') s.length
      ⟨[], none, -1, 0, s.length + 1, rfl, by omega, by simp only [sA, Int.reduceNegSucc, reduceCtorEq, Nat.reduceEqDiff, ↓reduceIte, Nat.reduceAdd, Int.reduceEq, Int.reduceLT, Int.reduceLE, Nat.reduceLT]; try rfl, by simp only [sA, Int.reduceNegSucc, reduceCtorEq, Nat.reduceEqDiff, ↓reduceIte, Nat.reduceAdd, Int.reduceEq, Int.reduceLT, Int.reduceLE, Nat.reduceLT]; try rfl, by simp only [sA, Int.reduceNegSucc, reduceCtorEq, Nat.reduceEqDiff, ↓reduceIte, Nat.reduceAdd, Int.reduceEq, Int.reduceLT, Int.reduceLE, Nat.reduceLT]; try rfl, by simp only [sA, Int.reduceNegSucc, reduceCtorEq, Nat.reduceEqDiff, ↓reduceIte, Nat.reduceAdd, Int.reduceEq, Int.reduceLT, Int.reduceLE, Nat.reduceLT]; try rfl, by rw [AHeap.get_push]; exact if_pos rfl, Nat.lt_succ_self _, by simp only [sA, Int.reduceNegSucc, reduceCtorEq, Nat.reduceEqDiff, ↓reduceIte, Nat.reduceAdd, Int.reduceEq, Int.reduceLT, Int.reduceLE, Nat.reduceLT]; exact B0.mono fun b hb => by omega, by simp only [sA, Int.reduceNegSucc, reduceCtorEq, Nat.reduceEqDiff, ↓reduceIte, Nat.reduceAdd, Int.reduceEq, Int.reduceLT, Int.reduceLE, Nat.reduceLT]; exact B0.mono fun b hb => by omega, by show (-1 : Int) < 0; omega, by simp only [sA, Int.reduceNegSucc, reduceCtorEq, Nat.reduceEqDiff, ↓reduceIte, Nat.reduceAdd, Int.reduceEq, Int.reduceLT, Int.reduceLE, Nat.reduceLT]; exact G1, by simp, by simp, by simp, rfl, (E0.push (by have := E0.next; omega) _)⟩ ?_
    rintro q T H' ⟨l, b, z, pos, f, rfl, hf, g0, g1, g6, g14, hit, hlt, hd, hlo, hz, hG, hp, hl, hl2, hsp, E⟩
    by_cases hr : rune s pos = none
    · have e : spans s f pos b l = (b, l) := by
        cases f with
        | zero => rfl
        | succ f => simp only [spans, hr]
      rw [e] at hsp
      have e0 : aExtract 0 (.tuple [.bool false]) = some (.bool false) := rfl
      simp only [sA, Int.reduceNegSucc, reduceCtorEq, Nat.reduceEqDiff, ↓reduceIte, Nat.reduceAdd, Int.reduceEq, Int.reduceLT, Int.reduceLE, Nat.reduceLT, g0, g1, g6, g14, next_end hit hr, e0]
      refine ⟨l, b, z, (by first | with_reducible rfl | trivial | rfl | assumption), (by first | with_reducible rfl | trivial | rfl | assumption), ?_, hG, hlo, hp, hl2, hsp.symm, E⟩
      cases b with
      | none => exact hz
      | some i => exact ⟨hz.1, hz.2.2⟩
    · obtain ⟨⟨r, n⟩, hr⟩ := Option.ne_none_iff_exists'.1 hr
      obtain ⟨hn1, hpl⟩ := rune_pos hr
      obtain ⟨f, rfl⟩ : ∃ k, f = k + 1 := ⟨f - 1, by omega⟩
      obtain ⟨H1, e1⟩ : ∃ K, K = H'.set H0.next (.iter s (pos + n)) := ⟨_, rfl⟩
      have k1 : H1.next = H'.next := by rw [e1]; rfl
      have i1 : H1.get H0.next = some (.iter s (pos + n)) := by rw [e1, AHeap.get_set, if_pos rfl]
      have o1 : ∀ c, c ≠ H0.next → H1.get c = H'.get c := fun c hc => by rw [e1, AHeap.get_set, if_neg hc]
      have hG1 : GrN 2 0 H1 (T 5) (spC l) l.length := hG.same (by omega) (hd.mono fun c hc => o1 c hc.symm)
      have E1 : Ext H.next H H1 := ⟨by have := E.next; omega, fun c hc => by rw [o1 c (by omega)]; exact E.old c hc⟩
      simp only [sA, Int.reduceNegSucc, reduceCtorEq, Nat.reduceEqDiff, ↓reduceIte, Nat.reduceAdd, Int.reduceEq, Int.reduceLT, Int.reduceLE, Nat.reduceLT, g0, g1, g6, g14, next_some hit hr, ← e1, ext_0, ext_1, ext_2]
      refine (sep_spec r).mono ?_
      rintro v _ ⟨rfl, rfl⟩
      rw [spans, hr] at hsp
      cases hb : sepR r with
      | true =>
        simp only [hb, if_true] at hsp
        cases b with
        | none =>
          have hz' : ¬ (0 : Int) ≤ z := by
            have : z < 0 := hz
            omega
          simp only [sA, Int.reduceNegSucc, reduceCtorEq, Nat.reduceEqDiff, ↓reduceIte, Nat.reduceAdd, Int.reduceEq, Int.reduceLT, Int.reduceLE, Nat.reduceLT, g0, g1, g6, g14, hz']
          exact ⟨_, by omega, l, none, z, pos + n, f, rfl, by omega, (by first | with_reducible rfl | trivial | rfl | assumption), (by first | with_reducible rfl | trivial | rfl | assumption), (by first | with_reducible rfl | trivial | rfl | assumption), (by first | with_reducible rfl | trivial | rfl | assumption), i1, by omega, hd, hlo, hz, hG1, hp, by omega, hl2, hsp, E1⟩
        | some i =>
          obtain ⟨rfl, hi1, hi2⟩ := hz
          have hz' : (0 : Int) ≤ (i : Int) := by omega
          obtain ⟨zx, x1, x2⟩ := un_xor (i := i) (by omega)
          obtain ⟨s', H2, m2, G2, n2, b2, o2⟩ := hG1.push (xs := [.int .i64 (i : Int), .int .i64 (pos : Int)]) rfl rfl (by omega) (bytes := 16) (by omega) (by omega)
          have bp : aBuild [.int .i64 0, .int .i64 0] [(0, 1, .int .i64 (i : Int)), (1, 1, .int .i64 (pos : Int))] = some (.agg [.int .i64 (i : Int), .int .i64 (pos : Int)]) := rfl
          have bm := buildM (m := 2) (z := [.int .i64 0, .int .i64 0]) (xs := [.int .i64 (i : Int), .int .i64 (pos : Int)]) H1 rfl rfl
          simp only [sA, Int.reduceNegSucc, reduceCtorEq, Nat.reduceEqDiff, ↓reduceIte, Nat.reduceAdd, Int.reduceEq, Int.reduceLT, Int.reduceLE, Nat.reduceLT, g0, g1, g6, g14, hz', bp, bm, m2, x1]
          refine ⟨_, by omega, l ++ [(i, pos)], none, zx, pos + n, f, rfl, by omega, (by first | with_reducible rfl | trivial | rfl | assumption), (by first | with_reducible rfl | trivial | rfl | assumption), (by first | with_reducible rfl | trivial | rfl | assumption), (by first | with_reducible rfl | trivial | rfl | assumption), by rw [o2 _ (by omega) hd]; exact i1, by omega, (b2 _ hd).mono fun c hc => by omega, (b2 _ hlo).mono fun c hc => by have := E1.next; omega, x2, by rw [spC_snoc, List.length_append]; exact G2, ?_, by simp; omega, ?_, hsp, ⟨by have := E1.next; omega, fun c hc => by rw [o2 c (by have := E1.next; omega) (hlo.mono fun d hd => by omega)]; exact E1.old c hc⟩⟩
          · intro p hpm
            rcases List.mem_append.1 hpm with h | h
            · exact hp p h
            · have : p = (i, pos) := by simpa using h
              rw [this]; exact ⟨hi1, by show pos ≤ s.length; omega⟩
          · simp; omega
      | false =>
        simp only [hb, Bool.false_eq_true, if_false] at hsp
        cases b with
        | none =>
          have hz' : z < 0 := hz
          simp only [sA, Int.reduceNegSucc, reduceCtorEq, Nat.reduceEqDiff, ↓reduceIte, Nat.reduceAdd, Int.reduceEq, Int.reduceLT, Int.reduceLE, Nat.reduceLT, g0, g1, g6, g14, hz']
          exact ⟨_, by omega, l, some pos, (pos : Int), pos + n, f, rfl, by omega, (by first | with_reducible rfl | trivial | rfl | assumption), (by first | with_reducible rfl | trivial | rfl | assumption), (by first | with_reducible rfl | trivial | rfl | assumption), (by first | with_reducible rfl | trivial | rfl | assumption), i1, by omega, hd, hlo, ⟨rfl, by omega, by omega⟩, hG1, hp, by omega, hl2, hsp, E1⟩
        | some i =>
          obtain ⟨rfl, hi1, hi2⟩ := hz
          have hz' : ¬ (i : Int) < 0 := by omega
          simp only [sA, Int.reduceNegSucc, reduceCtorEq, Nat.reduceEqDiff, ↓reduceIte, Nat.reduceAdd, Int.reduceEq, Int.reduceLT, Int.reduceLE, Nat.reduceLT, g0, g1, g6, g14, hz']
          exact ⟨_, by omega, l, some i, (i : Int), pos + n, f, rfl, by omega, (by first | with_reducible rfl | trivial | rfl | assumption), (by first | with_reducible rfl | trivial | rfl | assumption), (by first | with_reducible rfl | trivial | rfl | assumption), (by first | with_reducible rfl | trivial | rfl | assumption), i1, by omega, hd, hlo, ⟨rfl, by omega, hi2⟩, hG1, hp, by omega, hl2, hsp, E1⟩
  · rintro T H' ⟨l, b, z, g0, g6, hz, hG, hlo, hp, hl, hsp, E⟩
    rw [inSeq_normal]
    refine aw_seqF (fun (T : Env) H' => T 0 = .str s ∧ GrN 2 0 H' (T 5) (spC (fields s)) (fields s).length ∧ (∀ p ∈ fields s, p.1 ≤ p.2 ∧ p.2 ≤ s.length) ∧ (fields s).length ≤ s.length + 1 ∧ Ext H.next H H') (calls_mono _ _) ?_ ?_
    · cases b with
      | none =>
        have e : fields s = l := by rw [fields, hsp]
        have hz' : ¬ (0 : Int) ≤ z := by
          have : z < 0 := hz
          omega
        simp only [sA, Int.reduceNegSucc, reduceCtorEq, Nat.reduceEqDiff, ↓reduceIte, Nat.reduceAdd, Int.reduceEq, Int.reduceLT, Int.reduceLE, Nat.reduceLT, g0, g6, hz']
        exact ⟨(by first | with_reducible rfl | trivial | rfl | assumption), by rw [e]; exact hG, by rw [e]; exact hp, by rw [e]; omega, E⟩
      | some i =>
        have e : fields s = l ++ [(i, s.length)] := by rw [fields, hsp]
        obtain ⟨rfl, hi2⟩ := hz
        have hz' : (0 : Int) ≤ (i : Int) := by omega
        obtain ⟨s', H2, m2, G2, n2, b2, o2⟩ := hG.push (xs := [.int .i64 (i : Int), .int .i64 (s.length : Int)]) rfl rfl (by omega) (bytes := 16) (by omega) (by omega)
        have bp : aBuild [.int .i64 0, .int .i64 0] [(0, 1, .int .i64 (i : Int)), (1, 1, .int .i64 (s.length : Int))] = some (.agg [.int .i64 (i : Int), .int .i64 (s.length : Int)]) := rfl
        have bm := buildM (m := 2) (z := [.int .i64 0, .int .i64 0]) (xs := [.int .i64 (i : Int), .int .i64 (s.length : Int)]) H' rfl rfl
        simp only [sA, Int.reduceNegSucc, reduceCtorEq, Nat.reduceEqDiff, ↓reduceIte, Nat.reduceAdd, Int.reduceEq, Int.reduceLT, Int.reduceLE, Nat.reduceLT, g0, g6, hz', bp, bm, m2]
        refine ⟨(by first | with_reducible rfl | trivial | rfl | assumption), by rw [e, spC_snoc, List.length_append]; exact G2, ?_, by rw [e]; simp; omega, ⟨by have := E.next; omega, fun c hc => by rw [o2 c (by have := E.next; omega) (hlo.mono fun d hd => by omega)]; exact E.old c hc⟩⟩
        rw [e]
        intro p hpm
        rcases List.mem_append.1 hpm with h | h
        · exact hp p h
        · have : p = (i, s.length) := by simpa using h
          rw [this]; exact ⟨hi2, Nat.le_refl _⟩
    · clear hsp hp hl hG hlo hz g0 g6 E T H'
      rintro T H' ⟨g0, hG, hp, hl, E⟩
      generalize hfl : fields s = l at *
      obtain ⟨H1, m1, R1, k1, o1⟩ := row_make1 (H := H') (z := .str []) (bytes := 16) (k := l.length) (by omega) (by omega)
      have E1 : Ext H.next H H1 := ⟨by have := E.next; omega, fun c hc => by rw [o1 _ (by have := E.next; omega)]; exact E.old c hc⟩
      have hG1 : GrN 2 0 H1 (T 5) (spC l) l.length := hG.same (by omega) (hG.blk.mono fun c hc => o1 c (by omega))
      simp only [sA, Int.reduceNegSucc, reduceCtorEq, Nat.reduceEqDiff, ↓reduceIte, Nat.reduceAdd, Int.reduceEq, Int.reduceLT, Int.reduceLE, Nat.reduceLT, g0, hG.len, m1]
      refine aw_loop (fun q (T2 : Env) H2 => ∃ j : Nat, j ≤ l.length ∧ q = l.length - j ∧ T2 0 = .str s ∧ T2 9 = slR H'.next l.length (.known l.length) ∧ T2 47 = T 5 ∧ T2 48 = .int .i64 (l.length : Int) ∧ T2 49 = .int .i64 (j : Int) ∧ Row H2 H'.next (strs ((l.take j).map (partS s)) ++ List.replicate (l.length - j) (.str [])) ∧ GrN 2 0 H2 (T 5) (spC l) l.length ∧ H'.next < H2.next ∧ Ext H.next H H2) l.length
        ⟨0, Nat.zero_le _, rfl, by simp only [sA, Int.reduceNegSucc, reduceCtorEq, Nat.reduceEqDiff, ↓reduceIte, Nat.reduceAdd, Int.reduceEq, Int.reduceLT, Int.reduceLE, Nat.reduceLT, g0]; try rfl, by simp only [sA, Int.reduceNegSucc, reduceCtorEq, Nat.reduceEqDiff, ↓reduceIte, Nat.reduceAdd, Int.reduceEq, Int.reduceLT, Int.reduceLE, Nat.reduceLT]; try rfl, by simp only [sA, Int.reduceNegSucc, reduceCtorEq, Nat.reduceEqDiff, ↓reduceIte, Nat.reduceAdd, Int.reduceEq, Int.reduceLT, Int.reduceLE, Nat.reduceLT]; try rfl, by simp only [sA, Int.reduceNegSucc, reduceCtorEq, Nat.reduceEqDiff, ↓reduceIte, Nat.reduceAdd, Int.reduceEq, Int.reduceLT, Int.reduceLE, Nat.reduceLT]; try rfl, by simp only [sA, Int.reduceNegSucc, reduceCtorEq, Nat.reduceEqDiff, ↓reduceIte, Nat.reduceAdd, Int.reduceEq, Int.reduceLT, Int.reduceLE, Nat.reduceLT]; try rfl, by simpa [strs] using R1, hG1, by omega, E1⟩ ?_
      rintro q T2 H2 ⟨j, hj, rfl, f0, f9, f47, f48, f49, hR, hG2, hn2, E2⟩
      have hlen : (strs ((l.take j).map (partS s)) ++ List.replicate (l.length - j) (AVal.str [])).length = l.length := by simp [strs]; omega
      by_cases hlt : j < l.length
      · have hlt' : (j : Int) < (l.length : Int) := by omega
        obtain ⟨p, hpj⟩ := isSome_of_lt hlt
        obtain ⟨hp1, hp2⟩ := hp p (List.mem_of_getElem? hpj)
        obtain ⟨b, lim, a1, a2⟩ := hG2.at hlt
        rw [spC_at hpj] at a2
        obtain ⟨H3, m3, r3, k3, o3⟩ := row_newL H2 [.int .i64 0, .int .i64 0] (n := 2) rfl
        obtain ⟨H4, m4, r4, k4, o4⟩ := row_storeN r3 (n := 2) rfl (xs := [.int .i64 (p.1 : Int), .int .i64 (p.2 : Int)]) rfl rfl
        have R4 := hR.same (H' := H4) (by rw [o4 _ (by omega), o3 _ (by omega)])
        have hj4 : j < (strs ((l.take j).map (partS s)) ++ List.replicate (l.length - j) (AVal.str [])).length := by omega
        obtain ⟨H5, m5, r5, k5, o5⟩ := row_store R4 hlen hlt (x := .str (partS s p)) rfl
        have hsl := str_sl (s := s) hp1 hp2
        simp only [sA, Int.reduceNegSucc, reduceCtorEq, Nat.reduceEqDiff, ↓reduceIte, Nat.reduceAdd, Int.reduceEq, Int.reduceLT, Int.reduceLE, Nat.reduceLT, f0, f9, f47, f48, f49, hlt', a1, a2, m3, m4, fld0, row_load r4 (n := 2) rfl (i := 0) rfl, row_load r4 (n := 2) rfl (i := 1) rfl, hsl, row_idx .i64 hlt]
        have m5' : oStore 1 H4 (cellR H'.next l.length j) (.str ((s.drop p.1).take (p.2 - p.1))) = some H5 := m5
        simp only [sA, Int.reduceNegSucc, reduceCtorEq, Nat.reduceEqDiff, ↓reduceIte, Nat.reduceAdd, Int.reduceEq, Int.reduceLT, Int.reduceLE, Nat.reduceLT, m5', f49, wrap1 j (by omega)]
        have hbk : Blk (T 5) (· < H'.next) := hG.blk
        refine ⟨_, by omega, j + 1, by omega, rfl, (by first | with_reducible rfl | trivial | rfl | assumption), (by first | with_reducible rfl | trivial | rfl | assumption), (by first | with_reducible rfl | trivial | rfl | assumption), (by first | with_reducible rfl | trivial | rfl | assumption), (by first | with_reducible rfl | trivial | rfl | assumption), ?_, hG2.same (by omega) (hbk.mono fun c hc => by rw [o5 _ (by omega), o4 _ (by omega), o3 _ (by omega)]), by omega, ⟨by have := E2.next; omega, fun c hc => by rw [o5 _ (by have := E.next; omega), o4 _ (by have := E2.next; omega), o3 _ (by have := E2.next; omega)]; exact E2.old c hc⟩⟩
        have e : (strs ((l.take j).map (partS s)) ++ List.replicate (l.length - j) (AVal.str [])).set j (.str (partS s p)) = strs ((l.take (j + 1)).map (partS s)) ++ List.replicate (l.length - (j + 1)) (AVal.str []) := by
          have h1 : (strs ((l.take j).map (partS s))).length = j := by simp [strs]; omega
          have h2 : List.replicate (l.length - j) (AVal.str []) = .str [] :: List.replicate (l.length - (j + 1)) (AVal.str []) := by
            rw [show l.length - j = (l.length - (j + 1)) + 1 by omega, List.replicate_succ]
          rw [h2]
          have h3 := set_snoc (strs ((l.take j).map (partS s))) (List.replicate (l.length - (j + 1)) (AVal.str [])) (AVal.str []) (.str (partS s p))
          rw [h1] at h3
          rw [h3, List.take_add_one, hpj]
          simp [strs]
        rw [e] at r5
        exact r5
      · have hlt' : ¬ (j : Int) < (l.length : Int) := by omega
        have hj : j = l.length := by omega
        subst hj
        rw [List.take_length, Nat.sub_self, List.replicate_zero, List.append_nil] at hR
        simp only [sA, Int.reduceNegSucc, reduceCtorEq, Nat.reduceEqDiff, ↓reduceIte, Nat.reduceAdd, Int.reduceEq, Int.reduceLT, Int.reduceLE, Nat.reduceLT, f0, f9, f47, f48, f49, hlt']
        refine ⟨?_, hl, E2⟩
        have := hR.cel (n := l.length) (r := .known l.length) (m := H2.next) (by simp [strs]) hn2
        exact this
theorem closes_spec (s : Bs) (hs : s.length ≤ 1000000) {H : AHeap} : ACalls Tryz.prog natX 105 [.str s] H fun v H' => v = .bool (closesF s) ∧ Ext H.next H H' := by
  refine acalls_ofN rfl za105 rfl ?_
  simp only [c105, sA, Int.reduceNegSucc, reduceCtorEq, Nat.reduceEqDiff, ↓reduceIte, Nat.reduceAdd, Int.reduceEq, Int.reduceLT, Int.reduceLE, Nat.reduceLT]
  refine (ff_spec s hs).mono ?_
  rintro v H1 ⟨hC, hfl, E1⟩
  obtain ⟨l, hl⟩ : ∃ l, l = (fields s).map (partS s) := ⟨_, rfl⟩
  rw [← hl] at hC
  have hlen := hC.len
  have hsl : (strs l).length = l.length := strs_len l
  rw [hsl] at hlen
  have hcl : closesF s = l.any fun p => decide (low p = closeW) := by rw [closesF, hl, List.any_map]; rfl
  have hll : l.length ≤ 2000000 := by rw [hl, List.length_map]; omega
  simp only [sA, Int.reduceNegSucc, reduceCtorEq, Nat.reduceEqDiff, ↓reduceIte, Nat.reduceAdd, Int.reduceEq, Int.reduceLT, Int.reduceLE, Nat.reduceLT, hlen]
  refine aw_loop (fun q (T : Env) H' => ∃ j : Nat, j ≤ l.length ∧ q = l.length - j ∧ T 8 = v ∧ T 9 = .int .i64 (l.length : Int) ∧ T 10 = .int .i64 (j : Int) ∧ ((l.take j).any fun p => decide (low p = closeW)) = false ∧ Ext H1.next H1 H') l.length
    ⟨0, Nat.zero_le _, rfl, by simp only [sA, Int.reduceNegSucc, reduceCtorEq, Nat.reduceEqDiff, ↓reduceIte, Nat.reduceAdd, Int.reduceEq, Int.reduceLT, Int.reduceLE, Nat.reduceLT]; try rfl, by simp only [sA, Int.reduceNegSucc, reduceCtorEq, Nat.reduceEqDiff, ↓reduceIte, Nat.reduceAdd, Int.reduceEq, Int.reduceLT, Int.reduceLE, Nat.reduceLT]; try rfl, by simp only [sA, Int.reduceNegSucc, reduceCtorEq, Nat.reduceEqDiff, ↓reduceIte, Nat.reduceAdd, Int.reduceEq, Int.reduceLT, Int.reduceLE, Nat.reduceLT]; try rfl, rfl, Ext.refl _ _⟩ ?_
  rintro q T H' ⟨j, hj, rfl, g8, g9, g10, hA, E⟩
  have hC' := hC.ext E
  by_cases hlt : j < l.length
  · have hlt' : (j : Int) < (l.length : Int) := by omega
    obtain ⟨p, hp⟩ := isSome_of_lt hlt
    have hpl : p.length ≤ 1000000 := by
      have := List.mem_of_getElem? hp
      rw [hl] at this
      obtain ⟨x, _, rfl⟩ := List.mem_map.1 this
      simp only [partS, List.length_take, List.length_drop]; omega
    simp only [sA, Int.reduceNegSucc, reduceCtorEq, Nat.reduceEqDiff, ↓reduceIte, Nat.reduceAdd, Int.reduceEq, Int.reduceLT, Int.reduceLE, Nat.reduceLT, g8, g9, g10, hlt', hC'.idx .i64 (show j < (strs l).length by omega), hC'.load (strs_get hp)]
    refine (lower_spec p hpl).mono ?_
    rintro v2 H2 ⟨rfl, E2⟩
    by_cases he : low p = closeW
    · have he' : low p = [99, 108, 111, 115, 101] := he
      simp only [sA, Int.reduceNegSucc, reduceCtorEq, Nat.reduceEqDiff, ↓reduceIte, Nat.reduceAdd, Int.reduceEq, Int.reduceLT, Int.reduceLE, Nat.reduceLT, g8, g9, g10, eq_true he']
      refine ⟨?_, (E1.trans (E.less E1.next)).trans (E2.less (by have := E1.next; have := E.next; omega))⟩
      have : (l.any fun p => decide (low p = closeW)) = true := List.any_eq_true.2 ⟨p, List.mem_of_getElem? hp, by simp [he]⟩
      rw [hcl, this]
    · have he' : ¬ low p = [99, 108, 111, 115, 101] := he
      simp only [sA, Int.reduceNegSucc, reduceCtorEq, Nat.reduceEqDiff, ↓reduceIte, Nat.reduceAdd, Int.reduceEq, Int.reduceLT, Int.reduceLE, Nat.reduceLT, g8, g9, g10, eq_false he', wrap1 j (by omega)]
      refine ⟨_, by omega, j + 1, by omega, rfl, (by first | with_reducible rfl | trivial | rfl | assumption), (by first | with_reducible rfl | trivial | rfl | assumption), (by first | with_reducible rfl | trivial | rfl | assumption), ?_, E.trans (E2.less E.next)⟩
      rw [List.take_add_one, hp, List.any_append, hA]; simp [he]
  · have hlt' : ¬ (j : Int) < (l.length : Int) := by omega
    rw [List.take_of_length_le (by omega)] at hA
    simp only [sA, Int.reduceNegSucc, reduceCtorEq, Nat.reduceEqDiff, ↓reduceIte, Nat.reduceAdd, Int.reduceEq, Int.reduceLT, Int.reduceLE, Nat.reduceLT, g8, g9, g10, hlt']
    exact ⟨by rw [hcl, hA], E1.trans (E.less E1.next)⟩
end Go.Proofs.Ht
namespace Go.Proofs.Ht
open Go.Abs Go.Abs.S
set_option linter.unusedSimpArgs false
def hsSz (hs : List (Bs × Bs)) : Nat := (hs.map fun h => h.1.length + h.2.length).sum
def rqSz (r : Rq) : Nat := r.m.length + r.t.length + r.body.length + hsSz r.hs
def sumSz (rd : List Rq) : Nat := (rd.map rqSz).sum
def szF (rd : List Rq) : Int := IntKind.i64.wrap (sumSz rd : Int)
def rqC (r : Rq) (vh vb : AVal) : List AVal := [.str r.m, .str r.t, vh, vb, .bool r.close]
def pC (p : Nat) (s : PS) (vl vh vb vr : AVal) (sz : Int) : List AVal :=
  [cellR p 15 0, .int .i64 (s.st : Int), .int .i64 (s.fault : Int), vl, .bool s.blank, .str s.now.m, .str s.now.t, vh, vb, .bool s.now.close, .int .i64 (s.need : Int), .int .i64 (s.trailers : Int), .int .i64 (s.fed : Int), vr, .int .i64 sz]
def LC (n : Nat) (τ : Nat → Nat) (H : AHeap) (v : AVal) (l : Bs) (k : Nat) : Prop := Lin H v l ∧ Blk v fun b => b < n ∧ τ b = k
def HC (n : Nat) (τ : Nat → Nat) (H : AHeap) (v : AVal) (hs : List (Bs × Bs)) : Prop := AppN 2 0 H v (prC hs) hs.length ∧ Blk v fun b => b < n ∧ τ b = 3
def RqAt (n : Nat) (τ : Nat → Nat) (H : AHeap) (cs : List AVal) (r : Rq) : Prop := ∃ vh vb, cs = rqC r vh vb ∧ vh.one = true ∧ vb.one = true ∧ Prs n H vh r.hs ∧ Cel n H vb (byts r.body) ∧ Blk vh (fun b => τ b = 6) ∧ Blk vb fun b => τ b = 6
def RC (t n : Nat) (τ : Nat → Nat) (H : AHeap) (v : AVal) (rd : List Rq) : Prop :=
  (v = nilS ∧ rd = []) ∨ ∃ b o low L, v = .slice (some ⟨b, L.length, o⟩) rd.length (.open_ 5) ∧ H.get b = some (.cells L low false) ∧ low ≤ L.length ∧ o + rd.length * 5 = L.length ∧ b < n ∧ τ b = t ∧ ∀ i r, rd[i]? = some r → RqAt n τ H ((L.drop (o + i * 5)).take 5) r
theorem LC.fr {n n' k : Nat} {τ τ' : Nat → Nat} {H H' : AHeap} {v : AVal} {l : Bs} (h : LC n τ H v l k) (hn : n ≤ n') (hH : H.next ≤ H'.next) (ht : ∀ c, c < n → τ c = k → τ' c = k) (e : ∀ c, c < n → τ c = k → H'.get c = H.get c) : LC n' τ' H' v l k :=
  ⟨h.1.same hH (h.2.mono fun b hb => e b hb.1 hb.2), h.2.mono fun b hb => ⟨by omega, ht b hb.1 hb.2⟩⟩
theorem HC.fr {n n' : Nat} {τ τ' : Nat → Nat} {H H' : AHeap} {v : AVal} {l : List (Bs × Bs)} (h : HC n τ H v l) (hn : n ≤ n') (hH : H.next ≤ H'.next) (ht : ∀ c, c < n → τ c = 3 → τ' c = 3) (e : ∀ c, c < n → τ c = 3 → H'.get c = H.get c) : HC n' τ' H' v l :=
  ⟨h.1.same hH (h.2.mono fun b hb => e b hb.1 hb.2), h.2.mono fun b hb => ⟨by omega, ht b hb.1 hb.2⟩⟩
theorem _root_.Go.Abs.S.Prs.fr {n n' : Nat} {H H' : AHeap} {s : AVal} {l : List (List UInt8 × List UInt8)} (h : Prs n H s l) (hn : n ≤ n') (e : Blk s fun b => H'.get b = H.get b) : Prs n' H' s l := by
  rcases h with h | ⟨a, r, rfl, h2, h3⟩
  · exact .inl h
  · exact .inr ⟨a, r, rfl, by omega, fun i p hp => by
    have he : H'.get a.b = H.get a.b := e a _ _ rfl
    rw [rd_congr (a := ⟨a.b, a.lim, a.o + i * 2⟩) he]; exact h3 i p hp⟩
theorem _root_.Go.Abs.S.Prs.bl {n : Nat} {H : AHeap} {s : AVal} {l : List (List UInt8 × List UInt8)} (h : Prs n H s l) : Blk s (· < n) := by
  rcases h with ⟨rfl, _⟩ | ⟨a, r, rfl, h2, _⟩
  · exact blk_nil _
  · exact blk_some h2
theorem _root_.Go.Abs.S.Cel.fr {n n' : Nat} {H H' : AHeap} {s : AVal} {l : List AVal} (h : Cel n H s l) (hn : n ≤ n') (e : Blk s fun b => H'.get b = H.get b) : Cel n' H' s l := by
  rcases h with h | ⟨a, r, rfl, h2, h3⟩
  · exact .inl h
  · exact .inr ⟨a, r, rfl, by omega, by rw [rd_congr (e _ _ _ rfl)]; exact h3⟩
theorem _root_.Go.Abs.S.Cel.bl {n : Nat} {H : AHeap} {s : AVal} {l : List AVal} (h : Cel n H s l) : Blk s (· < n) := by
  rcases h with h | ⟨a, r, rfl, h2, _⟩
  · exact isE_blk h.1 _
  · exact blk_some h2
theorem RqAt.fr {n n' : Nat} {τ τ' : Nat → Nat} {H H' : AHeap} {cs : List AVal} {r : Rq} (h : RqAt n τ H cs r) (hn : n ≤ n') (ht : ∀ c, c < n → τ c = 6 → τ' c = 6) (e : ∀ c, c < n → τ c = 6 → H'.get c = H.get c) : RqAt n' τ' H' cs r := by
  obtain ⟨vh, vb, h1, h2, h3, h4, h5, h6, h7⟩ := h
  have b4 := (h4.bl.and h6)
  have b5 := (h5.bl.and h7)
  exact ⟨vh, vb, h1, h2, h3, h4.fr hn (b4.mono fun b hb => e b hb.1 hb.2), h5.fr hn (b5.mono fun b hb => e b hb.1 hb.2), b4.mono fun b hb => ht b hb.1 hb.2, b5.mono fun b hb => ht b hb.1 hb.2⟩
theorem RC.fr {t n n' : Nat} {τ τ' : Nat → Nat} {H H' : AHeap} {v : AVal} {rd : List Rq} (h : RC t n τ H v rd) (hn : n ≤ n') (ht : ∀ c, c < n → τ c = 6 ∨ τ c = t → τ' c = τ c) (e : ∀ c, c < n → τ c = 6 ∨ τ c = t → H'.get c = H.get c) : RC t n' τ' H' v rd := by
  rcases h with h | ⟨b, o, low, L, rfl, h2, h3, h4, h5, h6, h7⟩
  · exact .inl h
  · exact .inr ⟨b, o, low, L, rfl, (e b h5 (.inr h6)).trans h2, h3, h4, by omega, by rw [ht b h5 (.inr h6)]; exact h6, fun i r hr => (h7 i r hr).fr hn (fun c hc h0 => by rw [ht c hc (.inl h0)]; exact h0) fun c hc h0 => e c hc (.inl h0)⟩
theorem RC.len {t n : Nat} {τ : Nat → Nat} {H : AHeap} {v : AVal} {rd : List Rq} (h : RC t n τ H v rd) : aLenK false v = some (.int .i64 (rd.length : Int)) := by
  rcases h with ⟨rfl, rfl⟩ | ⟨b, o, low, L, rfl, _⟩ <;> rfl
theorem RC.bl {t n : Nat} {τ : Nat → Nat} {H : AHeap} {v : AVal} {rd : List Rq} (h : RC t n τ H v rd) : Blk v fun b => b < n ∧ τ b = t := by
  rcases h with ⟨rfl, rfl⟩ | ⟨b, o, low, L, rfl, _, _, _, h5, h6, _⟩
  · exact blk_nil _
  · exact blk_some ⟨h5, h6⟩
structure PV (n : Nat) (τ : Nat → Nat) (H : AHeap) (p : Nat) (s : PS) (rd : List Rq) (vl vh vb vr : AVal) : Prop where
  row : Row H p (pC p s vl vh vb vr (szF rd))
  pn : p < n
  nn : n ≤ H.next
  tp : τ p = 1
  tz : ∀ c, n ≤ c → τ c = 0
  l : LC n τ H vl s.line 2
  h : HC n τ H vh s.now.hs
  b : LC n τ H vb s.now.body 4
  r : RC 5 n τ H vr rd
def PR (n : Nat) (τ : Nat → Nat) (H : AHeap) (p : Nat) (s : PS) (rd : List Rq) : Prop := ∃ vl vh vb vr, PV n τ H p s rd vl vh vb vr
def Fr (τ : Nat → Nat) (H : AHeap) (τ' : Nat → Nat) (H' : AHeap) : Prop := H.next ≤ H'.next ∧ ∀ c, c < H.next → (τ c = 0 ∨ τ c = 6) → τ' c = τ c ∧ H'.get c = H.get c
theorem Fr.refl (τ : Nat → Nat) (H : AHeap) : Fr τ H τ H := ⟨Nat.le_refl _, fun _ _ _ => ⟨rfl, rfl⟩⟩
theorem Fr.trans {τ τ' τ'' : Nat → Nat} {H H' H'' : AHeap} (h : Fr τ H τ' H') (k : Fr τ' H' τ'' H'') : Fr τ H τ'' H'' :=
  ⟨Nat.le_trans h.1 k.1, fun c hc h0 => by
    obtain ⟨e1, e2⟩ := h.2 c hc h0
    obtain ⟨e3, e4⟩ := k.2 c (Nat.lt_of_lt_of_le hc h.1) (by rw [e1]; exact h0)
    exact ⟨e3.trans e1, e4.trans e2⟩⟩
theorem Fr.of_ext {τ : Nat → Nat} {H H' : AHeap} (e : Ext H.next H H') : Fr τ H τ H' := ⟨e.next, fun c hc _ => ⟨rfl, e.old c hc⟩⟩
theorem PV.ext {n : Nat} {τ : Nat → Nat} {H H' : AHeap} {p : Nat} {s : PS} {rd : List Rq} {vl vh vb vr : AVal} (P : PV n τ H p s rd vl vh vb vr) (hH : H.next ≤ H'.next) (e : ∀ c, c < n → H'.get c = H.get c) : PV n τ H' p s rd vl vh vb vr :=
  ⟨P.row.same (e p P.pn), P.pn, Nat.le_trans P.nn hH, P.tp, P.tz, P.l.fr (Nat.le_refl _) hH (fun _ _ h => h) (fun c hc _ => e c hc), P.h.fr (Nat.le_refl _) hH (fun _ _ h => h) (fun c hc _ => e c hc), P.b.fr (Nat.le_refl _) hH (fun _ _ h => h) (fun c hc _ => e c hc), P.r.fr (Nat.le_refl _) (fun _ _ _ => rfl) (fun c hc _ => e c hc)⟩
theorem PV.more {n m : Nat} {τ : Nat → Nat} {H : AHeap} {p : Nat} {s : PS} {rd : List Rq} {vl vh vb vr : AVal} (P : PV n τ H p s rd vl vh vb vr) (hm : n ≤ m) (hH : m ≤ H.next) : PV m τ H p s rd vl vh vb vr :=
  ⟨P.row, by have := P.pn; omega, hH, P.tp, fun c hc => P.tz c (by omega), P.l.fr hm (Nat.le_refl _) (fun _ _ h => h) (fun _ _ _ => rfl), P.h.fr hm (Nat.le_refl _) (fun _ _ h => h) (fun _ _ _ => rfl), P.b.fr hm (Nat.le_refl _) (fun _ _ h => h) (fun _ _ _ => rfl), P.r.fr hm (fun _ _ _ => rfl) (fun _ _ _ => rfl)⟩
theorem PV.own {n : Nat} {τ : Nat → Nat} {H H' : AHeap} {p : Nat} {s s' : PS} {rd : List Rq} {vl vh vb vr : AVal} (P : PV n τ H p s rd vl vh vb vr) (hR : Row H' p (pC p s' vl vh vb vr (szF rd))) (hn : H'.next = H.next) (o : ∀ c, c ≠ p → H'.get c = H.get c) (hl : s'.line = s.line) (hh : s'.now.hs = s.now.hs) (hb : s'.now.body = s.now.body) : PV n τ H' p s' rd vl vh vb vr := by
  have tp := P.tp
  have f : ∀ k, k ≠ 1 → ∀ c, c < n → τ c = k → H'.get c = H.get c := fun k hk c _ hc => o c (by rintro rfl; omega)
  have hle : H.next ≤ H'.next := by omega
  exact ⟨hR, P.pn, by have := P.nn; omega, P.tp, P.tz, by rw [hl]; exact P.l.fr (Nat.le_refl _) hle (fun _ _ h => h) (f 2 (by omega)), by rw [hh]; exact P.h.fr (Nat.le_refl _) hle (fun _ _ h => h) (f 3 (by omega)), by rw [hb]; exact P.b.fr (Nat.le_refl _) hle (fun _ _ h => h) (f 4 (by omega)), P.r.fr (Nat.le_refl _) (fun _ _ _ => rfl) (fun c _ hc => o c (by rintro rfl; omega))⟩
theorem PV.lds {n : Nat} {τ : Nat → Nat} {H : AHeap} {p : Nat} {s : PS} {rd : List Rq} {vl vh vb vr : AVal} (P : PV n τ H p s rd vl vh vb vr) :
    oLoad false 1 H (cellR p 15 0) = some (cellR p 15 0) ∧ oLoad false 1 H (cellR p 15 1) = some (.int .i64 (s.st : Int)) ∧ oLoad false 1 H (cellR p 15 2) = some (.int .i64 (s.fault : Int)) ∧ oLoad false 1 H (cellR p 15 3) = some vl ∧ oLoad false 1 H (cellR p 15 4) = some (.bool s.blank) ∧
    oLoad false 1 H (cellR p 15 7) = some vh ∧ oLoad false 1 H (cellR p 15 8) = some vb ∧ oLoad false 1 H (cellR p 15 9) = some (.bool s.now.close) ∧ oLoad false 1 H (cellR p 15 10) = some (.int .i64 (s.need : Int)) ∧ oLoad false 1 H (cellR p 15 11) = some (.int .i64 (s.trailers : Int)) ∧ oLoad false 1 H (cellR p 15 12) = some (.int .i64 (s.fed : Int)) ∧
    oLoad false 1 H (cellR p 15 13) = some vr ∧ oLoad false 1 H (cellR p 15 14) = some (.int .i64 (szF rd)) ∧ oLoad true 5 H (cellR p 15 5) = some (.agg (rqC s.now vh vb)) :=
  ⟨row_load P.row rfl rfl, row_load P.row rfl rfl, row_load P.row rfl rfl, row_load P.row rfl rfl, row_load P.row rfl rfl, row_load P.row rfl rfl, row_load P.row rfl rfl, row_load P.row rfl rfl, row_load P.row rfl rfl, row_load P.row rfl rfl, row_load P.row rfl rfl, row_load P.row rfl rfl, row_load P.row rfl rfl, row_loadK P.row (n := 15) rfl (by omega)⟩
theorem made_spec {n : Nat} {τ : Nat → Nat} {H : AHeap} {p : Nat} {s : PS} {rd : List Rq} (P : PR n τ H p s rd) : ACalls Tryz.prog natX 46 [cellR p 15 0] H fun v H' => v = .bool true ∧ H = H' := by
  obtain ⟨vl, vh, vb, vr, P⟩ := P
  obtain ⟨l0, _⟩ := P.lds
  refine acalls_ofN rfl za46 rfl ?_
  simp only [c46, sA, Int.reduceNegSucc, reduceCtorEq, Nat.reduceEqDiff, ↓reduceIte, Nat.reduceAdd, Int.reduceEq, Int.reduceLT, Int.reduceLE, Nat.reduceLT, ne_ptr_nil, nil_cell, fldA, l0, eq_ptr, Nat.beq_refl]
  exact ⟨(by first | with_reducible rfl | trivial | rfl | assumption), (by first | with_reducible rfl | trivial | rfl | assumption)⟩
theorem row_st {H : AHeap} {b n : Nat} {l l' : List AVal} (h : Row H b l) (hn : l.length = n) {i : Nat} (hi : i < n) {x : AVal} (hx : x.one = true) (e : l.set i x = l') :
    ∃ H', oStore 1 H (cellR b n i) x = some H' ∧ Row H' b l' ∧ H'.next = H.next ∧ ∀ c, c ≠ b → H'.get c = H.get c := by
  subst e; exact row_store h hn hi hx
theorem reset_spec {n : Nat} {τ : Nat → Nat} {H : AHeap} {p : Nat} {s : PS} {rd : List Rq} {vl vh vb vr : AVal} (P : PV n τ H p s rd vl vh vb vr) (k : Nat) :
    ACalls Tryz.prog natX 48 [cellR p 15 0, .int .i64 (k : Int)] H fun v H' => PV n τ H' p (s.reset k) rd nilS nilS nilS vr ∧ H'.next = H.next ∧ ∀ c, c ≠ p → H'.get c = H.get c := by
  refine acalls_ofN rfl za48 rfl ?_
  obtain ⟨H1, m1, r1, k1, o1⟩ := row_st P.row (n := 15) rfl (i := 1) (by omega) (x := .int .i64 (k : Int)) rfl rfl
  obtain ⟨H2, m2, r2, k2, o2⟩ := row_st r1 (n := 15) rfl (i := 3) (by omega) (x := .slice none 0 (.known 0)) rfl rfl
  obtain ⟨H3, m3, r3, k3, o3⟩ := row_st r2 (n := 15) rfl (i := 4) (by omega) (x := .bool false) rfl rfl
  obtain ⟨H4, m4, r4, k4, o4⟩ := row_storeK r3 (n := 15) rfl (i := 5) (k := 5) (by omega) (xs := [.str [], .str [], .slice none 0 (.known 0), .slice none 0 (.known 0), .bool false]) rfl rfl
  have r4' : Row H4 p [cellR p 15 0, .int .i64 (k : Int), .int .i64 (s.fault : Int), nilS, .bool false, .str [], .str [], nilS, nilS, .bool false, .int .i64 (s.need : Int), .int .i64 (s.trailers : Int), .int .i64 (s.fed : Int), vr, .int .i64 (szF rd)] := r4
  obtain ⟨H5, m5, r5, k5, o5⟩ := row_st r4' (n := 15) rfl (i := 10) (by omega) (x := .int .i64 0) rfl rfl
  obtain ⟨H6, m6, r6, k6, o6⟩ := row_st r5 (n := 15) rfl (i := 11) (by omega) (x := .int .i64 0) rfl rfl
  obtain ⟨H7, m7, r7, k7, o7⟩ := row_st r6 (n := 15) rfl (i := 12) (by omega) (x := .int .i64 0) rfl rfl
  have b0 : aBuild [.str [], .str [], .slice none 0 (.known 0), .slice none 0 (.known 0), .bool false] [] = some (.agg [.str [], .str [], .slice none 0 (.known 0), .slice none 0 (.known 0), .bool false]) := rfl
  have o : ∀ c, c ≠ p → H7.get c = H.get c := fun c hc => by rw [o7 c hc, o6 c hc, o5 c hc, o4 c hc, o3 c hc, o2 c hc, o1 c hc]
  simp only [c48, sA, Int.reduceNegSucc, reduceCtorEq, Nat.reduceEqDiff, ↓reduceIte, Nat.reduceAdd, Int.reduceEq, Int.reduceLT, Int.reduceLE, Nat.reduceLT, nil_cell, fldA, m1, m2, m3, m4, m5, m6, m7, b0, fin_n0]
  refine ⟨⟨r7, P.pn, by have := P.nn; omega, P.tp, P.tz, ⟨Lin.nil _, blk_nil _⟩, ⟨AppN.nil _ _ _, blk_nil _⟩, ⟨Lin.nil _, blk_nil _⟩, P.r.fr (Nat.le_refl _) (fun _ _ _ => rfl) fun c _ hc => o c (by have := P.tp; rintro rfl; omega)⟩, by omega, o⟩
theorem hsSz_snoc (l : List (Bs × Bs)) (h : Bs × Bs) : hsSz (l ++ [h]) = hsSz l + (h.1.length + h.2.length) := by simp [hsSz]
theorem hsSz_le {l : List (Bs × Bs)} {k : Nat} (h : ∀ p ∈ l, p.1.length ≤ k ∧ p.2.length ≤ k) : hsSz l ≤ l.length * (2 * k) := by
  induction l with
  | nil => simp [hsSz]
  | cons p l ih =>
    have h1 := ih fun q hq => h q (by simp [hq])
    have h2 := h p (by simp)
    have : hsSz (p :: l) = (p.1.length + p.2.length) + hsSz l := by simp [hsSz]
    rw [this, List.length_cons, Nat.add_mul, Nat.one_mul]; omega
theorem size_spec {n : Nat} {H : AHeap} {vh vb : AVal} (r : Rq) (hp : Prs n H vh r.hs) (hb : aLenK false vb = some (.int .i64 (r.body.length : Int))) (hn : n ≤ H.next) {k : Nat} (hk : k ≤ 1000000) (b1 : r.m.length ≤ k) (b2 : r.t.length ≤ k) (b3 : r.body.length ≤ k) (b4 : r.hs.length ≤ k) (b5 : ∀ h ∈ r.hs, h.1.length ≤ k ∧ h.2.length ≤ k) :
    ACalls Tryz.prog natX 49 [.agg (rqC r vh vb)] H fun v H' => v = .int .i64 (rqSz r : Int) ∧ Ext H.next H H' := by
  refine acalls_ofN rfl za49 rfl ?_
  obtain ⟨H1, m1, r1, k1, o1⟩ := row_newL H (rqC r vh vb) (n := 5) rfl
  have E1 : Ext H.next H H1 := Ext.of_new k1 o1 (Nat.le_refl _)
  have l0 : oLoad false 1 H1 (cellR H.next 5 0) = some (.str r.m) := row_load r1 rfl rfl
  have l1 : oLoad false 1 H1 (cellR H.next 5 1) = some (.str r.t) := row_load r1 rfl rfl
  have l2 : oLoad false 1 H1 (cellR H.next 5 2) = some vh := row_load r1 rfl rfl
  have l3 : oLoad false 1 H1 (cellR H.next 5 3) = some vb := row_load r1 rfl rfl
  simp only [c49, sA, Int.reduceNegSucc, reduceCtorEq, Nat.reduceEqDiff, ↓reduceIte, Nat.reduceAdd, Int.reduceEq, Int.reduceLT, Int.reduceLE, Nat.reduceLT, cells_agg, m1, fld0, l0, l1, l2, l3, hb, hp.len, wrapN _ _ (show r.m.length + r.t.length ≤ 9223372036854775807 by omega), wrapN _ _ (show r.m.length + r.t.length + r.body.length ≤ 9223372036854775807 by omega)]
  refine aw_loop (fun q (T : Env) H' => ∃ j : Nat, j ≤ r.hs.length ∧ q = r.hs.length - j ∧ T 3 = .int .i64 ((r.m.length + r.t.length + r.body.length + hsSz (r.hs.take j) : Nat) : Int) ∧ T 18 = vh ∧ T 19 = .int .i64 (r.hs.length : Int) ∧ T 20 = .int .i64 (j : Int) ∧ Ext H.next H H') r.hs.length
    ⟨0, Nat.zero_le _, rfl, by simp only [sA, Int.reduceNegSucc, reduceCtorEq, Nat.reduceEqDiff, ↓reduceIte, Nat.reduceAdd, Int.reduceEq, Int.reduceLT, Int.reduceLE, Nat.reduceLT]; try rfl, by simp only [sA, Int.reduceNegSucc, reduceCtorEq, Nat.reduceEqDiff, ↓reduceIte, Nat.reduceAdd, Int.reduceEq, Int.reduceLT, Int.reduceLE, Nat.reduceLT]; try rfl, by simp only [sA, Int.reduceNegSucc, reduceCtorEq, Nat.reduceEqDiff, ↓reduceIte, Nat.reduceAdd, Int.reduceEq, Int.reduceLT, Int.reduceLE, Nat.reduceLT]; try rfl, by simp only [sA, Int.reduceNegSucc, reduceCtorEq, Nat.reduceEqDiff, ↓reduceIte, Nat.reduceAdd, Int.reduceEq, Int.reduceLT, Int.reduceLE, Nat.reduceLT]; try rfl, E1⟩ ?_
  rintro q T H' ⟨j, hj, rfl, g3, g18, g19, g20, E⟩
  by_cases hlt : j < r.hs.length
  · have hlt' : (j : Int) < (r.hs.length : Int) := by omega
    obtain ⟨p, hpj⟩ := isSome_of_lt hlt
    have hpb := b5 p (List.mem_of_getElem? hpj)
    obtain ⟨a, a1, a2, _⟩ := (hp.ext (E.less hn)).at hpj
    obtain ⟨H3, m3, r3, k3, o3⟩ := row_newL H' [.str [], .str []] (n := 2) rfl
    obtain ⟨H4, m4, r4, k4, o4⟩ := row_storeN r3 (n := 2) rfl (xs := [.str p.1, .str p.2]) rfl rfl
    have hs0 : hsSz (r.hs.take j) ≤ j * (2 * k) := by
      have := hsSz_le (l := r.hs.take j) (k := k) fun p hp => b5 p (List.mem_of_mem_take hp)
      rwa [List.length_take_of_le hj] at this
    have hs1 : j * (2 * k) ≤ 1000000 * 2000000 := Nat.mul_le_mul (by omega) (by omega)
    simp only [sA, Int.reduceNegSucc, reduceCtorEq, Nat.reduceEqDiff, ↓reduceIte, Nat.reduceAdd, Int.reduceEq, Int.reduceLT, Int.reduceLE, Nat.reduceLT, g3, g18, g19, g20, hlt', a1, a2, m3, m4, fld0, row_load r4 (n := 2) rfl (i := 0) rfl, row_load r4 (n := 2) rfl (i := 1) rfl, wrapN _ _ (show p.1.length + p.2.length ≤ 9223372036854775807 by omega), wrapN _ _ (show r.m.length + r.t.length + r.body.length + hsSz (r.hs.take j) + (p.1.length + p.2.length) ≤ 9223372036854775807 by omega), wrap1 j (by omega)]
    refine ⟨_, by omega, j + 1, by omega, rfl, ?_, (by first | with_reducible rfl | trivial | rfl | assumption), (by first | with_reducible rfl | trivial | rfl | assumption), (by first | with_reducible rfl | trivial | rfl | assumption), ⟨by have := E.next; omega, fun c hc => by rw [o4 _ (by have := E.next; omega), o3 _ (by have := E.next; omega)]; exact E.old c hc⟩⟩
    rw [List.take_add_one, hpj, Option.toList_some, hsSz_snoc]
    congr 2; omega
  · have hlt' : ¬ (j : Int) < (r.hs.length : Int) := by omega
    rw [List.take_of_length_le (by omega)] at g3
    simp only [sA, Int.reduceNegSucc, reduceCtorEq, Nat.reduceEqDiff, ↓reduceIte, Nat.reduceAdd, Int.reduceEq, Int.reduceLT, Int.reduceLE, Nat.reduceLT, g3, g18, g19, g20, hlt']
    exact ⟨(by first | with_reducible rfl | trivial | rfl | assumption), E⟩
end Go.Proofs.Ht
