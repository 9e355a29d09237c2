/- Part of a proof (S17 H0 S14 S18 HN0 S19 S20 S21 H1 H2); no condition. -/
import Derived.SizedLaws
import Derived.Test.YthdkgakoogjoaaaP7
import Derived.Test.YthdkgakoogjoaaaP12
set_option linter.unusedSimpArgs false
set_option linter.unusedVariables false
set_option linter.unnecessarySimpa false
/- Symbolic runs of the abstract machine, part 17: lists of pairs of texts that came in, and how much they weigh. Plain Lean. -/
namespace Go.Abs.S
open Go.Abs Go.WideShapes Go.ChangeShapes
variable {H : Type} {enc : TypeId × Value → H}
theorem weights_all {P : Program} {e : TypeId} {els : List (DataW H)} {i : Nat} {d : DataW H} (h : els[i]? = some d) {n : Nat} (hn : n ∈ d.weights P e) : n ∈ DataW.weightsAll P e els := by
  induction els generalizing i with
  | nil => simp at h
  | cons x r ih =>
    simp only [DataW.weightsAll, List.mem_append]
    cases i with
    | zero => simp at h; subst h; exact .inl hn
    | succ i => exact .inr (ih (by simpa using h))
/-- lists of pairs of texts, with their weights -/
theorem arg_pairsW {P : Program} {W : World} {base : Nat} {t e : TypeId} {f0 f1 : Field} {v : Value} {d : DataW H} {p : List MemPlace} (ht : P.underlying t = some (.slice e)) (he : P.underlying e = some (.struct #[f0, f1])) (hm : P.cellsOf e = 2)
    (h0 : P.underlying f0.type = some .string) (h1 : P.underlying f1.type = some .string) (o0 : f0.offset = 0) (o1 : f1.offset = 1) (c0 : P.cellsOf f0.type = 1) (c1 : P.cellsOf f1.type = 1)
    (hok : Value.okWide P W .any base t v) (h : DataW.Trod enc P W 0 (fun _ => true) true t v d p) (hsz : ∀ n ∈ d.weights P t, n ≤ reachBytes) :
    ∃ l : List (List UInt8 × List UInt8), Prs (heapW W).next (heapW W) (absW W v) l ∧ (∀ q ∈ l, q.1.length ≤ reachBytes ∧ q.2.length ≤ reachBytes) ∧ l.length * P.bytesOf e ≤ reachBytes ∧ (absW W v).one = true := by
  rcases arg_slice ht (by omega) hok h with ⟨h2, _⟩ | ⟨c, n, off, len, cap, els, sp, h2, h3, h4, h5, h6, h7, h8⟩
  · exact ⟨[], .inl ⟨h2, rfl⟩, by simp, by simp, by rw [h2]; rfl⟩
  · subst h6
    have hW : ∀ (i : Nat) (x : DataW H), els[i]? = some x → ∀ n ∈ x.weights P e, n ≤ reachBytes := fun i x hx n hn => hsz n (by
      simp only [DataW.weights, ht, List.mem_cons, List.mem_append]
      exact .inr (.inl (weights_all hx hn)))
    have hlen : els.length * P.bytesOf e ≤ reachBytes := by
      have := hsz ((els.length + sp.length) * P.bytesOf e) (by simp only [DataW.weights, ht, List.mem_cons, true_or])
      exact Nat.le_trans (Nat.mul_le_mul_right _ (Nat.le_add_right _ _)) this
    have key : ∀ i, i < len → ∃ q : List UInt8 × List UInt8, rdCells (heapW W) ⟨c, n, off + i * 2⟩ 2 = some [.str q.1, .str q.2] ∧ q.1.length ≤ reachBytes ∧ q.2.length ≤ reachBytes := by
      intro i hi
      obtain ⟨cs, k, y, g1, g2, g3, g4⟩ := h8 i hi
      rw [hm] at g1 g2
      obtain ⟨y0, y1, m, rfl, _, t0, t1⟩ := trod_struct2 he g3
      rw [o0, c0] at t0
      rw [o1, c1] at t1
      obtain ⟨a, b, rfl⟩ : ∃ a b, cs = [a, b] := by
        match cs, g1 with
        | [a, b], _ => exact ⟨a, b, rfl⟩
      obtain ⟨s, e1, rfl, l1⟩ := DataW.trod_string h0 t0
      obtain ⟨u, e2, rfl, l2⟩ := DataW.trod_string h1 t1
      simp at e1 e2
      subst e1 e2
      have hw := hW i _ g4
      refine ⟨(s.data.toList, u.data.toList), by simpa [absW] using g2, hw _ ?_, hw _ ?_⟩
      · simp [DataW.weights, he, DataW.weightsEach]
      · simp [DataW.weights, he, DataW.weightsEach]
    have hall : ∀ k, k ≤ len → ∃ l : List (List UInt8 × List UInt8), l.length = k ∧ ∀ i q, l[i]? = some q → rdCells (heapW W) ⟨c, n, off + i * 2⟩ 2 = some [.str q.1, .str q.2] ∧ q.1.length ≤ reachBytes ∧ q.2.length ≤ reachBytes := by
      intro k
      induction k with
      | zero => intro _; exact ⟨[], rfl, by simp⟩
      | succ k ih =>
        intro hk
        obtain ⟨l, hl, hq⟩ := ih (by omega)
        obtain ⟨q, hq1⟩ := key k (by omega)
        refine ⟨l ++ [q], by simp [hl], fun i r hr => ?_⟩
        by_cases hi : i < l.length
        · rw [List.getElem?_append_left hi] at hr
          exact hq i r hr
        · rw [List.getElem?_append_right (by omega)] at hr
          have h0 : i - l.length = 0 := by
            rcases Nat.eq_zero_or_pos (i - l.length) with h0 | h0
            · exact h0
            · rw [List.getElem?_eq_none (by simp; omega)] at hr; simp at hr
          rw [h0] at hr
          simp at hr
          subst hr
          rw [show i = k by omega]
          exact hq1
    obtain ⟨l, hl, hq⟩ := hall len (Nat.le_refl _)
    refine ⟨l, .inr ⟨⟨c, n, off⟩, .known cap, by rw [h2, hl], h5, fun i q hi => (hq i q hi).1⟩, fun q hqm => ?_, ?_, by rw [h2]; rfl⟩
    · obtain ⟨i, hi⟩ := List.mem_iff_getElem?.1 hqm
      exact (hq i q hi).2
    · rw [hl, ← h7]; exact hlen
/-- the weights of one argument, out of all -/
theorem weights_at {P : Program} {ts : List TypeId} {ds : List (DataW H)} (h : (DataW.weightsEach P ts ds).all (· ≤ reachBytes) = true) {j : Nat} {t : TypeId} {d : DataW H} (ht : ts[j]? = some t) (hd : ds[j]? = some d) : ∀ n ∈ d.weights P t, n ≤ reachBytes := by
  intro n hn
  have := List.all_eq_true.1 h _ (DataW.weights_mem_each ht hd n hn)
  simpa using this
end Go.Abs.S
/- A parser of requests, in plain words: what each byte does. Plain Lean. -/
namespace Go.Proofs.Ht
open Go.Abs Go.Abs.S
abbrev Bs := List UInt8
structure Rq where
  m : Bs
  t : Bs
  hs : List (Bs × Bs)
  body : Bs
  close : Bool
structure PS where
  st : Nat
  fault : Nat
  line : Bs
  blank : Bool
  now : Rq
  need : Nat
  trailers : Nat
  fed : Nat
def Rq.none : Rq := ⟨[], [], [], [], false⟩
def PS.zero : PS := ⟨0, 0, [], false, Rq.none, 0, 0, 0⟩
def PS.reset (s : PS) (k : Nat) : PS := ⟨k, s.fault, [], false, Rq.none, 0, 0, 0⟩
def digB (b : UInt8) : Bool := decide (48 ≤ b.toNat) && decide (b.toNat ≤ 57)
def hexB (b : UInt8) : Bool := digB b || ((decide (97 ≤ b.toNat) && decide (b.toNat ≤ 102)) || (decide (65 ≤ b.toNat) && decide (b.toNat ≤ 70)))
def hexV (b : UInt8) : Nat := if digB b then b.toNat - 48 else if 97 ≤ b.toNat then b.toNat - 87 else b.toNat - 55
def tcL : Bs := [33, 35, 36, 37, 38, 39, 42, 43, 45, 46, 94, 95, 96, 124, 126]
def tch (b : UInt8) : Bool := digB b || (((decide (97 ≤ b.toNat) && decide (b.toNat ≤ 122)) || (decide (65 ≤ b.toNat) && decide (b.toNat ≤ 90))) || decide (b ∈ tcL))
def valB (b : UInt8) : Bool := decide (b.toNat = 9) || (decide (32 ≤ b.toNat) && !decide (b.toNat = 127))
def blk (b : UInt8) : Bool := decide (b.toNat = 32) || decide (b.toNat = 9)
def tarB (b : UInt8) : Bool := decide (33 ≤ b.toNat) && decide (b.toNat ≤ 126)
def no13 (b : UInt8) : Bool := !decide (b.toNat = 13)
def lowB (b : UInt8) : UInt8 := if 65 ≤ b.toNat ∧ b.toNat ≤ 90 then b + 32 else b
def low (s : Bs) : Bs := s.map lowB
def token (s : Bs) : Bool := !decide (s = []) && s.all tch
/-- at the first such byte: what stands ahead, what stands behind, whether there is one -/
def fnd (s : Bs) (c : UInt8) : Nat := s.findIdx (· == c)
def cutF (s : Bs) (c : UInt8) : Bs × Bs × Bool := if fnd s c < s.length then (s.take (fnd s c), s.drop (fnd s c + 1), true) else (s, [], false)
def trimF (s : Bs) : Bs := ((s.dropWhile blk).reverse.dropWhile blk).reverse
def headerF (s : Bs) : Option (Bs × Bs) :=
  if (!(cutF s 58).2.2 || !token (cutF s 58).1) = true then Option.none
  else if (trimF (cutF s 58).2.1).all valB then some (low (cutF s 58).1, trimF (cutF s 58).2.1) else Option.none
def decF (s : Bs) : Nat := s.foldl (fun n b => n * 10 + (b.toNat - 48)) 0
def hexF (s : Bs) : Nat := s.foldl (fun n b => n * 16 + hexV b) 0
def numberF (s : Bs) : Option Nat := if s.length < 1 ∨ 9 < s.length ∨ s.all digB = false then Option.none else some (decF s)
/-- parts of a text between commas and blanks -/
def sepR (r : Nat) : Bool := decide (r = 44) || (decide (r = 32) || decide (r = 9))
/-- the next sign: what it is, how many bytes it has -/
def rune (s : Bs) (pos : Nat) : Option (Nat × Nat) := match nthB s pos with
  | Option.none => Option.none
  | some c => bif Nat.ble 128 c.toNat then some (Utf8.decode (strOf s) pos) else some (c.toNat, 1)
def spans (s : Bs) : Nat → Nat → Option Nat → List (Nat × Nat) → Option Nat × List (Nat × Nat)
  | 0, _, b, l => (b, l)
  | f + 1, pos, b, l => match rune s pos with
    | Option.none => (b, l)
    | some (r, n) => if sepR r then (match b with
        | some i => spans s f (pos + n) Option.none (l ++ [(i, pos)])
        | Option.none => spans s f (pos + n) Option.none l)
      else (match b with
        | some i => spans s f (pos + n) (some i) l
        | Option.none => spans s f (pos + n) (some pos) l)
def fields (s : Bs) : List (Nat × Nat) := match spans s (s.length + 1) 0 Option.none [] with
  | (some i, l) => l ++ [(i, s.length)]
  | (Option.none, l) => l
def closeW : Bs := [99, 108, 111, 115, 101]
def closesF (s : Bs) : Bool := (fields s).any fun p => decide (low ((s.drop p.1).take (p.2 - p.1)) = closeW)
def valuesF (hs : List (Bs × Bs)) (n : Bs) : List Bs := (hs.filter fun h => decide (h.1 = n)).map (·.2)
def clN : Bs := [99, 111, 110, 116, 101, 110, 116, 45, 108, 101, 110, 103, 116, 104]
def teN : Bs := [116, 114, 97, 110, 115, 102, 101, 114, 45, 101, 110, 99, 111, 100, 105, 110, 103]
def hostN : Bs := [104, 111, 115, 116]
def conN : Bs := [99, 111, 110, 110, 101, 99, 116, 105, 111, 110]
def chW : Bs := [99, 104, 117, 110, 107, 101, 100]
def verW : Bs := [72, 84, 84, 80, 47, 49, 46, 49]
/-- what stands behind a step: the state, requests that are whole now (at most one), an error -/
abbrev Out := PS × List Rq × Nat
def wholeF (s : PS) : PS × List Rq := (s.reset (if s.now.close then 8 else 0), [s.now])
def requestF (s : PS) (l : Bs) (right : Bool) : PS × Nat :=
  if right = false then (s, 20)
  else if l = [] then (if s.blank then (s, 20) else ({ s with blank := true }, 0))
  else
    let a := cutF l 32
    if (!a.2.2 || !token a.1) = true then (s, 20)
    else
      let b := cutF a.2.1 32
      if b.2.2 = false ∨ b.2.1 ≠ verW ∨ b.1 = [] ∨ b.1.head? ≠ some 47 then (s, 20)
      else if b.1.all tarB = false then (s, 20)
      else ({ s with now := { s.now with m := a.1, t := b.1 }, st := 1 }, 0)
def headersEndF (s : PS) : Out :=
  let lengths := valuesF s.now.hs clN
  let codings := valuesF s.now.hs teN
  if (valuesF s.now.hs hostN).length ≠ 1 ∨ 1 < lengths.length + codings.length then (s, [], 21)
  else if codings.length = 1 ∧ low (codings.headD []) ≠ chW then (s, [], 21)
  else
    let go := fun (n : Nat) =>
      let s' : PS := { s with now := { s.now with close := (valuesF s.now.hs conN).foldl (fun c v => c || closesF v) s.now.close }, need := n }
      if codings.length = 1 then ({ s' with st := 3 }, [], 0)
      else if 0 < n then ({ s' with st := 2 }, [], 0)
      else ((wholeF s').1, (wholeF s').2, 0)
    if lengths.length = 1 then (match numberF (lengths.headD []) with
      | Option.none => (s, [], 21)
      | some n => if 65536 < n then (s, [], 3) else go n)
    else go 0
def headerLineF (s : PS) (l : Bs) (right : Bool) : Out :=
  if l ≠ [] ∧ 40 ≤ s.now.hs.length then (s, [], 3)
  else if right = false then (s, [], 21)
  else if l = [] then headersEndF s
  else match headerF l with
    | Option.none => (s, [], 21)
    | some h => ({ s with now := { s.now with hs := s.now.hs ++ [h] } }, [], 0)
def trailerF (s : PS) (l : Bs) (right : Bool) : Out :=
  if l ≠ [] ∧ 40 ≤ s.trailers then (s, [], 3)
  else if right = false then (s, [], 21)
  else if l = [] then ((wholeF s).1, (wholeF s).2, 0)
  else match headerF l with
    | Option.none => (s, [], 21)
    | some _ => ({ s with trailers := s.trailers + 1 }, [], 0)
def chunkF (s : PS) (l : Bs) (right : Bool) : PS × Nat :=
  if right = false then (s, 22)
  else
    let a := cutF l 59
    if a.1.length < 1 ∨ 7 < a.1.length ∨ a.1.all hexB = false ∨ a.2.1.all valB = false then (s, 22)
    else if hexF a.1 = 0 then ({ s with st := 7 }, 0)
    else if 65536 < s.now.body.length + hexF a.1 then (s, 3)
    else ({ s with need := hexF a.1, st := 4 }, 0)
def wantF (s : PS) : Nat := if s.st = 0 then 20 else if s.st = 3 then 22 else 21
def endedF (s0 : PS) : Out :=
  let l0 := s0.line
  let s := { s0 with line := [] }
  let whole := decide (l0.getLast? = some 13)
  let l := if whole then l0.take (l0.length - 1) else l0
  if 2000 < l.length then (s, [], 3)
  else if whole = false then (s, [], wantF s)
  else
    let right := l.all no13
    if s.st = 0 then ((requestF s l right).1, [], (requestF s l right).2)
    else if s.st = 1 then headerLineF s l right
    else if s.st = 3 then ((chunkF s l right).1, [], (chunkF s l right).2)
    else trailerF s l right
def takeF (s : PS) (c : UInt8) : Out :=
  if s.st = 2 ∨ s.st = 4 then
    let s' := { s with now := { s.now with body := s.now.body ++ [c] }, need := s.need - 1 }
    if 0 < s'.need then (s', [], 0)
    else if s.st = 2 then ((wholeF s').1, (wholeF s').2, 0)
    else ({ s' with st := 5 }, [], 0)
  else if s.st = 5 then (if c.toNat ≠ 13 then (s, [], 22) else ({ s with st := 6 }, [], 0))
  else if s.st = 6 then (if c.toNat ≠ 10 then (s, [], 22) else ({ s with st := 3 }, [], 0))
  else if c.toNat = 10 then endedF s
  else if 2001 < s.line.length + 1 then ({ s with line := s.line ++ [c] }, [], 3)
  else ({ s with line := s.line ++ [c] }, [], 0)
def stepF (s : PS) (c : UInt8) : PS × List Rq :=
  if s.st = 8 then (s, [])
  else
    let o := takeF { s with fed := s.fed + 1 } c
    if o.2.2 = 0 then (o.1, o.2.1) else ({ o.1 with fault := o.2.2 }.reset 8, o.2.1)
def feedF : PS → Bs → PS × List Rq
  | s, [] => (s, [])
  | s, c :: r => ((feedF (stepF s c).1 r).1, (stepF s c).2 ++ (feedF (stepF s c).1 r).2)
theorem feed_app (s : PS) (a b : Bs) : feedF s (a ++ b) = ((feedF (feedF s a).1 b).1, (feedF s a).2 ++ (feedF (feedF s a).1 b).2) := by
  induction a generalizing s with
  | nil => simp [feedF]
  | cons c r ih => simp only [List.cons_append, feedF, ih, List.append_assoc]
theorem feed_one (s : PS) (c : UInt8) : feedF s [c] = stepF s c := by simp [feedF]
/-- how much there is at most behind so many bytes -/
structure Bd (k : Nat) (s : PS) : Prop where
  st : s.st ≤ 8
  fault : s.fault ≤ 100
  line : s.line.length ≤ k
  m : s.now.m.length ≤ k
  t : s.now.t.length ≤ k
  body : s.now.body.length ≤ k
  hs : s.now.hs.length ≤ k
  he : ∀ h ∈ s.now.hs, h.1.length ≤ k ∧ h.2.length ≤ k
  trailers : s.trailers ≤ k
  fed : s.fed ≤ k
  need : s.need ≤ 300000000
  pos : s.st = 2 ∨ s.st = 4 → 0 < s.need
end Go.Proofs.Ht
/- Symbolic runs of the abstract machine, part 14: rows of structs that grow. Plain Lean. -/
namespace Go.Abs.S
open Go.Abs
/-- k elements of m cells each: nil, or a row of its own that may grow -/
def AppN (m n : Nat) (H : AHeap) (s : AVal) (L : List AVal) (k : Nat) : Prop :=
  (s = nilS ∧ L = [] ∧ k = 0) ∨ ∃ b low, s = .slice (some ⟨b, L.length, 0⟩) k (.open_ m) ∧ L.length = m * k ∧ n ≤ b ∧ b < H.next ∧ H.get b = some (.cells L low false) ∧ low ≤ L.length ∧ 0 < k
theorem AppN.nil (m n : Nat) (H : AHeap) : AppN m n H nilS [] 0 := .inl ⟨rfl, rfl, rfl⟩
theorem AppN.ext {m n k : Nat} {H H' : AHeap} {s : AVal} {L : List AVal} (h : AppN m n H s L k) (e : Ext H.next H H') : AppN m n H' s L k := by
  rcases h with h | ⟨b, low, h1, h2, h3, h4, h5, h6⟩
  · exact .inl h
  · exact .inr ⟨b, low, h1, h2, h3, Nat.lt_of_lt_of_le h4 e.next, (e.old b h4).trans h5, h6⟩
theorem AppN.len {m n k : Nat} {H : AHeap} {s : AVal} {L : List AVal} (h : AppN m n H s L k) : aLenK false s = some (.int .i64 (k : Int)) := by
  rcases h with ⟨rfl, _, rfl⟩ | ⟨b, low, rfl, _⟩ <;> rfl
theorem AppN.blk {m n k : Nat} {H : AHeap} {s : AVal} {L : List AVal} (h : AppN m n H s L k) : ∀ a j r, s = .slice (some a) j r → a.b < H.next := by
  intro a j r he
  rcases h with ⟨rfl, _⟩ | ⟨b, low, rfl, _, _, h4, _⟩
  · simp [nilS] at he
  · simp only [AVal.slice.injEq, Option.some.injEq] at he
    rw [← he.1]; exact h4
def oneM (H : AHeap) (m : Nat) : AVal := .slice (some ⟨H.next, m, 0⟩) 1 (.known 1)
theorem buildM {m : Nat} {z xs : List AVal} (H : AHeap) (hz : z.length = m) (hx : xs.length = m) : aBuildSl 1 z H [(0, m, .agg xs)] = some (oneM H m, H.push (.cells xs 0 false)) := by
  subst hz
  have hb : Nat.beq xs.length z.length = true := by rw [hx]; exact Nat.beq_refl _
  simp only [aBuildSl, rep, List.append_nil, aFill, cells_agg, hx, Nat.beq_refl, Nat.zero_add, Nat.ble_eq_true_of_le (Nat.le_refl _), Bool.and_self, cond_true, splice, List.take_zero, List.nil_append, List.drop_length, List.append_nil, oneM]
theorem srcM {m : Nat} {xs : List AVal} (H : AHeap) (hx : xs.length = m) : aSrc m (H.push (.cells xs 0 false)) (oneM H m) = some (1, xs) := by
  subst hx
  have := rd_whole (H := H.push (.cells xs 0 false)) (b := H.next) (l := xs) (low := 0) (ro := false) (by rw [AHeap.get_push, if_pos rfl]) (Nat.zero_le _)
  simp only [aSrc, oneM, Nat.one_mul, this]
theorem AppN.push {m n k : Nat} {H : AHeap} {s : AVal} {L : List AVal} (h : AppN m n H s L k) (hn : n ≤ H.next) {xs : List AVal} (hx : xs.length = m) (ho : xs.all AVal.one = true) (hm : 0 < m) {bytes : Nat} (hb : 2 * (k + 1) * bytes ≤ 281474976710656) (hb1 : 0 < bytes) :
    ∃ s' H', aAppend m bytes (H.push (.cells xs 0 false)) s (oneM H m) = some (s', H') ∧ AppN m n H' s' (L ++ xs) (k + 1) ∧ Ext n H H' ∧ ∀ c, c < H.next → (∀ a j r, s = .slice (some a) j r → c ≠ a.b) → H'.get c = H.get c := by
  have hlen : k + 1 ≤ 9223372036854775807 := by
    have : 2 * (k + 1) ≤ 2 * (k + 1) * bytes := Nat.le_mul_of_pos_right _ hb1
    omega
  have hlt : Nat.blt 0 m = true := by simpa [Nat.blt_eq] using hm
  have c1 : ∀ j, j = k → (Nat.blt 0 m && (Nat.ble ((2 * (j + 1) + 0) * bytes) 281474976710656 && (Nat.ble (j + 1) 9223372036854775807 && (Nat.beq xs.length (1 * m) && xs.all AVal.one)))) = true := by
    intro j hj
    subst hj
    simp only [Nat.add_zero, Nat.ble_eq_true_of_le hb, Nat.ble_eq_true_of_le hlen, hx, Nat.one_mul, Nat.beq_refl, ho, hlt, Bool.and_self]
  rcases h with ⟨rfl, rfl, rfl⟩ | ⟨b, low, rfl, h2, h3, h4, h5, h6, h7⟩
  · refine ⟨.slice (some ⟨H.next + 1, m, 0⟩) 1 (.open_ m), (H.push (.cells xs 0 false)).push (.cells xs 0 false), ?_, .inr ⟨H.next + 1, 0, by simp [hx], by simp [hx], by omega, Nat.lt_succ_self _, ?_, Nat.zero_le _, by omega⟩, ((Ext.refl n H).push hn _).push (by rw [push_next]; omega) _, fun c hc _ => by rw [AHeap.get_push, if_neg (by rw [push_next]; omega), get_push_lt hc]⟩
    · simp only [aAppend, srcM H hx, nilS]
      rw [show Nat.beq 1 0 = false from rfl, cond_false, c1 0 rfl, cond_true, hx]
      rfl
    · rw [AHeap.get_push]; exact if_pos rfl
  · have hg : (H.push (.cells xs 0 false)).get b = some (.cells L low false) := by rw [AHeap.get_push, if_neg (by omega)]; exact h5
    have hgrow : growCells (H.push (.cells xs 0 false)) ⟨b, L.length, 0⟩ L.length xs = some ((H.push (.cells xs 0 false)).set b (.cells (L ++ xs) low false)) := by
      unfold growCells
      simp only [hg, Nat.ble_eq_true_of_le h6, Nat.ble_eq_true_of_le (Nat.le_refl _), Nat.ble_eq_true_of_le (Nat.zero_le _), Nat.ble_eq_true_of_le (show L.length + 1 ≤ L.length + xs.length by omega), Nat.beq_refl, ho, Bool.and_self, cond_true, List.take_length]
    refine ⟨.slice (some ⟨b, L.length + m, 0⟩) (k + 1) (.open_ m), (H.push (.cells xs 0 false)).set b (.cells (L ++ xs) low false), ?_, .inr ⟨b, low, by simp [hx], by rw [List.length_append, h2, hx, Nat.mul_add, Nat.mul_one], h3, by rw [set_next, push_next]; omega, by rw [AHeap.get_set, if_pos rfl], by simp; omega, by omega⟩, ((Ext.refl n H).push hn _).set h3 _, fun c hc hd => by rw [AHeap.get_set, if_neg (hd _ _ _ rfl), get_push_lt hc]⟩
    have e0 : 0 + k * m = L.length := by rw [h2, Nat.mul_comm]; omega
    have e1 : Nat.ble (0 + (k + 1) * m) L.length = false := by
      rw [ble_dec]; refine decide_eq_false ?_
      rw [Nat.add_mul, Nat.one_mul]; omega
    simp only [aAppend, srcM H hx]
    rw [show Nat.beq 1 0 = false from rfl, cond_false, c1 k rfl, cond_true]
    simp only [Nat.beq_refl, cond_true, e1, cond_false, e0, hgrow, hx]
theorem idxM {b lim k m : Nat} (K : IntKind) {i : Nat} (h : i < k) : aIdxA m (.slice (some ⟨b, lim, 0⟩) k (.open_ m)) (.int K (i : Int)) = some (cellR b lim (i * m)) := by
  show (bif Nat.blt i k then some (AVal.ptr (some ⟨b, lim, 0 + i * m⟩)) else none) = _
  have : Nat.blt i k = true := by simpa [Nat.blt_eq] using h
  rw [this, Nat.zero_add]; rfl
theorem fldR (b n i o : Nat) : aField o (cellR b n i) = some (cellR b n (i + o)) := by
  simp only [aField, cellR]
end Go.Abs.S
/- Symbolic runs of the abstract machine, part 18: objects of several cells; rows of bytes that grow and are cut; which block a slice has. Plain Lean. -/
namespace Go.Abs.S
open Go.Abs
/-- the block of a slice is so -/
def Blk (v : AVal) (P : Nat → Prop) : Prop := ∀ a m r, v = .slice (some a) m r → P a.b
theorem Blk.mono {v : AVal} {P Q : Nat → Prop} (h : Blk v P) (k : ∀ b, P b → Q b) : Blk v Q := fun a m r e => k _ (h a m r e)
theorem blk_nil (P : Nat → Prop) : Blk nilS P := by intro a m r h; simp [nilS] at h
theorem blk_some {a : Ad} {m : Nat} {r : Room} {P : Nat → Prop} (h : P a.b) : Blk (.slice (some a) m r) P := by
  intro a' m' r' e
  simp only [AVal.slice.injEq, Option.some.injEq] at e
  rw [← e.1]; exact h
theorem Blk.and {v : AVal} {P Q : Nat → Prop} (h : Blk v P) (k : Blk v Q) : Blk v fun b => P b ∧ Q b := fun a m r e => ⟨h a m r e, k a m r e⟩
/-! objects of several cells -/
theorem rd_row {H : AHeap} {b n : Nat} {l : List AVal} (h : Row H b l) (hn : l.length = n) {i k : Nat} (hik : i + k ≤ n) : rdCells H ⟨b, n, i⟩ k = some ((l.drop i).take k) := by
  subst hn
  obtain ⟨low, h1, h2⟩ := h
  unfold rdCells
  simp only [h1, Nat.ble_eq_true_of_le h2, Nat.ble_eq_true_of_le (Nat.le_refl _), Nat.ble_eq_true_of_le hik, Bool.and_self, cond_true]
theorem row_loadK {H : AHeap} {b n : Nat} {l : List AVal} (h : Row H b l) (hn : l.length = n) {i k : Nat} (hik : i + k ≤ n) : oLoad true k H (cellR b n i) = some (.agg ((l.drop i).take k)) := by
  simp only [oLoad, cellR, rd_row h hn hik, cond_true]
theorem row_storeK {H : AHeap} {b n : Nat} {l : List AVal} (h : Row H b l) (hn : l.length = n) {i k : Nat} (hik : i + k ≤ n) {xs : List AVal} (hx : xs.length = k) (ho : xs.all AVal.one = true) :
    ∃ H', oStore k H (cellR b n i) (.agg xs) = some H' ∧ Row H' b (l.take i ++ (xs ++ l.drop (i + k))) ∧ H'.next = H.next ∧ ∀ c, c ≠ b → H'.get c = H.get c := by
  subst hn hx
  obtain ⟨low, h1, h2⟩ := h
  refine ⟨H.set b (.cells (l.take i ++ (xs ++ l.drop (i + xs.length))) l.length false), ?_, ⟨l.length, by rw [AHeap.get_set, if_pos rfl], by simp; omega⟩, rfl, fun c hc => by rw [AHeap.get_set, if_neg hc]⟩
  simp only [oStore, cellR, cells_agg, Nat.beq_refl, cond_true]
  unfold wrCells
  simp only [h1, Nat.ble_eq_true_of_le h2, Nat.beq_refl, Nat.ble_eq_true_of_le hik, ho, Bool.and_self, cond_true]
theorem fldA (b n i o : Nat) : aField o (cellR b n i) = some (cellR b n (i + o)) := _root_.id rfl
theorem nil_cell (b n i : Nat) : aNilChk (cellR b n i) = some (cellR b n i) := _root_.id rfl
theorem eq_ptr (b n i j : Nat) : aPf (.eqv false .ptr) [cellR b n i, cellR b n j] = some (.bool (Nat.beq i j)) := by
  show (match (bif Nat.beq b b && Nat.beq n n then some (Nat.beq i j) else none) with | some c => some (AVal.bool (bif false then !c else c)) | none => none) = _
  simp only [Nat.beq_refl, Bool.and_self, cond_true, cond_false]
theorem ne_ptr_nil (b n i : Nat) : aPf (.eqv true .ptr) [cellR b n i, .ptr none] = some (.bool true) := _root_.id rfl
theorem eq_ptr_nil (b n i : Nat) : aPf (.eqv false .ptr) [cellR b n i, .ptr none] = some (.bool false) := _root_.id rfl
/-! bytes in a row that may have more cells -/
def Lin (H : AHeap) (v : AVal) (s : List UInt8) : Prop :=
  (v = nilS ∧ s = []) ∨ ∃ b lim low L, v = .slice (some ⟨b, lim, 0⟩) s.length (.open_ 1) ∧ H.get b = some (.cells L low false) ∧ low ≤ lim ∧ lim = L.length ∧ L.take s.length = byts s ∧ s.length ≤ lim ∧ b < H.next
theorem Lin.nil (H : AHeap) : Lin H nilS [] := .inl ⟨rfl, rfl⟩
theorem Lin.len {H : AHeap} {v : AVal} {s : List UInt8} (h : Lin H v s) : aLenK false v = some (.int .i64 (s.length : Int)) := by
  rcases h with ⟨rfl, rfl⟩ | ⟨b, lim, low, L, rfl, _⟩ <;> rfl
theorem Lin.one {H : AHeap} {v : AVal} {s : List UInt8} (h : Lin H v s) : v.one = true := by
  rcases h with ⟨rfl, rfl⟩ | ⟨b, lim, low, L, rfl, _⟩ <;> rfl
theorem Lin.blk {H : AHeap} {v : AVal} {s : List UInt8} (h : Lin H v s) : Blk v (· < H.next) := by
  rcases h with ⟨rfl, _⟩ | ⟨b, lim, low, L, rfl, _, _, _, _, _, h7⟩
  · exact blk_nil _
  · exact blk_some h7
theorem Lin.same {H H' : AHeap} {v : AVal} {s : List UInt8} (h : Lin H v s) (hn : H.next ≤ H'.next) (e : Blk v fun b => H'.get b = H.get b) : Lin H' v s := by
  rcases h with h | ⟨b, lim, low, L, rfl, h2, h3, h4, h5, h6, h7⟩
  · exact .inl h
  · exact .inr ⟨b, lim, low, L, rfl, (e _ _ _ rfl).trans h2, h3, h4, h5, h6, by omega⟩
theorem Lin.cel {H : AHeap} {v : AVal} {s : List UInt8} {n : Nat} (h : Lin H v s) (hb : Blk v (· < n)) : Cel n H v (byts s) := by
  rcases h with ⟨rfl, rfl⟩ | ⟨b, lim, low, L, rfl, h2, h3, rfl, h5, h6, h7⟩
  · exact .inl ⟨rfl, rfl⟩
  · refine .inr ⟨⟨b, L.length, 0⟩, .open_ 1, by rw [byts_len], hb _ _ _ rfl, ?_⟩
    unfold rdCells
    simp only [h2, Nat.ble_eq_true_of_le h3, Nat.ble_eq_true_of_le (Nat.le_refl _), byts_len, Nat.zero_add, Nat.ble_eq_true_of_le h6, Bool.and_self, cond_true, List.drop_zero, h5]
theorem Lin.str {H : AHeap} {v : AVal} {s : List UInt8} (h : Lin H v s) : aBS H v = some (.str s) := bs_cel (h.cel h.blk)
/-- its first so many -/
theorem Lin.take {H : AHeap} {v : AVal} {s : List UInt8} (h : Lin H v s) {k : Nat} (hk : k ≤ s.length) : ∃ v', aSl 1 v none (some (.int .i64 (k : Int))) none = some v' ∧ Lin H v' (s.take k) ∧ ∀ P, Blk v P → Blk v' P := by
  have hbd : ∀ c, k ≤ c → aBnd s.length c none (some (.int .i64 (k : Int))) none = some (0, k, none) := by
    intro c hc
    show (match bdO (some (AVal.int .i64 (Int.ofNat k))) c s.length with | some h => (match bdO none h 0 with | some l => some (l, h, none) | none => none) | none => none) = _
    simp only [bdO, bd, Nat.ble_eq_true_of_le hc, cond_true]
  rcases h with ⟨rfl, rfl⟩ | ⟨b, lim, low, L, rfl, h2, h3, h4, h5, h6, h7⟩
  · obtain rfl : k = 0 := by simpa using hk
    exact ⟨nilS, rfl, .inl ⟨rfl, rfl⟩, fun P h => h⟩
  · have hlt : (s.take k).length = k := by simp; omega
    refine ⟨.slice (some ⟨b, lim, 0⟩) k (.open_ 1), ?_, .inr ⟨b, lim, low, L, by rw [hlt], h2, h3, h4, ?_, by omega, h7⟩, fun P h => blk_some (h _ _ _ rfl)⟩
    · simp only [aSl, Nat.beq_refl, cond_true, Nat.sub_zero, Nat.div_one, hbd lim (by omega), Nat.zero_add, Nat.mul_one, Nat.ble_eq_true_of_le (show k ≤ lim by omega), Nat.zero_mul]
    · rw [hlt]
      have : L.take k = (L.take s.length).take k := by rw [List.take_take, Nat.min_eq_left hk]
      rw [this, h5]
      simp [byts]
theorem Lin.idx {H : AHeap} {v : AVal} {s : List UInt8} (h : Lin H v s) {i : Nat} {c : UInt8} (hi : s[i]? = some c) : ∃ a, aIdxA 1 v (.int .i64 (i : Int)) = some a ∧ oLoad false 1 H a = some (.int .u8 (c.toNat : Int)) := by
  have hlt := (List.getElem?_eq_some_iff.1 hi).1
  have hc := h.cel h.blk
  exact ⟨_, hc.idx .i64 (by rw [byts_len]; exact hlt), hc.load (byts_get hi)⟩
/-- one more -/
theorem Lin.push {H : AHeap} {v : AVal} {s : List UInt8} (h : Lin H v s) (c : UInt8) (hs : s.length ≤ 100000000) :
    ∃ v' H', aAppend 1 1 (H.push (.cells [.int .u8 (c.toNat : Int)] 0 false)) v (oneS H) = some (v', H') ∧ Lin H' v' (s ++ [c]) ∧ H.next ≤ H'.next ∧ (∀ P, Blk v P → Blk v' fun b => P b ∨ H.next ≤ b) ∧ ∀ b, b < H.next → Blk v (b ≠ ·) → H'.get b = H.get b := by
  have hone : (AVal.int .u8 (c.toNat : Int)).one = true := rfl
  have c1 : ∀ k, k = s.length → (Nat.blt 0 1 && (Nat.ble ((2 * (k + 1) + 0) * 1) 281474976710656 && (Nat.ble (k + 1) 9223372036854775807 && (Nat.beq [AVal.int .u8 (c.toNat : Int)].length (1 * 1) && [AVal.int .u8 (c.toNat : Int)].all AVal.one)))) = true := by
    intro k hk
    subst hk
    simp only [Nat.add_zero, Nat.mul_one, Nat.ble_eq_true_of_le (show 2 * (s.length + 1) ≤ 281474976710656 by omega), Nat.ble_eq_true_of_le (show s.length + 1 ≤ 9223372036854775807 by omega), List.all_cons, List.all_nil, hone]
    rfl
  have hb : byts (s ++ [c]) = byts s ++ [.int .u8 (c.toNat : Int)] := by simp [byts]
  rcases h with ⟨rfl, rfl⟩ | ⟨b, lim, low, L, rfl, h2, h3, rfl, h5, h6, h7⟩
  · refine ⟨.slice (some ⟨H.next + 1, 1, 0⟩) 1 (.open_ 1), (H.push (.cells [.int .u8 (c.toNat : Int)] 0 false)).push (.cells [.int .u8 (c.toNat : Int)] 0 false), ?_, .inr ⟨H.next + 1, 1, 0, [.int .u8 (c.toNat : Int)], rfl, ?_, Nat.zero_le _, rfl, rfl, Nat.le_refl _, Nat.lt_succ_self _⟩, by simp only [push_next]; omega, fun P _ => blk_some (.inr (Nat.le_succ _)), fun b hb _ => by rw [AHeap.get_push, if_neg (by rw [push_next]; omega), get_push_lt hb]⟩
    · simp only [aAppend, src1, nilS]
      rw [show Nat.beq 1 0 = false from rfl, cond_false, c1 0 rfl, cond_true]
      rfl
    · rw [AHeap.get_push]; exact if_pos rfl
  · have hg : (H.push (.cells [.int .u8 (c.toNat : Int)] 0 false)).get b = some (.cells L low false) := by rw [AHeap.get_push, if_neg (by omega)]; exact h2
    have hfr : ∀ (o : AObj) (b' : Nat), b' < H.next → Blk (AVal.slice (some ⟨b, L.length, 0⟩) s.length (.open_ 1)) (b' ≠ ·) → ((H.push (.cells [.int .u8 (c.toNat : Int)] 0 false)).set b o).get b' = H.get b' := fun o b' h1 h2 => by
      rw [AHeap.get_set, if_neg (h2 _ _ _ rfl), get_push_lt h1]
    by_cases hin : s.length + 1 ≤ L.length
    · have hw : wrCells (H.push (.cells [.int .u8 (c.toNat : Int)] 0 false)) ⟨b, L.length, s.length⟩ [.int .u8 (c.toNat : Int)] = some ((H.push (.cells [.int .u8 (c.toNat : Int)] 0 false)).set b (.cells (L.take s.length ++ ([.int .u8 (c.toNat : Int)] ++ L.drop (s.length + 1))) L.length false)) := by
        unfold wrCells
        simp only [hg, Nat.ble_eq_true_of_le h3, Nat.beq_refl, List.length_cons, List.length_nil, Nat.zero_add, Nat.ble_eq_true_of_le hin, List.all_cons, List.all_nil, hone, Bool.and_self, cond_true]
      refine ⟨.slice (some ⟨b, L.length, 0⟩) (s.length + 1) (.open_ 1), _, ?_, .inr ⟨b, L.length, L.length, L.take s.length ++ ([.int .u8 (c.toNat : Int)] ++ L.drop (s.length + 1)), by simp, by rw [AHeap.get_set, if_pos rfl], Nat.le_refl _, by simp; omega, ?_, by simp; omega, by rw [set_next, push_next]; omega⟩, by rw [set_next, push_next]; omega, fun P hP => (have hP2 : P b := hP _ _ _ rfl; blk_some (.inl hP2)), hfr _⟩
      · simp only [aAppend, src1]
        rw [show Nat.beq 1 0 = false from rfl, cond_false, c1 s.length rfl, cond_true]
        simp only [Nat.beq_refl, cond_true, Nat.zero_add, Nat.mul_one, Nat.ble_eq_true_of_le hin, hw]
      · rw [hb, ← h5]
        have e : (s ++ [c]).length = (L.take s.length ++ [AVal.int .u8 (c.toNat : Int)]).length := by simp; omega
        rw [← List.append_assoc, e, List.take_left]
    · have he : s.length = L.length := by omega
      have hL : L = byts s := by rw [← h5, he, List.take_length]
      have hgrow : growCells (H.push (.cells [.int .u8 (c.toNat : Int)] 0 false)) ⟨b, L.length, 0⟩ L.length [.int .u8 (c.toNat : Int)] = some ((H.push (.cells [.int .u8 (c.toNat : Int)] 0 false)).set b (.cells (L ++ [.int .u8 (c.toNat : Int)]) low false)) := by
        unfold growCells
        simp only [hg, Nat.ble_eq_true_of_le h3, Nat.ble_eq_true_of_le (Nat.le_refl _), Nat.ble_eq_true_of_le (Nat.zero_le _), Nat.beq_refl, List.length_cons, List.length_nil, Nat.zero_add, List.all_cons, List.all_nil, hone, Bool.and_self, cond_true, List.take_length]
      refine ⟨.slice (some ⟨b, L.length + 1, 0⟩) (L.length + 1) (.open_ 1), _, ?_, .inr ⟨b, L.length + 1, low, L ++ [.int .u8 (c.toNat : Int)], by simp [he], by rw [AHeap.get_set, if_pos rfl], by omega, by simp, ?_, by simp; omega, by rw [set_next, push_next]; omega⟩, by rw [set_next, push_next]; omega, fun P hP => (have hP2 : P b := hP _ _ _ rfl; blk_some (.inl hP2)), hfr _⟩
      · simp only [aAppend, src1]
        rw [show Nat.beq 1 0 = false from rfl, cond_false, c1 s.length rfl, cond_true, he]
        have e1 : Nat.ble (L.length + 1) L.length = false := by rw [ble_dec]; exact decide_eq_false (by omega)
        simp only [Nat.beq_refl, cond_true, Nat.zero_add, Nat.mul_one, e1, cond_false, hgrow, List.length_cons, List.length_nil]
      · rw [hb, ← hL, List.take_of_length_le (by simp; omega)]
/-! pairs of texts that grow -/
def prC (l : List (List UInt8 × List UInt8)) : List AVal := l.flatMap fun p => [.str p.1, .str p.2]
theorem prC_len (l : List (List UInt8 × List UInt8)) : (prC l).length = 2 * l.length := by
  induction l with
  | nil => rfl
  | cons p l ih => simp only [prC, List.flatMap_cons, List.length_append, List.length_cons, List.length_nil] at ih ⊢; omega
theorem prC_snoc (l : List (List UInt8 × List UInt8)) (p : List UInt8 × List UInt8) : prC (l ++ [p]) = prC l ++ [.str p.1, .str p.2] := by simp [prC]
theorem prC_at {l : List (List UInt8 × List UInt8)} {i : Nat} {p : List UInt8 × List UInt8} (h : l[i]? = some p) : ((prC l).drop (i * 2)).take 2 = [.str p.1, .str p.2] := by
  induction l generalizing i with
  | nil => simp at h
  | cons q l ih =>
    cases i with
    | zero => simp at h; subst h; simp [prC]
    | succ i =>
      have := ih (by simpa using h)
      have e : (i + 1) * 2 = i * 2 + 2 := by omega
      rw [e]
      simpa [prC] using this
theorem AppN.blk' {m n k : Nat} {H : AHeap} {s : AVal} {L : List AVal} (h : AppN m n H s L k) : Blk s (· < H.next) := fun a j r e => h.blk a j r e
theorem AppN.prs {n : Nat} {H : AHeap} {v : AVal} {l : List (List UInt8 × List UInt8)} (h : AppN 2 0 H v (prC l) l.length) (hb : Blk v (· < n)) : Prs n H v l := by
  rcases h with ⟨h1, _, h3⟩ | ⟨b, low, rfl, h2, h3, h4, h5, h6, h7⟩
  · exact .inl ⟨h1, List.length_eq_zero_iff.1 h3⟩
  · refine .inr ⟨⟨b, (prC l).length, 0⟩, .open_ 2, rfl, hb _ _ _ rfl, fun i p hp => ?_⟩
    have hlt := (List.getElem?_eq_some_iff.1 hp).1
    have := rd_row ⟨low, h5, h6⟩ rfl (i := 0 + i * 2) (k := 2) (by rw [h2]; omega)
    simp only [Nat.zero_add] at this ⊢
    rw [this, prC_at hp]
theorem AppN.same {m n k : Nat} {H H' : AHeap} {s : AVal} {L : List AVal} (h : AppN m n H s L k) (hn : H.next ≤ H'.next) (e : Blk s fun b => H'.get b = H.get b) : AppN m n H' s L k := by
  rcases h with h | ⟨b, low, rfl, h2, h3, h4, h5, h6, h7⟩
  · exact .inl h
  · exact .inr ⟨b, low, rfl, h2, h3, by omega, (e _ _ _ rfl).trans h5, h6, h7⟩
theorem AppN.one {m n k : Nat} {H : AHeap} {s : AVal} {L : List AVal} (h : AppN m n H s L k) : s.one = true := by
  rcases h with ⟨rfl, _⟩ | ⟨b, low, rfl, _⟩ <;> rfl
theorem AppN.pushB {m k : Nat} {H : AHeap} {s : AVal} {L : List AVal} (h : AppN m 0 H s L k) {xs : List AVal} (hx : xs.length = m) (ho : xs.all AVal.one = true) (hm : 0 < m) {bytes : Nat} (hb : 2 * (k + 1) * bytes ≤ 281474976710656) (hb1 : 0 < bytes) :
    ∃ s' H', aAppend m bytes (H.push (.cells xs 0 false)) s (oneM H m) = some (s', H') ∧ AppN m 0 H' s' (L ++ xs) (k + 1) ∧ H.next ≤ H'.next ∧ (∀ P, Blk s P → Blk s' fun b => P b ∨ H.next ≤ b) ∧ ∀ c, c < H.next → Blk s (c ≠ ·) → H'.get c = H.get c := by
  rcases h with ⟨rfl, rfl, rfl⟩ | ⟨b, low, rfl, h2, h3, h4, h5, h6, h7⟩
  · obtain ⟨s', H', h1, h2, h3, h4⟩ := (AppN.nil m H.next H).push (Nat.le_refl _) hx ho hm hb hb1
    refine ⟨s', H', h1, ?_, h3.next, fun P _ => ?_, fun c hc _ => h3.old c hc⟩
    · rcases h2 with h2 | ⟨b, low, e1, e2, e3, e4, e5, e6, e7⟩
      · exact .inl h2
      · exact .inr ⟨b, low, e1, e2, Nat.zero_le _, e4, e5, e6, e7⟩
    · rcases h2 with ⟨_, _, h2⟩ | ⟨b, low, rfl, e2, e3, e4, e5, e6, e7⟩
      · omega
      · exact blk_some (.inr e3)
  · have h0 : AppN m 0 H (.slice (some ⟨b, L.length, 0⟩) k (.open_ m)) L k := .inr ⟨b, low, rfl, h2, h3, h4, h5, h6, h7⟩
    have hb' : AppN m b H (.slice (some ⟨b, L.length, 0⟩) k (.open_ m)) L k := .inr ⟨b, low, rfl, h2, Nat.le_refl _, h4, h5, h6, h7⟩
    have hlen : k + 1 ≤ 9223372036854775807 := by
      have : 2 * (k + 1) ≤ 2 * (k + 1) * bytes := Nat.le_mul_of_pos_right _ hb1
      omega
    have hlt : Nat.blt 0 m = true := by simpa [Nat.blt_eq] using hm
    have c1 : (Nat.blt 0 m && (Nat.ble ((2 * (k + 1) + 0) * bytes) 281474976710656 && (Nat.ble (k + 1) 9223372036854775807 && (Nat.beq xs.length (1 * m) && xs.all AVal.one)))) = true := by
      simp only [Nat.add_zero, Nat.ble_eq_true_of_le hb, Nat.ble_eq_true_of_le hlen, hx, Nat.one_mul, Nat.beq_refl, ho, hlt, Bool.and_self]
    have hg : (H.push (.cells xs 0 false)).get b = some (.cells L low false) := by rw [AHeap.get_push, if_neg (by omega)]; exact h5
    have hgrow : growCells (H.push (.cells xs 0 false)) ⟨b, L.length, 0⟩ L.length xs = some ((H.push (.cells xs 0 false)).set b (.cells (L ++ xs) low false)) := by
      unfold growCells
      simp only [hg, Nat.ble_eq_true_of_le h6, Nat.ble_eq_true_of_le (Nat.le_refl _), Nat.ble_eq_true_of_le (Nat.zero_le _), Nat.ble_eq_true_of_le (show L.length + 1 ≤ L.length + xs.length by omega), Nat.beq_refl, ho, Bool.and_self, cond_true, List.take_length]
    have e0 : 0 + k * m = L.length := by rw [h2, Nat.mul_comm]; omega
    have e1 : Nat.ble (0 + (k + 1) * m) L.length = false := by
      rw [ble_dec]; refine decide_eq_false ?_
      rw [Nat.add_mul, Nat.one_mul]; omega
    refine ⟨.slice (some ⟨b, L.length + m, 0⟩) (k + 1) (.open_ m), (H.push (.cells xs 0 false)).set b (.cells (L ++ xs) low false), ?_, .inr ⟨b, low, by simp [hx], by rw [List.length_append, h2, hx, Nat.mul_add, Nat.mul_one], Nat.zero_le _, by rw [set_next, push_next]; omega, by rw [AHeap.get_set, if_pos rfl], by simp; omega, by omega⟩, by rw [set_next, push_next]; omega, fun P hP => (have hP2 : P b := hP _ _ _ rfl; blk_some (.inl hP2)), fun c hc hd => by rw [AHeap.get_set, if_neg (hd _ _ _ rfl), get_push_lt hc]⟩
    simp only [aAppend, srcM H hx]
    rw [show Nat.beq 1 0 = false from rfl, cond_false, c1, cond_true]
    simp only [Nat.beq_refl, cond_true, e1, cond_false, e0, hgrow, hx]
end Go.Abs.S
/- Http: awake, given to the symbolic machine. Plain Lean. -/
namespace Go.Proofs.Ht
open Go.Abs Go.Abs.S Go.Proofs
open Go.Abs.F (fcall f_closed h0 yesT)
theorem awake_run : fcall Go.Abs.TAwk27.tab 3000 6 [] h0 yesT = .yes := by kernel_rfl
theorem awake_calls (w : World) : Calls Try.prog 6 #[] w fun e w' => e = .returned (.bool true) ∧ RowKit.Below w.heap.size w w' :=
  f_closed (by kernel_rfl) Go.Abs.noNat_ok Go.Abs.TAwk27.tab_ok (args := []) (fun ρ => by simp [VRels]) awake_run w
theorem natH_ok : NatOK Try.prog (natB 6) := natB_ok (by kernel_rfl) awake_calls
abbrev natH : ANat := natB 6
end Go.Proofs.Ht
/- Symbolic runs of the abstract machine, part 19: rows of structs that grow, made with room to begin with. Plain Lean. -/
namespace Go.Abs.S
open Go.Abs
/-- k elements of m cells each: a row with room, or one that grows -/
def GrN (m n : Nat) (H : AHeap) (s : AVal) (L : List AVal) (k : Nat) : Prop :=
  AppN m n H s L k ∨ ∃ b cap low C, s = .slice (some ⟨b, C.length, 0⟩) k (.known cap) ∧ H.get b = some (.cells C low false) ∧ low ≤ C.length ∧ C.length = cap * m ∧ C.take (k * m) = L ∧ L.length = k * m ∧ k ≤ cap ∧ b < H.next ∧ n ≤ b
theorem GrN.make {m bytes cap : Nat} {z : List AVal} (H : AHeap) (hz : z.length = m) (hb : bytes * cap ≤ 281474976710656) (hc : cap ≤ 1000000) {n : Nat} (hn : n ≤ H.next) :
    ∃ s H', aMake bytes z H (.int .i64 (0 : Int)) (.int .i64 (cap : Int)) = some (s, H') ∧ GrN m n H' s [] 0 ∧ Ext H.next H H' ∧ H'.next = H.next + 1 ∧ Blk s (· = H.next) := by
  have hr : (rep z cap).length = cap * m := by
    clear hb hc
    induction cap with
    | zero => simp [rep]
    | succ k ih => simp only [rep, List.length_append, ih, hz, Nat.add_mul]; omega
  refine ⟨.slice (some ⟨H.next, (rep z cap).length, 0⟩) 0 (.known cap), H.push (.cells (rep z cap) 0 false), ?_, .inr ⟨H.next, cap, 0, rep z cap, rfl, by rw [AHeap.get_push, if_pos rfl], Nat.zero_le _, hr, by simp, by simp, Nat.zero_le _, Nat.lt_succ_self _, hn⟩, (Ext.refl _ H).push (Nat.le_refl _) _, rfl, blk_some rfl⟩
  have h0 : natOf (.int .i64 (0 : Int)) = some 0 := rfl
  have h1 : natOf (.int .i64 (cap : Int)) = some cap := by
    show natOf (.int .i64 (Int.ofNat cap)) = some cap
    simp only [natOf, Nat.ble_eq_true_of_le (show cap ≤ 9223372036854775807 by omega), cond_true]
  simp only [aMake, h0, h1, Nat.ble_eq_true_of_le (Nat.zero_le _), Nat.ble_eq_true_of_le hb, Bool.and_self, cond_true]
theorem GrN.len {m n k : Nat} {H : AHeap} {s : AVal} {L : List AVal} (h : GrN m n H s L k) : aLenK false s = some (.int .i64 (k : Int)) := by
  rcases h with h | ⟨b, cap, low, C, rfl, _⟩
  · exact h.len
  · rfl
theorem GrN.same {m k : Nat} {H H' : AHeap} {s : AVal} {L : List AVal} (h : GrN m 0 H s L k) (hn : H.next ≤ H'.next) (e : Blk s fun c => H'.get c = H.get c) : GrN m 0 H' s L k := by
  rcases h with h | ⟨b, cap, low, C, rfl, h2, h3, h4, h5, h6, h7, h8, h9⟩
  · exact .inl (h.same hn e)
  · exact .inr ⟨b, cap, low, C, rfl, (e _ _ _ rfl).trans h2, h3, h4, h5, h6, h7, by omega, h9⟩
theorem GrN.blk {m n k : Nat} {H : AHeap} {s : AVal} {L : List AVal} (h : GrN m n H s L k) : Blk s (· < H.next) := by
  rcases h with h | ⟨b, cap, low, C, rfl, h2, h3, h4, h5, h6, h7, h8, h9⟩
  · exact h.blk'
  · exact blk_some h8
theorem GrN.push {m k : Nat} {H : AHeap} {s : AVal} {L : List AVal} (h : GrN m 0 H s L k) {xs : List AVal} (hx : xs.length = m) (ho : xs.all AVal.one = true) (hm : 0 < m) {bytes : Nat} (hb : 2 * (k + 1) * bytes ≤ 281474976710656) (hb1 : 0 < bytes) :
    ∃ s' H', aAppend m bytes (H.push (.cells xs 0 false)) s (oneM H m) = some (s', H') ∧ GrN m 0 H' s' (L ++ xs) (k + 1) ∧ H.next ≤ H'.next ∧ (∀ P, Blk s P → Blk s' fun b => P b ∨ H.next ≤ b) ∧ ∀ c, c < H.next → Blk s (c ≠ ·) → H'.get c = H.get c := by
  rcases h with h | ⟨b, cap, low, C, rfl, h2, h3, h4, h5, h6, h7, h8, h9⟩
  · obtain ⟨s', H', e1, e2, e3, e4, e5⟩ := h.pushB hx ho hm hb hb1
    exact ⟨s', H', e1, .inl e2, e3, e4, e5⟩
  · have hlen : k + 1 ≤ 9223372036854775807 := by
      have : 2 * (k + 1) ≤ 2 * (k + 1) * bytes := Nat.le_mul_of_pos_right _ hb1
      omega
    have hlt : Nat.blt 0 m = true := by simpa [Nat.blt_eq] using hm
    have c1 : (Nat.blt 0 m && (Nat.ble ((2 * (k + 1) + 0) * bytes) 281474976710656 && (Nat.ble (k + 1) 9223372036854775807 && (Nat.beq xs.length (1 * m) && xs.all AVal.one)))) = true := by
      simp only [Nat.add_zero, Nat.ble_eq_true_of_le hb, Nat.ble_eq_true_of_le hlen, hx, Nat.one_mul, Nat.beq_refl, ho, hlt, Bool.and_self]
    have hg : (H.push (.cells xs 0 false)).get b = some (.cells C low false) := by rw [AHeap.get_push, if_neg (by omega)]; exact h2
    by_cases hin : k + 1 ≤ cap
    · have hle : k * m + m ≤ C.length := by
        have : (k + 1) * m ≤ cap * m := Nat.mul_le_mul_right _ hin
        rw [Nat.add_mul, Nat.one_mul] at this; omega
      have hw : wrCells (H.push (.cells xs 0 false)) ⟨b, C.length, 0 + k * m⟩ xs = some ((H.push (.cells xs 0 false)).set b (.cells (C.take (k * m) ++ (xs ++ C.drop (k * m + m))) C.length false)) := by
        unfold wrCells
        simp only [hg, Nat.ble_eq_true_of_le h3, Nat.beq_refl, Nat.zero_add, hx, Nat.ble_eq_true_of_le hle, ho, Bool.and_self, cond_true]
      have hl2 : (C.take (k * m) ++ (xs ++ C.drop (k * m + m))).length = C.length := by simp [hx]; omega
      refine ⟨.slice (some ⟨b, C.length, 0⟩) (k + 1) (.known cap), (H.push (.cells xs 0 false)).set b (.cells (C.take (k * m) ++ (xs ++ C.drop (k * m + m))) C.length false), ?_, .inr ⟨b, cap, C.length, C.take (k * m) ++ (xs ++ C.drop (k * m + m)), by rw [hl2], by rw [AHeap.get_set, if_pos rfl], by omega, by rw [hl2]; exact h4, ?_, by simp [h6, hx, Nat.add_mul], hin, by rw [set_next, push_next]; omega, h9⟩, by rw [set_next, push_next]; omega, fun P hP => (have hP2 : P b := hP _ _ _ rfl; blk_some (.inl hP2)), fun c hc hd => by rw [AHeap.get_set, if_neg (hd _ _ _ rfl), get_push_lt hc]⟩
      · simp only [aAppend, srcM H hx]
        rw [show Nat.beq 1 0 = false from rfl, cond_false, c1, cond_true]
        simp only [Nat.ble_eq_true_of_le hin, cond_true, hw]
      · have e : (k + 1) * m = (L ++ xs).length := by simp [h6, hx, Nat.add_mul]
        rw [h5, ← List.append_assoc, e, List.take_left]
    · have hk : k = cap := by omega
      have hL : L = C := by rw [← h5, hk, ← h4, List.take_length]
      have hr : rdCells (H.push (.cells xs 0 false)) ⟨b, C.length, 0⟩ (k * m) = some L := by
        have := rd_row (H := H.push (.cells xs 0 false)) ⟨low, hg, h3⟩ rfl (i := 0) (k := k * m) (by rw [hk]; omega)
        rw [this, List.drop_zero, h5]
      refine ⟨.slice (some ⟨H.next + 1, (L ++ xs).length, 0⟩) (k + 1) (.open_ m), (H.push (.cells xs 0 false)).push (.cells (L ++ xs) 0 false), ?_, .inl (.inr ⟨H.next + 1, 0, rfl, by simp [h6, hx, Nat.mul_comm m, Nat.add_mul], Nat.zero_le _, Nat.lt_succ_self _, by rw [AHeap.get_push]; exact if_pos rfl, Nat.zero_le _, by omega⟩), by simp only [push_next]; omega, fun P _ => blk_some (.inr (Nat.le_succ _)), fun c hc _ => by rw [AHeap.get_push, if_neg (by rw [push_next]; omega), get_push_lt hc]⟩
      simp only [aAppend, srcM H hx]
      rw [show Nat.beq 1 0 = false from rfl, cond_false, c1, cond_true]
      have e1 : Nat.ble (k + 1) cap = false := by rw [ble_dec]; exact decide_eq_false (by omega)
      simp only [e1, cond_false, hr, push_next]
/-- one of them -/
theorem GrN.at {m n k : Nat} {H : AHeap} {s : AVal} {L : List AVal} (h : GrN m n H s L k) {i : Nat} (hi : i < k) : ∃ b lim, aIdxA m s (.int .i64 (i : Int)) = some (cellR b lim (i * m)) ∧ oLoad true m H (cellR b lim (i * m)) = some (.agg ((L.drop (i * m)).take m)) := by
  have him : i * m + m ≤ k * m := by
    have : (i + 1) * m ≤ k * m := Nat.mul_le_mul_right _ hi
    rwa [Nat.add_mul, Nat.one_mul] at this
  have hb : Nat.blt i k = true := by simpa [Nat.blt_eq] using hi
  rcases h with h | ⟨b, cap, low, C, rfl, h2, h3, h4, h5, h6, h7, h8, h9⟩
  · rcases h with ⟨_, _, h⟩ | ⟨b, low, rfl, h2, h3, h4, h5, h6, h7⟩
    · omega
    · exact ⟨b, L.length, idxM .i64 hi, row_loadK ⟨low, h5, h6⟩ rfl (by rw [h2, Nat.mul_comm m]; exact him)⟩
  · refine ⟨b, C.length, ?_, ?_⟩
    · show (bif Nat.blt i k then some (AVal.ptr (some ⟨b, C.length, 0 + i * m⟩)) else none) = _
      rw [hb, Nat.zero_add]; rfl
    · have hle : k * m ≤ C.length := by rw [h4]; exact Nat.mul_le_mul_right _ h7
      rw [row_loadK ⟨low, h2, h3⟩ rfl (by omega)]
      congr 2
      rw [← h5, List.drop_take, List.take_take, Nat.min_eq_left (by omega)]
/-! texts -/
theorem strs_len (l : List (List UInt8)) : (strs l).length = l.length := by simp [strs]
theorem strs_snoc (l : List (List UInt8)) (s : List UInt8) : strs (l ++ [s]) = strs l ++ [.str s] := by simp [strs]
/-- ways through a first part meet again behind it -/
theorem aw_seqF {C : CS} {a b : ACode} {Q : Post} {T : Env} {H : AHeap} (F : Env → AHeap → Prop) (hC : CMono C) (h : wp C a (inSeq Q F) T H) (k : ∀ T H, F T H → wp C b Q T H) : wp C (.seq a b) Q T H := by
  rw [aw_seq]
  exact wp_mono' hC a (inSeq_mono (fun _ _ _ h => h) k) h
end Go.Abs.S
/- Symbolic runs of the abstract machine, part 20: code that is held for later; slices are what they are. Plain Lean. -/
namespace Go.Abs.S
open Go.Abs
def hold (c : ACode) : ACode := c
theorem hold_eq (c : ACode) : hold c = c := _root_.id rfl
def restAt : Nat → ACode → ACode
  | 0, c => c
  | k + 1, .seq _ b => restAt k b
  | _ + 1, c => c
def cutAt : Nat → ACode → ACode
  | 0, c => hold c
  | k + 1, .seq a b => .seq a (cutAt k b)
  | _ + 1, c => c
theorem cutAt_eq : ∀ (k : Nat) (c : ACode), cutAt k c = c
  | 0, c => rfl
  | k + 1, c => by
    cases c <;> simp only [cutAt]
    rw [cutAt_eq k]
theorem cutAt_0 (c : ACode) : cutAt 0 c = hold c := _root_.id rfl
theorem cutAt_s (k : Nat) (a b : ACode) : cutAt (k + 1) (.seq a b) = .seq a (cutAt k b) := _root_.id rfl
theorem wp_cutAt {C : CS} {c : ACode} {Q : Post} {T : Env} {H : AHeap} (k : Nat) (h : wp C (cutAt k c) Q T H) : wp C c Q T H := by rwa [cutAt_eq] at h
theorem aeq_open (a : Ad) (n m : Nat) : aeq (.slice (some a) n (.open_ m)) (.slice (some a) n (.open_ m)) = true := by simp [aeq]
theorem aeq_nilS : aeq nilS nilS = true := rfl
end Go.Abs.S
/- Symbolic runs of the abstract machine, part 21: the steps, all in one. Plain Lean. -/
namespace Go.Abs.S
open Go.Abs
theorem sW : type_of% (And.intro (And.intro (And.intro (And.intro (And.intro (And.intro (And.intro (@pf_min) (@undef_bool)) (And.intro (@str_len) (@str_eql))) (And.intro (And.intro (@str_neq) (@conv_in)) (@un_not))) (And.intro (And.intro (And.intro (@eq_self.{1}) (@decide_true)) (@decide_false)) (And.intro (And.intro (@Bool.not_true) (@Bool.not_false)) (@argE_0)))) (And.intro (And.intro (And.intro (And.intro (@argE_1) (@argE_2)) (And.intro (@argE_3) (@argE_4))) (And.intro (And.intro (@aw_skip) (@aw_reg)) (@aw_seq))) (And.intro (And.intro (And.intro (@aw_cond) (@aw_exit)) (@aw_ret)) (And.intro (And.intro (@inSeq_normal) (@inSeq_exit)) (@inSeq_ret))))) (And.intro (And.intro (And.intro (And.intro (And.intro (@inBlk_exit) (@inBlk_normal)) (And.intro (@inBlk_ret) (@OptK_some))) (And.intro (And.intro (@OptH_some) (@OptS_some)) (@kont_app))) (And.intro (And.intro (And.intro (@ar_nil) (@ar_guard)) (@ar_mv)) (And.intro (And.intro (@ar_pick) (@ar_new)) (@ar_box)))) (And.intro (And.intro (And.intro (And.intro (@ar_build) (@ar_buildSl)) (@ar_load)) (And.intro (And.intro (@ar_store) (@ar_nilChk)) (@ar_bin))) (And.intro (And.intro (And.intro (@ar_un) (@ar_conv)) (@ar_convSB)) (And.intro (And.intro (@ar_convBS) (@ar_mkFunc)) (@ar_mkIface)))))) (And.intro (And.intro (And.intro (And.intro (And.intro (And.intro (@ar_mkSlice) (@ar_sl)) (And.intro (@ar_slStr) (@ar_fieldA))) (And.intro (And.intro (@ar_field) (@ar_idxA)) (@ar_idxArr))) (And.intro (And.intro (And.intro (@ar_idx) (@ar_idxS)) (@ar_extract)) (And.intro (And.intro (@ar_append) (@ar_len)) (@ar_call)))) (And.intro (And.intro (And.intro (And.intro (@ar_callv) (@callvP_func)) (@ar_pf)) (And.intro (And.intro (@ar_hf) (@ar_slA)) (@upO_some))) (And.intro (And.intro (And.intro (@upO_none) (@sX_t)) (@sX_c)) (And.intro (And.intro (@sX_f) (@fin_t)) (@fin_t2))))) (And.intro (And.intro (And.intro (And.intro (And.intro (@fin_t3) (@up_same)) (And.intro (@up_ne) (@ne_eq.{1}))) (And.intro (And.intro (@not_false_eq_true) (@AVal.bool.injEq)) (@decide_eq_true_eq))) (And.intro (And.intro (And.intro (@decide_eq_false_iff_not) (@Int.ofNat_eq_natCast)) (@Int.cast_ofNat_Int)) (And.intro (And.intro (@bin_lss) (@bin_leq)) (@bin_gtr)))) (And.intro (And.intro (And.intro (And.intro (@bin_geq) (@bin_eql)) (@bin_neq)) (And.intro (And.intro (@bin_add) (@bin_sub)) (@bin_mul))) (And.intro (And.intro (And.intro (@Bool.not_eq_true') (@Bool.not_eq_false')) (@Bool.true_eq_false)) (And.intro (And.intro (@Bool.false_eq_true) (@if_true.{1})) (@if_false.{1}))))))) := And.intro (And.intro (And.intro (And.intro (And.intro (And.intro (And.intro (@pf_min) (@undef_bool)) (And.intro (@str_len) (@str_eql))) (And.intro (And.intro (@str_neq) (@conv_in)) (@un_not))) (And.intro (And.intro (And.intro (@eq_self.{1}) (@decide_true)) (@decide_false)) (And.intro (And.intro (@Bool.not_true) (@Bool.not_false)) (@argE_0)))) (And.intro (And.intro (And.intro (And.intro (@argE_1) (@argE_2)) (And.intro (@argE_3) (@argE_4))) (And.intro (And.intro (@aw_skip) (@aw_reg)) (@aw_seq))) (And.intro (And.intro (And.intro (@aw_cond) (@aw_exit)) (@aw_ret)) (And.intro (And.intro (@inSeq_normal) (@inSeq_exit)) (@inSeq_ret))))) (And.intro (And.intro (And.intro (And.intro (And.intro (@inBlk_exit) (@inBlk_normal)) (And.intro (@inBlk_ret) (@OptK_some))) (And.intro (And.intro (@OptH_some) (@OptS_some)) (@kont_app))) (And.intro (And.intro (And.intro (@ar_nil) (@ar_guard)) (@ar_mv)) (And.intro (And.intro (@ar_pick) (@ar_new)) (@ar_box)))) (And.intro (And.intro (And.intro (And.intro (@ar_build) (@ar_buildSl)) (@ar_load)) (And.intro (And.intro (@ar_store) (@ar_nilChk)) (@ar_bin))) (And.intro (And.intro (And.intro (@ar_un) (@ar_conv)) (@ar_convSB)) (And.intro (And.intro (@ar_convBS) (@ar_mkFunc)) (@ar_mkIface)))))) (And.intro (And.intro (And.intro (And.intro (And.intro (And.intro (@ar_mkSlice) (@ar_sl)) (And.intro (@ar_slStr) (@ar_fieldA))) (And.intro (And.intro (@ar_field) (@ar_idxA)) (@ar_idxArr))) (And.intro (And.intro (And.intro (@ar_idx) (@ar_idxS)) (@ar_extract)) (And.intro (And.intro (@ar_append) (@ar_len)) (@ar_call)))) (And.intro (And.intro (And.intro (And.intro (@ar_callv) (@callvP_func)) (@ar_pf)) (And.intro (And.intro (@ar_hf) (@ar_slA)) (@upO_some))) (And.intro (And.intro (And.intro (@upO_none) (@sX_t)) (@sX_c)) (And.intro (And.intro (@sX_f) (@fin_t)) (@fin_t2))))) (And.intro (And.intro (And.intro (And.intro (And.intro (@fin_t3) (@up_same)) (And.intro (@up_ne) (@ne_eq.{1}))) (And.intro (And.intro (@not_false_eq_true) (@AVal.bool.injEq)) (@decide_eq_true_eq))) (And.intro (And.intro (And.intro (@decide_eq_false_iff_not) (@Int.ofNat_eq_natCast)) (@Int.cast_ofNat_Int)) (And.intro (And.intro (@bin_lss) (@bin_leq)) (@bin_gtr)))) (And.intro (And.intro (And.intro (And.intro (@bin_geq) (@bin_eql)) (@bin_neq)) (And.intro (And.intro (@bin_add) (@bin_sub)) (@bin_mul))) (And.intro (And.intro (And.intro (@Bool.not_eq_true') (@Bool.not_eq_false')) (@Bool.true_eq_false)) (And.intro (And.intro (@Bool.false_eq_true) (@if_true.{1})) (@if_false.{1}))))))
theorem sL : type_of% (And.intro (And.intro (@List.nil_append.{0}) (@List.cons_append.{0})) (@List.append_nil.{0})) := And.intro (And.intro (@List.nil_append.{0}) (@List.cons_append.{0})) (@List.append_nil.{0})
theorem sR : type_of% (And.intro (And.intro (And.intro (And.intro (And.intro (And.intro (@consK_app) (@OptKT_some)) (@OptHT_some)) (And.intro (@OptST_some) (@kontT_app))) (And.intro (And.intro (And.intro (@tr_nil) (@tr_guard)) (@tr_pick)) (And.intro (@tr_mv) (@tr_new)))) (And.intro (And.intro (And.intro (And.intro (@tr_box) (@tr_build)) (@tr_buildSl)) (And.intro (@tr_load) (@tr_store))) (And.intro (And.intro (And.intro (@tr_nilChk) (@tr_bin)) (@tr_un)) (And.intro (@tr_conv) (@tr_convSB))))) (And.intro (And.intro (And.intro (And.intro (And.intro (@tr_convBS) (@tr_mkFunc)) (@tr_mkIface)) (And.intro (@tr_mkSlice) (@tr_sl))) (And.intro (And.intro (And.intro (@tr_slStr) (@tr_fieldA)) (@tr_field)) (And.intro (@tr_idxA) (@tr_idxArr)))) (And.intro (And.intro (And.intro (And.intro (@tr_idx) (@tr_idxS)) (@tr_extract)) (And.intro (@tr_append) (@tr_len))) (And.intro (And.intro (And.intro (@tr_call) (@tr_callv)) (@tr_pf)) (And.intro (@tr_hf) (@tr_slA)))))) := And.intro (And.intro (And.intro (And.intro (And.intro (And.intro (@consK_app) (@OptKT_some)) (@OptHT_some)) (And.intro (@OptST_some) (@kontT_app))) (And.intro (And.intro (And.intro (@tr_nil) (@tr_guard)) (@tr_pick)) (And.intro (@tr_mv) (@tr_new)))) (And.intro (And.intro (And.intro (And.intro (@tr_box) (@tr_build)) (@tr_buildSl)) (And.intro (@tr_load) (@tr_store))) (And.intro (And.intro (And.intro (@tr_nilChk) (@tr_bin)) (@tr_un)) (And.intro (@tr_conv) (@tr_convSB))))) (And.intro (And.intro (And.intro (And.intro (And.intro (@tr_convBS) (@tr_mkFunc)) (@tr_mkIface)) (And.intro (@tr_mkSlice) (@tr_sl))) (And.intro (And.intro (And.intro (@tr_slStr) (@tr_fieldA)) (@tr_field)) (And.intro (@tr_idxA) (@tr_idxArr)))) (And.intro (And.intro (And.intro (And.intro (@tr_idx) (@tr_idxS)) (@tr_extract)) (And.intro (@tr_append) (@tr_len))) (And.intro (And.intro (And.intro (@tr_call) (@tr_callv)) (@tr_pf)) (And.intro (@tr_hf) (@tr_slA)))))
end Go.Abs.S
/- Http: kinds of bytes, all bytes of a text, a text cut at a byte: the contracts. -/
namespace Go.Proofs.Ht
open Go.Abs Go.Abs.S
set_option linter.unusedSimpArgs false
abbrev by8 (c : UInt8) : AVal := .int .u8 (c.toNat : Int)
def Says (g : Nat) (p : UInt8 → Bool) : Prop := ∀ (c : UInt8) (H : AHeap), ACalls Try.prog natH g [by8 c] H fun v H' => v = .bool (p c) ∧ H = H'
theorem digB_int (c : UInt8) : digB c = (decide ((48 : Int) ≤ c.toNat) && decide ((c.toNat : Int) ≤ 57)) := by
  rw [Bool.eq_iff_iff]; simp only [digB, Bool.and_eq_true, decide_eq_true_eq]; omega
theorem valB_int (c : UInt8) : valB c = (decide ((c.toNat : Int) = 9) || (decide ((32 : Int) ≤ c.toNat) && !decide ((c.toNat : Int) = 127))) := by
  rw [Bool.eq_iff_iff]; simp only [valB, Bool.or_eq_true, Bool.and_eq_true, Bool.not_eq_true', decide_eq_true_eq, decide_eq_false_iff_not]; omega
theorem blk_int (c : UInt8) : blk c = (decide ((c.toNat : Int) = 32) || decide ((c.toNat : Int) = 9)) := by
  rw [Bool.eq_iff_iff]; simp only [blk, Bool.or_eq_true, decide_eq_true_eq]; omega
theorem tarB_int (c : UInt8) : tarB c = (decide ((33 : Int) ≤ c.toNat) && decide ((c.toNat : Int) ≤ 126)) := by
  rw [Bool.eq_iff_iff]; simp only [tarB, Bool.and_eq_true, decide_eq_true_eq]; omega
theorem no13_int (c : UInt8) : no13 c = !decide ((c.toNat : Int) = 13) := by
  rw [Bool.eq_iff_iff]; simp only [no13, Bool.not_eq_true', decide_eq_false_iff_not]; omega
theorem says_dig : Says 62 digB := by
  intro c H
  refine acalls_ofN rfl za62 rfl ?_
  rw [digB_int]
  by_cases h1 : (48 : Int) ≤ (c.toNat : Int) <;> by_cases h2 : (c.toNat : Int) ≤ 57
  all_goals
    simp only [c62, sW, sL, aw_block, sXs, sXO, sXP, Int.reduceNegSucc, reduceCtorEq, Nat.reduceEqDiff, ↓reduceIte, Nat.reduceAdd, Int.reduceEq, Int.reduceLT, Int.reduceLE, h1, h2]
    exact ⟨by simp, (by first | trivial | rfl | assumption)⟩
theorem says_val : Says 53 valB := by
  intro c H
  refine acalls_ofN rfl za53 rfl ?_
  rw [valB_int]
  by_cases h1 : (c.toNat : Int) = 9 <;> by_cases h2 : (32 : Int) ≤ (c.toNat : Int) <;> by_cases h3 : (c.toNat : Int) = 127
  all_goals first
    | (exfalso; omega)
    | (simp only [c53, sW, sL, aw_block, sXs, sXO, sXP, Int.reduceNegSucc, reduceCtorEq, Nat.reduceEqDiff, ↓reduceIte, Nat.reduceAdd, Int.reduceEq, Int.reduceLT, Int.reduceLE, h1, h2, h3]
       exact ⟨by simp, (by first | trivial | rfl | assumption)⟩)
theorem says_blk : Says 66 blk := by
  intro c H
  refine acalls_ofN rfl za66 rfl ?_
  rw [blk_int]
  by_cases h1 : (c.toNat : Int) = 32 <;> by_cases h2 : (c.toNat : Int) = 9
  all_goals first
    | (exfalso; omega)
    | (simp only [c66, sW, sL, aw_block, sXs, sXO, sXP, Int.reduceNegSucc, reduceCtorEq, Nat.reduceEqDiff, ↓reduceIte, Nat.reduceAdd, Int.reduceEq, Int.reduceLT, Int.reduceLE, h1, h2]
       exact ⟨by simp, (by first | trivial | rfl | assumption)⟩)
theorem says_tar : Says 49 tarB := by
  intro c H
  refine acalls_ofN rfl za49 rfl ?_
  rw [tarB_int]
  by_cases h1 : (33 : Int) ≤ (c.toNat : Int) <;> by_cases h2 : (c.toNat : Int) ≤ 126
  all_goals
    simp only [c49, sW, sL, aw_block, sXs, sXO, sXP, Int.reduceNegSucc, reduceCtorEq, Nat.reduceEqDiff, ↓reduceIte, Nat.reduceAdd, Int.reduceEq, Int.reduceLT, Int.reduceLE, h1, h2]
    exact ⟨by simp, (by first | trivial | rfl | assumption)⟩
theorem says_no13 : Says 40 no13 := by
  intro c H
  refine acalls_ofN rfl za40 rfl ?_
  rw [no13_int]
  by_cases h1 : (c.toNat : Int) = 13
  all_goals
    simp only [c40, sW, sL, aw_block, sXs, sXO, sXP, Int.reduceNegSucc, reduceCtorEq, Nat.reduceEqDiff, ↓reduceIte, Nat.reduceAdd, Int.reduceEq, Int.reduceLT, Int.reduceLE, h1]
    exact ⟨by simp, (by first | trivial | rfl | assumption)⟩
theorem hexB_int (c : UInt8) : hexB c = (digB c || ((decide ((97 : Int) ≤ c.toNat) && decide ((c.toNat : Int) ≤ 102)) || (decide ((65 : Int) ≤ c.toNat) && decide ((c.toNat : Int) ≤ 70)))) := by
  rw [Bool.eq_iff_iff]; simp only [hexB, Bool.or_eq_true, Bool.and_eq_true, decide_eq_true_eq]
  have : ∀ a b : Nat, ((a : Int) ≤ (b : Int)) ↔ a ≤ b := fun a b => by omega
  constructor <;> (intro h; rcases h with h | h | h; exact .inl h; exact .inr (.inl (by omega)); exact .inr (.inr (by omega)))
theorem says_hex : Says 52 hexB := by
  intro c H
  refine acalls_ofN rfl za52 rfl ?_
  rw [hexB_int]
  by_cases h1 : (97 : Int) ≤ (c.toNat : Int) <;> by_cases h2 : (c.toNat : Int) ≤ 102 <;> by_cases h3 : (65 : Int) ≤ (c.toNat : Int) <;> by_cases h4 : (c.toNat : Int) ≤ 70
  all_goals first
    | (exfalso; omega)
    | (simp only [c52, sW, sL, aw_block, sXs, sXO, sXP, Int.reduceNegSucc, reduceCtorEq, Nat.reduceEqDiff, ↓reduceIte, Nat.reduceAdd, Int.reduceEq, Int.reduceLT, Int.reduceLE]
       refine (says_dig c H).mono ?_
       rintro v _ ⟨rfl, rfl⟩
       cases digB c <;> (simp only [sW, sL, aw_block, sXs, sXO, sXP, Int.reduceNegSucc, reduceCtorEq, Nat.reduceEqDiff, ↓reduceIte, Nat.reduceAdd, Int.reduceEq, Int.reduceLT, Int.reduceLE, h1, h2, h3, h4]; exact ⟨by simp, (by first | trivial | rfl | assumption)⟩))
theorem ibF_fnd (c : UInt8) (s : Bs) (n : Nat) : ibF c s n = if fnd s c < s.length then ((n + fnd s c : Nat) : Int) else -1 := by
  induction s generalizing n with
  | nil => rfl
  | cons b r ih =>
    rw [ibF]
    by_cases h : b = c
    · subst h
      have e : Nat.beq b.toNat b.toNat = true := Nat.beq_refl _
      have e2 : fnd (b :: r) b = 0 := by simp [fnd, List.findIdx_cons]
      rw [e, cond_true, e2, if_pos (by simp)]; rfl
    · have e : Nat.beq b.toNat c.toNat = false := by
        cases hb : Nat.beq b.toNat c.toNat with
        | false => rfl
        | true => exact absurd (UInt8.toNat_inj.1 (Nat.eq_of_beq_eq_true hb)) h
      have e2 : fnd (b :: r) c = fnd r c + 1 := by
        have : (b == c) = false := by simpa using h
        simp [fnd, List.findIdx_cons, this]
      rw [e, cond_false, ih, e2]
      simp only [List.length_cons, Nat.add_lt_add_iff_right]
      split
      · congr 1; omega
      · rfl
theorem fnd_le (s : Bs) (c : UInt8) : fnd s c ≤ s.length := List.findIdx_le_length
theorem fnd_mem (s : Bs) (c : UInt8) : fnd s c < s.length ↔ c ∈ s := by
  unfold fnd
  rw [List.findIdx_lt_length]
  constructor
  · rintro ⟨x, hx, he⟩
    have : x = c := by simpa using he
    rw [← this]; exact hx
  · intro h; exact ⟨c, h, by simp⟩
theorem ib_spec (s : Bs) (c : UInt8) {H : AHeap} : ACalls Try.prog natH 55 [.str s, by8 c] H fun v H' => v = .int .i64 (ibF c s 0) ∧ H = H' := by
  refine acalls_ofN rfl za55 rfl ?_
  simp only [c55, sW, sL, aw_block, sXs, sXO, sXP, Int.reduceNegSucc, reduceCtorEq, Nat.reduceEqDiff, ↓reduceIte, Nat.reduceAdd, Int.reduceEq, Int.reduceLT, Int.reduceLE]
  have key : ACalls Try.prog natH 63 [.str s, by8 c] H fun v H' => v = .int .i64 (ibF c s 0) ∧ H = H' := by
    refine acalls_ofN rfl za63 rfl ?_
    have e : aPf .ibs [.str s, by8 c] = some (.int .i64 (ibF c s 0)) := by
      have : aPf .ibs [.str s, by8 c] = some (.int .i64 (ibF c.toNat.toUInt8 s 0)) := rfl
      rw [this]
      congr 3
      exact UInt8.ofNat_toNat
    simp only [c63, sW, sL, aw_block, sXs, sXO, sXP, Int.reduceNegSucc, reduceCtorEq, Nat.reduceEqDiff, ↓reduceIte, Nat.reduceAdd, Int.reduceEq, Int.reduceLT, Int.reduceLE, e]
    exact ⟨by trivial, by trivial⟩
  refine key.mono ?_
  rintro v _ ⟨rfl, rfl⟩
  simp only [sW, sL, aw_block, sXs, sXO, sXP, Int.reduceNegSucc, reduceCtorEq, Nat.reduceEqDiff, ↓reduceIte, Nat.reduceAdd, Int.reduceEq, Int.reduceLT, Int.reduceLE]
  exact ⟨(by first | trivial | rfl | assumption), (by first | trivial | rfl | assumption)⟩
theorem tch_int (c : UInt8) : tch c = (digB c || (((decide ((97 : Int) ≤ c.toNat) && decide ((c.toNat : Int) ≤ 122)) || (decide ((65 : Int) ≤ c.toNat) && decide ((c.toNat : Int) ≤ 90))) || decide ((0 : Int) ≤ ibF c tcL 0))) := by
  have h0 : ((0 : Int) ≤ ibF c tcL 0) ↔ c ∈ tcL := by
    rw [ibF_fnd, ← fnd_mem]
    split
    · rename_i h; exact ⟨fun _ => h, fun _ => by omega⟩
    · rename_i h; exact ⟨fun h' => absurd h' (by omega), fun h' => absurd h' h⟩
  have h1 : decide ((0 : Int) ≤ ibF c tcL 0) = decide (c ∈ tcL) := by rw [decide_eq_decide]; exact h0
  have h2 : ((decide ((97 : Int) ≤ c.toNat) && decide ((c.toNat : Int) ≤ 122)) || (decide ((65 : Int) ≤ c.toNat) && decide ((c.toNat : Int) ≤ 90))) = ((decide (97 ≤ c.toNat) && decide (c.toNat ≤ 122)) || (decide (65 ≤ c.toNat) && decide (c.toNat ≤ 90))) := by
    rw [Bool.eq_iff_iff]; simp only [Bool.or_eq_true, Bool.and_eq_true, decide_eq_true_eq]; omega
  rw [h1, h2]; rfl
theorem says_tch : Says 56 tch := by
  intro c H
  refine acalls_ofN rfl za56 rfl ?_
  rw [tch_int]
  have ib : ∀ {H : AHeap}, ACalls Try.prog natH 55 [.str [33, 35, 36, 37, 38, 39, 42, 43, 45, 46, 94, 95, 96, 124, 126], by8 c] H fun v H' => v = .int .i64 (ibF c tcL 0) ∧ H = H' := ib_spec tcL c
  by_cases h1 : (97 : Int) ≤ (c.toNat : Int) <;> by_cases h2 : (c.toNat : Int) ≤ 122 <;> by_cases h3 : (65 : Int) ≤ (c.toNat : Int) <;> by_cases h4 : (c.toNat : Int) ≤ 90
  all_goals first
    | (exfalso; omega)
    | (simp only [c56, sW, sL, aw_block, sXs, sXO, sXP, Int.reduceNegSucc, reduceCtorEq, Nat.reduceEqDiff, ↓reduceIte, Nat.reduceAdd, Int.reduceEq, Int.reduceLT, Int.reduceLE, h1, h2, h3, h4]
       refine (says_dig c H).mono ?_
       rintro v _ ⟨rfl, rfl⟩
       cases digB c <;> first
         | (simp only [sW, sL, aw_block, sXs, sXO, sXP, Int.reduceNegSucc, reduceCtorEq, Nat.reduceEqDiff, ↓reduceIte, Nat.reduceAdd, Int.reduceEq, Int.reduceLT, Int.reduceLE]; exact ⟨by simp, (by first | trivial | rfl | assumption)⟩)
         | (simp only [sW, sL, aw_block, sXs, sXO, sXP, Int.reduceNegSucc, reduceCtorEq, Nat.reduceEqDiff, ↓reduceIte, Nat.reduceAdd, Int.reduceEq, Int.reduceLT, Int.reduceLE]
            refine ib.mono ?_
            rintro v _ ⟨rfl, rfl⟩
            simp only [sW, sL, aw_block, sXs, sXO, sXP, Int.reduceNegSucc, reduceCtorEq, Nat.reduceEqDiff, ↓reduceIte, Nat.reduceAdd, Int.reduceEq, Int.reduceLT, Int.reduceLE]
            exact ⟨by simp, (by first | trivial | rfl | assumption)⟩))
theorem all_spec {g : Nat} {p : UInt8 → Bool} (hp : Says g p) {H : AHeap} (s : Bs) (hs : s.length ≤ 4611686018427387904) :
    ACalls Try.prog natH 39 [.str s, .func (.func g) [] []] H fun v H' => v = .bool (s.all p) ∧ H = H' := by
  refine acalls_ofN rfl za39 rfl ?_
  simp only [c39, sW, sL, aw_block, sXs, sXO, sXP, Int.reduceNegSucc, reduceCtorEq, Nat.reduceEqDiff, ↓reduceIte, Nat.reduceAdd, Int.reduceEq, Int.reduceLT, Int.reduceLE]
  refine aw_loop (fun q (T : Env) H' => ∃ j : Nat, j ≤ s.length ∧ q = s.length - j ∧ T 0 = .str s ∧ T 1 = .func (.func g) [] [] ∧ T 7 = .int .i64 (s.length : Int) ∧ T 8 = .int .i64 (j : Int) ∧ (s.take j).all p = true ∧ H = H') s.length
    ⟨0, Nat.zero_le _, rfl, by simp only [sW, sL, aw_block, sXs, sXO, sXP, Int.reduceNegSucc, reduceCtorEq, Nat.reduceEqDiff, ↓reduceIte, Nat.reduceAdd, Int.reduceEq, Int.reduceLT, Int.reduceLE]; try rfl, by simp only [sW, sL, aw_block, sXs, sXO, sXP, Int.reduceNegSucc, reduceCtorEq, Nat.reduceEqDiff, ↓reduceIte, Nat.reduceAdd, Int.reduceEq, Int.reduceLT, Int.reduceLE]; try rfl, by simp only [sW, sL, aw_block, sXs, sXO, sXP, Int.reduceNegSucc, reduceCtorEq, Nat.reduceEqDiff, ↓reduceIte, Nat.reduceAdd, Int.reduceEq, Int.reduceLT, Int.reduceLE]; try rfl, by simp only [sW, sL, aw_block, sXs, sXO, sXP, Int.reduceNegSucc, reduceCtorEq, Nat.reduceEqDiff, ↓reduceIte, Nat.reduceAdd, Int.reduceEq, Int.reduceLT, Int.reduceLE]; try rfl, rfl, rfl⟩ ?_
  rintro q T _ ⟨j, hj, rfl, g0, g1, g7, g8, hA, rfl⟩
  by_cases hlt : j < s.length
  · have hlt' : (j : Int) < (s.length : Int) := by omega
    obtain ⟨c, hc⟩ := isSome_of_lt hlt
    simp only [sW, sL, aw_block, sXs, sXO, sXP, Int.reduceNegSucc, reduceCtorEq, Nat.reduceEqDiff, ↓reduceIte, Nat.reduceAdd, Int.reduceEq, Int.reduceLT, Int.reduceLE, g0, g1, g7, g8, hlt', str_idx hc]
    refine (hp c H).mono ?_
    rintro v _ ⟨rfl, rfl⟩
    cases hpc : p c with
    | true =>
      simp only [sW, sL, aw_block, sXs, sXO, sXP, Int.reduceNegSucc, reduceCtorEq, Nat.reduceEqDiff, ↓reduceIte, Nat.reduceAdd, Int.reduceEq, Int.reduceLT, Int.reduceLE, g0, g1, g7, g8, wrap1 j (by omega)]
      refine ⟨_, by omega, j + 1, by omega, rfl, (by first | trivial | rfl | assumption), (by first | trivial | rfl | assumption), (by first | trivial | rfl | assumption), (by first | trivial | rfl | assumption), ?_, (by first | trivial | rfl | assumption)⟩
      rw [List.take_add_one, hc, List.all_append, hA]; simp [hpc]
    | false =>
      simp only [sW, sL, aw_block, sXs, sXO, sXP, Int.reduceNegSucc, reduceCtorEq, Nat.reduceEqDiff, ↓reduceIte, Nat.reduceAdd, Int.reduceEq, Int.reduceLT, Int.reduceLE, g0, g1, g7, g8]
      refine ⟨?_, (by first | trivial | rfl | assumption)⟩
      have : s.all p = false := by
        rw [Bool.eq_false_iff]
        intro h
        have := List.all_eq_true.1 h c (List.mem_of_getElem? hc)
        rw [hpc] at this; simp at this
      rw [this]
  · have hlt' : ¬ (j : Int) < (s.length : Int) := by omega
    simp only [sW, sL, aw_block, sXs, sXO, sXP, Int.reduceNegSucc, reduceCtorEq, Nat.reduceEqDiff, ↓reduceIte, Nat.reduceAdd, Int.reduceEq, Int.reduceLT, Int.reduceLE, g0, g1, g7, g8, hlt']
    refine ⟨?_, (by first | trivial | rfl | assumption)⟩
    rw [List.take_of_length_le (by omega)] at hA
    rw [hA]
theorem cut_spec (s : Bs) (c : UInt8) (hs : s.length ≤ 4611686018427387904) {H : AHeap} : ACalls Try.prog natH 47 [.str s, by8 c] H fun v H' => v = .tuple [.str (cutF s c).1, .str (cutF s c).2.1, .bool (cutF s c).2.2] ∧ H = H' := by
  refine acalls_ofN rfl za47 rfl ?_
  simp only [c47, sW, sL, aw_block, sXs, sXO, sXP, Int.reduceNegSucc, reduceCtorEq, Nat.reduceEqDiff, ↓reduceIte, Nat.reduceAdd, Int.reduceEq, Int.reduceLT, Int.reduceLE]
  refine (ib_spec s c).mono ?_
  rintro v _ ⟨rfl, rfl⟩
  by_cases h : fnd s c < s.length
  · have e : ibF c s 0 = (fnd s c : Int) := by rw [ibF_fnd, if_pos h, Nat.zero_add]
    have hn : ¬ ((fnd s c : Int) < 0) := by omega
    simp only [sW, sL, aw_block, sXs, sXO, sXP, Int.reduceNegSucc, reduceCtorEq, Nat.reduceEqDiff, ↓reduceIte, Nat.reduceAdd, Int.reduceEq, Int.reduceLT, Int.reduceLE, e, hn, str_slH (Nat.le_of_lt h), wrap1 (fnd s c) (by omega), str_slL (show fnd s c + 1 ≤ s.length by omega)]
    exact ⟨by simp only [cutF, if_pos h], (by first | trivial | rfl | assumption)⟩
  · have e : ibF c s 0 = -1 := by rw [ibF_fnd, if_neg h]
    have hn : (-1 : Int) < 0 := by omega
    simp only [sW, sL, aw_block, sXs, sXO, sXP, Int.reduceNegSucc, reduceCtorEq, Nat.reduceEqDiff, ↓reduceIte, Nat.reduceAdd, Int.reduceEq, Int.reduceLT, Int.reduceLE, e, hn]
    exact ⟨by simp only [cutF, if_neg h], (by first | trivial | rfl | assumption)⟩
theorem token_spec (s : Bs) (hs : s.length ≤ 4611686018427387904) {H : AHeap} : ACalls Try.prog natH 48 [.str s] H fun v H' => v = .bool (token s) ∧ H = H' := by
  refine acalls_ofN rfl za48 rfl ?_
  by_cases h0 : s = []
  · subst h0
    simp only [c48, sW, sL, aw_block, sXs, sXO, sXP, Int.reduceNegSucc, reduceCtorEq, Nat.reduceEqDiff, ↓reduceIte, Nat.reduceAdd, Int.reduceEq, Int.reduceLT, Int.reduceLE]
    exact ⟨by simp [token], (by first | trivial | rfl | assumption)⟩
  · simp only [c48, sW, sL, aw_block, sXs, sXO, sXP, Int.reduceNegSucc, reduceCtorEq, Nat.reduceEqDiff, ↓reduceIte, Nat.reduceAdd, Int.reduceEq, Int.reduceLT, Int.reduceLE, h0]
    refine (all_spec says_tch s hs).mono ?_
    rintro v _ ⟨rfl, rfl⟩
    simp only [sW, sL, aw_block, sXs, sXO, sXP, Int.reduceNegSucc, reduceCtorEq, Nat.reduceEqDiff, ↓reduceIte, Nat.reduceAdd, Int.reduceEq, Int.reduceLT, Int.reduceLE]
    exact ⟨by simp [token, h0], (by first | trivial | rfl | assumption)⟩
end Go.Proofs.Ht
/- Http: small letters, blanks cut away, a header's line, numbers, the values of a name: the contracts. -/
namespace Go.Proofs.Ht
open Go.Abs Go.Abs.S
set_option linter.unusedSimpArgs false
theorem dropWhile_le (p : UInt8 → Bool) : ∀ s : Bs, (s.dropWhile p).length ≤ s.length
  | [] => Nat.le_refl _
  | b :: s => by
    rw [List.dropWhile_cons]
    split
    · have := dropWhile_le p s; simp; omega
    · exact Nat.le_refl _
theorem split_at {s : Bs} {j : Nat} {c : UInt8} (h : s[j]? = some c) : s = s.take j ++ c :: s.drop (j + 1) := by
  obtain ⟨hlt, he⟩ := List.getElem?_eq_some_iff.1 h
  rw [← he, ← List.drop_eq_getElem_cons hlt, List.take_append_drop]
theorem trim_spec (s : Bs) {H : AHeap} (hs : s.length ≤ 1000000) : ACalls Try.prog natH 61 [.str s] H fun v H' => v = .str (trimF s) ∧ H = H' := by
  refine acalls_ofN rfl za61 rfl ?_
  simp only [c61, sW, sL, aw_block, sXs, sXO, sXP, Int.reduceNegSucc, reduceCtorEq, Nat.reduceEqDiff, ↓reduceIte, Nat.reduceAdd, Int.reduceEq, Int.reduceLT, Int.reduceLE]
  refine aw_cut (fun (T : Env) H' => T 0 = .str (s.dropWhile blk) ∧ H = H') (calls_mono _ _) ?_ ?_
  · refine aw_loop (fun q (T : Env) H' => ∃ u : Bs, q = u.length ∧ u.length ≤ s.length ∧ T 0 = .str u ∧ u.dropWhile blk = s.dropWhile blk ∧ H = H') s.length ⟨s, rfl, Nat.le_refl _, by simp only [sW, sL, aw_block, sXs, sXO, sXP, Int.reduceNegSucc, reduceCtorEq, Nat.reduceEqDiff, ↓reduceIte, Nat.reduceAdd, Int.reduceEq, Int.reduceLT, Int.reduceLE]; try rfl, rfl, rfl⟩ ?_
    rintro q T _ ⟨u, rfl, hul, g0, hA, rfl⟩
    by_cases h0 : u = []
    · subst h0
      have e : s.dropWhile blk = [] := by rw [← hA]; rfl
      simp only [sW, sL, aw_block, sXs, sXO, sXP, Int.reduceNegSucc, reduceCtorEq, Nat.reduceEqDiff, ↓reduceIte, Nat.reduceAdd, Int.reduceEq, Int.reduceLT, Int.reduceLE, g0]
      exact ⟨by rw [e], (by first | trivial | rfl | assumption)⟩
    · obtain ⟨b, r, rfl⟩ : ∃ b r, u = b :: r := by
        cases u with
        | nil => exact absurd rfl h0
        | cons b r => exact ⟨b, r, rfl⟩
      have i0 : aIdxS (.str (b :: r)) (.int .i64 0) = some (by8 b) := str_idx (i := 0) rfl .i64
      have s1 : aSlStr (.str (b :: r)) (some (.int .i64 1)) none = some (.str r) := by
        have := str_slL (s := b :: r) (l := 1) (by simp)
        simpa using this
      simp only [sW, sL, aw_block, sXs, sXO, sXP, Int.reduceNegSucc, reduceCtorEq, Nat.reduceEqDiff, ↓reduceIte, Nat.reduceAdd, Int.reduceEq, Int.reduceLT, Int.reduceLE, g0, h0, i0]
      refine (says_blk b H).mono ?_
      rintro v _ ⟨rfl, rfl⟩
      cases hb : blk b with
      | true =>
        simp only [sW, sL, aw_block, sXs, sXO, sXP, Int.reduceNegSucc, reduceCtorEq, Nat.reduceEqDiff, ↓reduceIte, Nat.reduceAdd, Int.reduceEq, Int.reduceLT, Int.reduceLE, g0, s1]
        exact ⟨_, by simp, r, rfl, by simp at hul; omega, (by first | trivial | rfl | assumption), by rw [← hA, List.dropWhile_cons, if_pos hb], (by first | trivial | rfl | assumption)⟩
      | false =>
        simp only [sW, sL, aw_block, sXs, sXO, sXP, Int.reduceNegSucc, reduceCtorEq, Nat.reduceEqDiff, ↓reduceIte, Nat.reduceAdd, Int.reduceEq, Int.reduceLT, Int.reduceLE, g0]
        exact ⟨by rw [← hA, List.dropWhile_cons, if_neg (by rw [hb]; simp)], (by first | trivial | rfl | assumption)⟩
  · rintro T _ ⟨g0, rfl⟩
    simp only [sW, sL, aw_block, sXs, sXO, sXP, Int.reduceNegSucc, reduceCtorEq, Nat.reduceEqDiff, ↓reduceIte, Nat.reduceAdd, Int.reduceEq, Int.reduceLT, Int.reduceLE]
    generalize hw : s.dropWhile blk = w at *
    have hwl : w.length ≤ 1000000 := by rw [← hw]; have := dropWhile_le blk s; omega
    have hb : trimF s = (w.reverse.dropWhile blk).reverse := by rw [trimF, hw]
    refine aw_loop (fun q (T : Env) H' => ∃ u : Bs, q = u.length ∧ u.length ≤ w.length ∧ T 0 = .str u ∧ u.reverse.dropWhile blk = w.reverse.dropWhile blk ∧ H = H') w.length ⟨w, rfl, Nat.le_refl _, g0, rfl, rfl⟩ ?_
    clear g0 T
    rintro q T _ ⟨u, rfl, hul, g0, hA, rfl⟩
    by_cases h0 : u = []
    · subst h0
      simp only [sW, sL, aw_block, sXs, sXO, sXP, Int.reduceNegSucc, reduceCtorEq, Nat.reduceEqDiff, ↓reduceIte, Nat.reduceAdd, Int.reduceEq, Int.reduceLT, Int.reduceLE, g0]
      refine ⟨?_, (by first | trivial | rfl | assumption)⟩
      rw [hb, ← hA]; rfl
    · have hpos := List.length_pos_iff.2 h0
      obtain ⟨b, hbb⟩ := isSome_of_lt (l := u) (i := u.length - 1) (by omega)
      have hsp : u = u.take (u.length - 1) ++ [b] := by
        have := split_at hbb
        rwa [show u.length - 1 + 1 = u.length by omega, List.drop_length] at this
      have hrev : u.reverse = b :: (u.take (u.length - 1)).reverse := by
        conv => lhs; rw [hsp]
        rw [List.reverse_append, List.reverse_singleton, List.singleton_append]
      have w1 : IntKind.i64.wrap ((u.length : Int) - 1) = ((u.length - 1 : Nat) : Int) := by
        rw [wrap64 (by omega) (by omega)]; omega
      simp only [sW, sL, aw_block, sXs, sXO, sXP, Int.reduceNegSucc, reduceCtorEq, Nat.reduceEqDiff, ↓reduceIte, Nat.reduceAdd, Int.reduceEq, Int.reduceLT, Int.reduceLE, g0, h0, w1, str_idx hbb]
      refine (says_blk b H).mono ?_
      rintro v _ ⟨rfl, rfl⟩
      cases hv : blk b with
      | true =>
        simp only [sW, sL, aw_block, sXs, sXO, sXP, Int.reduceNegSucc, reduceCtorEq, Nat.reduceEqDiff, ↓reduceIte, Nat.reduceAdd, Int.reduceEq, Int.reduceLT, Int.reduceLE, g0, w1, str_slH (show u.length - 1 ≤ u.length by omega)]
        exact ⟨_, by simp <;> omega, u.take (u.length - 1), rfl, by simp <;> omega, (by first | trivial | rfl | assumption), by rw [← hA, hrev, List.dropWhile_cons, if_pos hv], (by first | trivial | rfl | assumption)⟩
      | false =>
        simp only [sW, sL, aw_block, sXs, sXO, sXP, Int.reduceNegSucc, reduceCtorEq, Nat.reduceEqDiff, ↓reduceIte, Nat.reduceAdd, Int.reduceEq, Int.reduceLT, Int.reduceLE, g0]
        refine ⟨?_, (by first | trivial | rfl | assumption)⟩
        rw [hb, ← hA]
        have : u.reverse.dropWhile blk = u.reverse := by
          rw [hrev, List.dropWhile_cons, if_neg (by rw [hv]; simp)]
        rw [this, List.reverse_reverse]
theorem trim_len (s : Bs) : (trimF s).length ≤ s.length := by
  have h1 := dropWhile_le blk s
  have h2 := dropWhile_le blk (s.dropWhile blk).reverse
  simp only [trimF, List.length_reverse] at *
  omega
theorem byts_set (s : Bs) (i : Nat) (c : UInt8) : byts (s.set i c) = (byts s).set i (by8 c) := by simp [byts]
theorem set_snoc {α : Type} (a b : List α) (x y : α) : (a ++ x :: b).set a.length y = a ++ y :: b := by simp
theorem lower_spec (s : Bs) {H : AHeap} (hs : s.length ≤ 1000000) : ACalls Try.prog natH 58 [.str s] H fun v H' => v = .str (low s) ∧ Ext H.next H H' := by
  refine acalls_ofN rfl za58 rfl ?_
  have mk : aSB H (.str s) = some (slR H.next s.length (.open_ 1), H.push (.cells (byts s) 0 false)) := by
    have : aSB H (.str s) = some (.slice (some ⟨H.next, s.length, 0⟩) s.length (.open_ 1), H.push (.cells (byts s) 0 false)) := rfl
    rw [this]; rfl
  simp only [c58, sW, sL, aw_block, sXs, sXO, sXP, Int.reduceNegSucc, reduceCtorEq, Nat.reduceEqDiff, ↓reduceIte, Nat.reduceAdd, Int.reduceEq, Int.reduceLT, Int.reduceLE, mk, row_len]
  refine aw_loop (fun q (T : Env) H' => ∃ j : Nat, j ≤ s.length ∧ q = s.length - j ∧ T 3 = slR H.next s.length (.open_ 1) ∧ T 8 = slR H.next s.length (.open_ 1) ∧ T 9 = .int .i64 (s.length : Int) ∧ T 10 = .int .i64 (j : Int) ∧ Row H' H.next (byts (low (s.take j) ++ s.drop j)) ∧ Ext H.next H H' ∧ H.next < H'.next) s.length
    ⟨0, Nat.zero_le _, rfl, by simp only [sW, sL, aw_block, sXs, sXO, sXP, Int.reduceNegSucc, reduceCtorEq, Nat.reduceEqDiff, ↓reduceIte, Nat.reduceAdd, Int.reduceEq, Int.reduceLT, Int.reduceLE]; try rfl, by simp only [sW, sL, aw_block, sXs, sXO, sXP, Int.reduceNegSucc, reduceCtorEq, Nat.reduceEqDiff, ↓reduceIte, Nat.reduceAdd, Int.reduceEq, Int.reduceLT, Int.reduceLE]; try rfl, by simp only [sW, sL, aw_block, sXs, sXO, sXP, Int.reduceNegSucc, reduceCtorEq, Nat.reduceEqDiff, ↓reduceIte, Nat.reduceAdd, Int.reduceEq, Int.reduceLT, Int.reduceLE]; try rfl, by simp only [sW, sL, aw_block, sXs, sXO, sXP, Int.reduceNegSucc, reduceCtorEq, Nat.reduceEqDiff, ↓reduceIte, Nat.reduceAdd, Int.reduceEq, Int.reduceLT, Int.reduceLE]; try rfl, by simpa [low] using row_push H (byts s), (Ext.refl _ H).push (Nat.le_refl _) _, Nat.lt_succ_self _⟩ ?_
  rintro q T H' ⟨j, hj, rfl, g3, g8, g9, g10, hR, E, hn⟩
  have hlow : (low (s.take j)).length = j := by simp [low]; omega
  have hlen : (byts (low (s.take j) ++ s.drop j)).length = s.length := by rw [byts_len, List.length_append, hlow]; simp; omega
  by_cases hlt : j < s.length
  · have hlt' : (j : Int) < (s.length : Int) := by omega
    obtain ⟨c, hc⟩ := isSome_of_lt hlt
    have hsp : s.drop j = c :: s.drop (j + 1) := by
      obtain ⟨h1, h2⟩ := List.getElem?_eq_some_iff.1 hc
      rw [← h2, ← List.drop_eq_getElem_cons h1]
    have hat : (byts (low (s.take j) ++ s.drop j))[j]? = some (by8 c) := by
      refine byts_get ?_
      rw [List.getElem?_append_right (by omega), hlow, Nat.sub_self, hsp]; rfl
    have hnext : low (s.take (j + 1)) = low (s.take j) ++ [lowB c] := by
      rw [List.take_add_one, hc]; simp [low]
    have ld := row_load hR hlen hat
    by_cases hup : 65 ≤ c.toNat ∧ c.toNat ≤ 90
    · have h1 : (65 : Int) ≤ (c.toNat : Int) := by omega
      have h2 : (c.toNat : Int) ≤ 90 := by omega
      have hw : IntKind.u8.wrap ((c.toNat : Int) + 32) = ((lowB c).toNat : Int) := by
        rw [wrapU8 (by omega) (by omega), lowB, if_pos hup, UInt8.toNat_add]
        have : (32 : UInt8).toNat = 32 := rfl
        rw [this]; omega
      obtain ⟨H2, m2, r2, k2, o2⟩ := row_store hR hlen hlt (x := by8 (lowB c)) rfl
      simp only [sW, sL, aw_block, sXs, sXO, sXP, Int.reduceNegSucc, reduceCtorEq, Nat.reduceEqDiff, ↓reduceIte, Nat.reduceAdd, Int.reduceEq, Int.reduceLT, Int.reduceLE, g3, g8, g9, g10, hlt', row_idx _ hlt, ld, h1, h2, hw, m2, wrap1 j (by omega)]
      refine ⟨_, by omega, j + 1, by omega, rfl, (by first | trivial | rfl | assumption), (by first | trivial | rfl | assumption), (by first | trivial | rfl | assumption), (by first | trivial | rfl | assumption), ?_, ⟨by have := E.next; omega, fun b hb => by rw [o2 _ (by omega)]; exact E.old b hb⟩, by omega⟩
      rw [hsp, ← byts_set] at r2
      have e : (low (s.take j) ++ c :: s.drop (j + 1)).set j (lowB c) = low (s.take (j + 1)) ++ s.drop (j + 1) := by
        rw [hnext]
        have := set_snoc (low (s.take j)) (s.drop (j + 1)) c (lowB c)
        rw [hlow] at this
        rw [this]; simp
      rw [e] at r2
      exact r2
    · have hl : lowB c = c := by rw [lowB, if_neg hup]
      have e : low (s.take j) ++ s.drop j = low (s.take (j + 1)) ++ s.drop (j + 1) := by rw [hnext, hl, hsp]; simp
      rw [e] at hR
      by_cases h1 : (65 : Int) ≤ (c.toNat : Int) <;> by_cases h2 : (c.toNat : Int) ≤ 90
      all_goals first
        | (exfalso; omega)
        | (simp only [sW, sL, aw_block, sXs, sXO, sXP, Int.reduceNegSucc, reduceCtorEq, Nat.reduceEqDiff, ↓reduceIte, Nat.reduceAdd, Int.reduceEq, Int.reduceLT, Int.reduceLE, g3, g8, g9, g10, hlt', row_idx _ hlt, ld, h1, h2, wrap1 j (by omega)]
           exact ⟨_, by omega, j + 1, by omega, rfl, (by first | trivial | rfl | assumption), (by first | trivial | rfl | assumption), (by first | trivial | rfl | assumption), (by first | trivial | rfl | assumption), hR, E, hn⟩)
  · have hlt' : ¬ (j : Int) < (s.length : Int) := by omega
    have ej : j = s.length := by omega
    rw [List.take_of_length_le (by omega), List.drop_of_length_le (by omega), List.append_nil] at hR
    have hl : (low s).length = s.length := by simp [low]
    have hb : aBS H' (slR H.next s.length (.open_ 1)) = some (.str (low s)) := by
      have := bs_cel (hR.cel (r := .open_ 1) (byts_len _) hn)
      rwa [hl] at this
    simp only [sW, sL, aw_block, sXs, sXO, sXP, Int.reduceNegSucc, reduceCtorEq, Nat.reduceEqDiff, ↓reduceIte, Nat.reduceAdd, Int.reduceEq, Int.reduceLT, Int.reduceLE, g3, g8, g9, g10, hlt', hb]
    exact ⟨(by first | trivial | rfl | assumption), E⟩
theorem fin_ct {T : Env} {H : AHeap} (g : Bool) (n i j : Nat) (K : AVal → AHeap → Prop) {v : AVal} (h : oLoad g n H (T i) = some v) (hk : K (.tuple [v, T j]) H) : fin [.cell g n i, .t j] K .ret T H := by
  simp only [fin, wRes, h, OptP_some]; exact hk
def pairV (p : Bs × Bs) : AVal := .agg [.str p.1, .str p.2]
def optV : Option (Bs × Bs) → AVal
  | none => .tuple [.agg [.str [], .str []], .bool false]
  | some p => .tuple [.agg [.str p.1, .str p.2], .bool true]
theorem cut_len (s : Bs) (c : UInt8) : (cutF s c).1.length ≤ s.length ∧ (cutF s c).2.1.length ≤ s.length := by
  unfold cutF
  split
  · simp; omega
  · simp
theorem header_spec {H : AHeap} (s : Bs) (hs : s.length ≤ 1000000) : ACalls Try.prog natH 51 [.str s] H fun v H' => v = optV (headerF s) ∧ Ext H.next H H' := by
  refine acalls_ofN rfl za51 rfl ?_
  obtain ⟨H1, m1, r1, k1, o1⟩ := row_newL H [.str [], .str []] (n := 2) rfl
  have E1 : Ext H.next H H1 := Ext.of_new k1 o1 (Nat.le_refl _)
  have hcl := cut_len s 58
  have b0 : aBuild [.str [], .str []] [] = some (.agg [.str [], .str []]) := rfl
  have none_way : ∀ {v}, headerF s = none → v = .tuple [.agg [.str [], .str []], .bool false] → v = optV (headerF s) := fun h1 h2 => by rw [h1, h2]; rfl
  obtain ⟨H2, m2, r2, k2, o2⟩ := row_storeN r1 (n := 2) rfl (xs := [.str [], .str []]) rfl rfl
  have E2 : Ext H.next H H2 := ⟨by omega, fun c hc => by rw [o2 _ (by omega), E1.old c hc]⟩
  simp only [c51, sW, sL, aw_block, sXs, sXO, sXP, Int.reduceNegSucc, reduceCtorEq, Nat.reduceEqDiff, ↓reduceIte, Nat.reduceAdd, Int.reduceEq, Int.reduceLT, Int.reduceLE, m1]
  refine (cut_spec s 58 (by omega)).mono ?_
  rintro v _ ⟨rfl, rfl⟩
  have hend : ∀ {T : Env} {K : AVal → AHeap → Prop}, T 2 = cellR H.next 2 0 → K (.tuple [.agg [.str [], .str []], T 3]) H2 → fin [.cell true 2 2, .t 3] K .ret T H2 := fun h1 h2 => fin_ct _ _ _ _ _ (by rw [h1]; exact row_loadN r2 (n := 2) rfl) h2
  cases hc : (cutF s 58).2.2 with
  | false =>
    simp only [sW, sL, aw_block, sXs, sXO, sXP, Int.reduceNegSucc, reduceCtorEq, Nat.reduceEqDiff, ↓reduceIte, Nat.reduceAdd, Int.reduceEq, Int.reduceLT, Int.reduceLE, ext_0, ext_1, ext_2, b0, m2]
    refine hend (by simp only [sW, sL, aw_block, sXs, sXO, sXP, Int.reduceNegSucc, reduceCtorEq, Nat.reduceEqDiff, ↓reduceIte, Nat.reduceAdd, Int.reduceEq, Int.reduceLT, Int.reduceLE]; try rfl) ⟨none_way ?_ ?_, E2⟩
    · simp [headerF, hc]
    · simp only [sW, sL, aw_block, sXs, sXO, sXP, Int.reduceNegSucc, reduceCtorEq, Nat.reduceEqDiff, ↓reduceIte, Nat.reduceAdd, Int.reduceEq, Int.reduceLT, Int.reduceLE]; try rfl
  | true =>
    simp only [sW, sL, aw_block, sXs, sXO, sXP, Int.reduceNegSucc, reduceCtorEq, Nat.reduceEqDiff, ↓reduceIte, Nat.reduceAdd, Int.reduceEq, Int.reduceLT, Int.reduceLE, ext_0, ext_1, ext_2]
    refine (token_spec (cutF s 58).1 (by omega)).mono ?_
    rintro v _ ⟨rfl, rfl⟩
    cases htk : token (cutF s 58).1 with
    | false =>
      simp only [sW, sL, aw_block, sXs, sXO, sXP, Int.reduceNegSucc, reduceCtorEq, Nat.reduceEqDiff, ↓reduceIte, Nat.reduceAdd, Int.reduceEq, Int.reduceLT, Int.reduceLE, b0, m2]
      refine hend (by simp only [sW, sL, aw_block, sXs, sXO, sXP, Int.reduceNegSucc, reduceCtorEq, Nat.reduceEqDiff, ↓reduceIte, Nat.reduceAdd, Int.reduceEq, Int.reduceLT, Int.reduceLE]; try rfl) ⟨none_way ?_ ?_, E2⟩
      · simp [headerF, hc, htk]
      · simp only [sW, sL, aw_block, sXs, sXO, sXP, Int.reduceNegSucc, reduceCtorEq, Nat.reduceEqDiff, ↓reduceIte, Nat.reduceAdd, Int.reduceEq, Int.reduceLT, Int.reduceLE]; try rfl
    | true =>
      simp only [sW, sL, aw_block, sXs, sXO, sXP, Int.reduceNegSucc, reduceCtorEq, Nat.reduceEqDiff, ↓reduceIte, Nat.reduceAdd, Int.reduceEq, Int.reduceLT, Int.reduceLE]
      refine (trim_spec (cutF s 58).2.1 (by omega)).mono ?_
      rintro v _ ⟨rfl, rfl⟩
      have htl := trim_len (cutF s 58).2.1
      simp only [sW, sL, aw_block, sXs, sXO, sXP, Int.reduceNegSucc, reduceCtorEq, Nat.reduceEqDiff, ↓reduceIte, Nat.reduceAdd, Int.reduceEq, Int.reduceLT, Int.reduceLE]
      refine (all_spec says_val (trimF (cutF s 58).2.1) (by omega)).mono ?_
      rintro v _ ⟨rfl, rfl⟩
      cases hv : (trimF (cutF s 58).2.1).all valB with
      | false =>
        simp only [sW, sL, aw_block, sXs, sXO, sXP, Int.reduceNegSucc, reduceCtorEq, Nat.reduceEqDiff, ↓reduceIte, Nat.reduceAdd, Int.reduceEq, Int.reduceLT, Int.reduceLE, b0, m2]
        refine hend (by simp only [sW, sL, aw_block, sXs, sXO, sXP, Int.reduceNegSucc, reduceCtorEq, Nat.reduceEqDiff, ↓reduceIte, Nat.reduceAdd, Int.reduceEq, Int.reduceLT, Int.reduceLE]; try rfl) ⟨none_way ?_ ?_, E2⟩
        · simp [headerF, hc, htk, hv]
        · simp only [sW, sL, aw_block, sXs, sXO, sXP, Int.reduceNegSucc, reduceCtorEq, Nat.reduceEqDiff, ↓reduceIte, Nat.reduceAdd, Int.reduceEq, Int.reduceLT, Int.reduceLE]; try rfl
      | true =>
        simp only [sW, sL, aw_block, sXs, sXO, sXP, Int.reduceNegSucc, reduceCtorEq, Nat.reduceEqDiff, ↓reduceIte, Nat.reduceAdd, Int.reduceEq, Int.reduceLT, Int.reduceLE]
        refine (lower_spec (cutF s 58).1 (by omega)).mono ?_
        rintro v H3 ⟨rfl, E3⟩
        have R3 := r1.same (E3.old H.next (by omega))
        obtain ⟨H4, m4, r4, k4, o4⟩ := row_storeN R3 (n := 2) rfl (xs := [.str (low (cutF s 58).1), .str (trimF (cutF s 58).2.1)]) rfl rfl
        have b1 : aBuild [.str [], .str []] [(0, 1, .str (low (cutF s 58).1)), (1, 1, .str (trimF (cutF s 58).2.1))] = some (.agg [.str (low (cutF s 58).1), .str (trimF (cutF s 58).2.1)]) := rfl
        simp only [sW, sL, aw_block, sXs, sXO, sXP, Int.reduceNegSucc, reduceCtorEq, Nat.reduceEqDiff, ↓reduceIte, Nat.reduceAdd, Int.reduceEq, Int.reduceLT, Int.reduceLE, b1, m4]
        refine fin_ct _ _ _ _ _ (row_loadN r4 (n := 2) rfl) ⟨?_, ⟨by have := E3.next; omega, fun c hc => by rw [o4 _ (by omega), E3.old _ (by omega), E1.old c hc]⟩⟩
        have : headerF s = some (low (cutF s 58).1, trimF (cutF s 58).2.1) := by simp [headerF, hc, htk, hv]
        rw [this]
        simp only [sW, sL, aw_block, sXs, sXO, sXP, Int.reduceNegSucc, reduceCtorEq, Nat.reduceEqDiff, ↓reduceIte, Nat.reduceAdd, Int.reduceEq, Int.reduceLT, Int.reduceLE]; rfl
/-! numbers -/
theorem decF_snoc (s : Bs) (b : UInt8) : decF (s ++ [b]) = decF s * 10 + (b.toNat - 48) := by simp [decF, List.foldl_append]
theorem hexF_snoc (s : Bs) (b : UInt8) : hexF (s ++ [b]) = hexF s * 16 + hexV b := by simp [hexF, List.foldl_append]
theorem decF_lt (s : Bs) (h : s.all digB = true) : decF s < 10 ^ s.length := by
  have : ∀ (r : Bs) (n k : Nat), r.all digB = true → n < 10 ^ k → r.foldl (fun n b => n * 10 + (b.toNat - 48)) n < 10 ^ (k + r.length) := by
    intro r
    induction r with
    | nil => intro n k _ hn; exact hn
    | cons b r ih =>
      intro n k hr hn
      simp only [List.all_cons, Bool.and_eq_true] at hr
      simp only [List.foldl_cons, List.length_cons]
      rw [show k + (r.length + 1) = (k + 1) + r.length by omega]
      refine ih _ _ hr.2 ?_
      have hb : b.toNat - 48 ≤ 9 := by
        have := hr.1
        simp only [digB, Bool.and_eq_true, decide_eq_true_eq] at this
        omega
      rw [Nat.pow_succ]; omega
  have := this s 0 0 h (by simp)
  simpa [decF] using this
theorem hexV_lt (b : UInt8) (h : hexB b = true) : hexV b ≤ 15 := by
  simp only [hexB, digB, Bool.or_eq_true, Bool.and_eq_true, decide_eq_true_eq] at h
  unfold hexV
  simp only [digB, Bool.and_eq_true, decide_eq_true_eq]
  split
  · omega
  · split <;> omega
theorem hexF_lt (s : Bs) (h : s.all hexB = true) : hexF s < 16 ^ s.length := by
  have : ∀ (r : Bs) (n k : Nat), r.all hexB = true → n < 16 ^ k → r.foldl (fun n b => n * 16 + hexV b) n < 16 ^ (k + r.length) := by
    intro r
    induction r with
    | nil => intro n k _ hn; exact hn
    | cons b r ih =>
      intro n k hr hn
      simp only [List.all_cons, Bool.and_eq_true] at hr
      simp only [List.foldl_cons, List.length_cons]
      rw [show k + (r.length + 1) = (k + 1) + r.length by omega]
      refine ih _ _ hr.2 ?_
      have hb := hexV_lt b hr.1
      rw [Nat.pow_succ]; omega
  have := this s 0 0 h (by simp)
  simpa [hexF] using this
def numV : Option Nat → AVal
  | none => .tuple [.int .i64 0, .bool false]
  | some n => .tuple [.int .i64 (n : Int), .bool true]
theorem number_spec (s : Bs) (hs : s.length ≤ 1000000) {H : AHeap} : ACalls Try.prog natH 59 [.str s] H fun v H' => v = numV (numberF s) ∧ H = H' := by
  refine acalls_ofN rfl za59 rfl ?_
  by_cases h1 : s.length < 1
  · have h1' : (s.length : Int) < 1 := by omega
    simp only [c59, sW, sL, aw_block, sXs, sXO, sXP, Int.reduceNegSucc, reduceCtorEq, Nat.reduceEqDiff, ↓reduceIte, Nat.reduceAdd, Int.reduceEq, Int.reduceLT, Int.reduceLE, h1']
    exact ⟨by simp [numberF, h1, numV], (by first | trivial | rfl | assumption)⟩
  by_cases h2 : 9 < s.length
  · have h1' : ¬ (s.length : Int) < 1 := by omega
    have h2' : (9 : Int) < (s.length : Int) := by omega
    simp only [c59, sW, sL, aw_block, sXs, sXO, sXP, Int.reduceNegSucc, reduceCtorEq, Nat.reduceEqDiff, ↓reduceIte, Nat.reduceAdd, Int.reduceEq, Int.reduceLT, Int.reduceLE, h1', h2']
    exact ⟨by simp [numberF, h2, numV], (by first | trivial | rfl | assumption)⟩
  have h1' : ¬ (s.length : Int) < 1 := by omega
  have h2' : ¬ (9 : Int) < (s.length : Int) := by omega
  simp only [c59, sW, sL, aw_block, sXs, sXO, sXP, Int.reduceNegSucc, reduceCtorEq, Nat.reduceEqDiff, ↓reduceIte, Nat.reduceAdd, Int.reduceEq, Int.reduceLT, Int.reduceLE, h1', h2']
  refine (all_spec says_dig s (by omega)).mono ?_
  rintro v _ ⟨rfl, rfl⟩
  cases hd : s.all digB with
  | false =>
    simp only [sW, sL, aw_block, sXs, sXO, sXP, Int.reduceNegSucc, reduceCtorEq, Nat.reduceEqDiff, ↓reduceIte, Nat.reduceAdd, Int.reduceEq, Int.reduceLT, Int.reduceLE]
    exact ⟨by simp [numberF, hd, numV], (by first | trivial | rfl | assumption)⟩
  | true =>
    simp only [sW, sL, aw_block, sXs, sXO, sXP, Int.reduceNegSucc, reduceCtorEq, Nat.reduceEqDiff, ↓reduceIte, Nat.reduceAdd, Int.reduceEq, Int.reduceLT, Int.reduceLE]
    refine aw_loop (fun q (T : Env) H' => ∃ j : Nat, j ≤ s.length ∧ q = s.length - j ∧ T 0 = .str s ∧ T 4 = .int .i64 (decF (s.take j) : Int) ∧ T 20 = .int .i64 (s.length : Int) ∧ T 21 = .int .i64 (j : Int) ∧ H = H') s.length
      ⟨0, Nat.zero_le _, rfl, by simp only [sW, sL, aw_block, sXs, sXO, sXP, Int.reduceNegSucc, reduceCtorEq, Nat.reduceEqDiff, ↓reduceIte, Nat.reduceAdd, Int.reduceEq, Int.reduceLT, Int.reduceLE]; try rfl, by simp only [sW, sL, aw_block, sXs, sXO, sXP, Int.reduceNegSucc, reduceCtorEq, Nat.reduceEqDiff, ↓reduceIte, Nat.reduceAdd, Int.reduceEq, Int.reduceLT, Int.reduceLE]; try rfl, by simp only [sW, sL, aw_block, sXs, sXO, sXP, Int.reduceNegSucc, reduceCtorEq, Nat.reduceEqDiff, ↓reduceIte, Nat.reduceAdd, Int.reduceEq, Int.reduceLT, Int.reduceLE]; try rfl, by simp only [sW, sL, aw_block, sXs, sXO, sXP, Int.reduceNegSucc, reduceCtorEq, Nat.reduceEqDiff, ↓reduceIte, Nat.reduceAdd, Int.reduceEq, Int.reduceLT, Int.reduceLE]; try rfl, rfl⟩ ?_
    rintro q T _ ⟨j, hj, rfl, g0, g4, g20, g21, rfl⟩
    by_cases hlt : j < s.length
    · have hlt' : (j : Int) < (s.length : Int) := by omega
      obtain ⟨c, hc⟩ := isSome_of_lt hlt
      have hdc : digB c = true := List.all_eq_true.1 hd c (List.mem_of_getElem? hc)
      simp only [digB, Bool.and_eq_true, decide_eq_true_eq] at hdc
      have hlim : decF (s.take j) < 10 ^ 9 := by
        have h := decF_lt (s.take j) (List.all_eq_true.2 fun x hx => List.all_eq_true.1 hd x (List.mem_of_mem_take hx))
        have h3 : (s.take j).length ≤ 9 := by simp; omega
        exact Nat.lt_of_lt_of_le h (Nat.pow_le_pow_right (by omega) h3)
      generalize hn : decF (s.take j) = n at *
      have w1 : IntKind.i64.wrap ((n : Int) * 10) = ((n * 10 : Nat) : Int) := by rw [wrap64 (by omega) (by omega)]; omega
      have w2 : IntKind.u8.wrap ((c.toNat : Int) - 48) = ((c.toNat - 48 : Nat) : Int) := by rw [wrapU8 (by omega) (by omega)]; omega
      have w3 : IntKind.i64.wrap ((c.toNat - 48 : Nat) : Int) = ((c.toNat - 48 : Nat) : Int) := wrap64 (by omega) (by omega)
      simp only [sW, sL, aw_block, sXs, sXO, sXP, Int.reduceNegSucc, reduceCtorEq, Nat.reduceEqDiff, ↓reduceIte, Nat.reduceAdd, Int.reduceEq, Int.reduceLT, Int.reduceLE, g0, g4, g20, g21, hlt', str_idx hc, w1, w2, w3, wrapN (n * 10) (c.toNat - 48) (by omega), wrap1 j (by omega)]
      refine ⟨_, by omega, j + 1, by omega, rfl, (by first | trivial | rfl | assumption), ?_, (by first | trivial | rfl | assumption), (by first | trivial | rfl | assumption), (by first | trivial | rfl | assumption)⟩
      rw [List.take_add_one, hc, Option.toList_some, decF_snoc, hn]
    · have hlt' : ¬ (j : Int) < (s.length : Int) := by omega
      rw [List.take_of_length_le (by omega)] at g4
      simp only [sW, sL, aw_block, sXs, sXO, sXP, Int.reduceNegSucc, reduceCtorEq, Nat.reduceEqDiff, ↓reduceIte, Nat.reduceAdd, Int.reduceEq, Int.reduceLT, Int.reduceLE, g0, g4, g20, g21, hlt']
      exact ⟨by simp [numberF, h1, h2, hd, numV], (by first | trivial | rfl | assumption)⟩
theorem hexw_spec (c : UInt8) (h : hexB c = true) {H : AHeap} : ACalls Try.prog natH 54 [by8 c] H fun v H' => v = .int .i64 (hexV c : Int) ∧ H = H' := by
  refine acalls_ofN rfl za54 rfl ?_
  simp only [c54, sW, sL, aw_block, sXs, sXO, sXP, Int.reduceNegSucc, reduceCtorEq, Nat.reduceEqDiff, ↓reduceIte, Nat.reduceAdd, Int.reduceEq, Int.reduceLT, Int.reduceLE]
  refine (says_dig c H).mono ?_
  rintro v _ ⟨rfl, rfl⟩
  have hd := digB_int c
  have h' := h
  rw [hexB_int] at h'
  simp only [hexB, Bool.or_eq_true, Bool.and_eq_true, decide_eq_true_eq] at h
  cases hb : digB c with
  | true =>
    have hb' := hb
    simp only [digB, Bool.and_eq_true, decide_eq_true_eq] at hb'
    have w2 : IntKind.u8.wrap ((c.toNat : Int) - 48) = ((c.toNat - 48 : Nat) : Int) := by rw [wrapU8 (by omega) (by omega)]; omega
    have w3 : IntKind.i64.wrap ((c.toNat - 48 : Nat) : Int) = ((c.toNat - 48 : Nat) : Int) := wrap64 (by omega) (by omega)
    simp only [sW, sL, aw_block, sXs, sXO, sXP, Int.reduceNegSucc, reduceCtorEq, Nat.reduceEqDiff, ↓reduceIte, Nat.reduceAdd, Int.reduceEq, Int.reduceLT, Int.reduceLE, w2, w3]
    exact ⟨by simp [hexV, hb], (by first | trivial | rfl | assumption)⟩
  | false =>
    rw [hb] at h
    simp only [Bool.false_eq_true, false_or] at h
    by_cases h1 : 97 ≤ c.toNat
    · have h1' : (97 : Int) ≤ (c.toNat : Int) := by omega
      have w2 : IntKind.u8.wrap ((c.toNat : Int) - 97) = ((c.toNat - 97 : Nat) : Int) := by rw [wrapU8 (by omega) (by omega)]; omega
      have w3 : IntKind.i64.wrap ((c.toNat - 97 : Nat) : Int) = ((c.toNat - 97 : Nat) : Int) := wrap64 (by omega) (by omega)
      have w4 : IntKind.i64.wrap (((c.toNat - 97 : Nat) : Int) + 10) = ((c.toNat - 87 : Nat) : Int) := by rw [wrap64 (by omega) (by omega)]; omega
      simp only [sW, sL, aw_block, sXs, sXO, sXP, Int.reduceNegSucc, reduceCtorEq, Nat.reduceEqDiff, ↓reduceIte, Nat.reduceAdd, Int.reduceEq, Int.reduceLT, Int.reduceLE, h1', w2, w3, w4]
      exact ⟨by simp [hexV, hb, h1], (by first | trivial | rfl | assumption)⟩
    · have h1' : ¬ (97 : Int) ≤ (c.toNat : Int) := by omega
      have w2 : IntKind.u8.wrap ((c.toNat : Int) - 65) = ((c.toNat - 65 : Nat) : Int) := by rw [wrapU8 (by omega) (by omega)]; omega
      have w3 : IntKind.i64.wrap ((c.toNat - 65 : Nat) : Int) = ((c.toNat - 65 : Nat) : Int) := wrap64 (by omega) (by omega)
      have w4 : IntKind.i64.wrap (((c.toNat - 65 : Nat) : Int) + 10) = ((c.toNat - 55 : Nat) : Int) := by rw [wrap64 (by omega) (by omega)]; omega
      simp only [sW, sL, aw_block, sXs, sXO, sXP, Int.reduceNegSucc, reduceCtorEq, Nat.reduceEqDiff, ↓reduceIte, Nat.reduceAdd, Int.reduceEq, Int.reduceLT, Int.reduceLE, h1', w2, w3, w4]
      exact ⟨by simp [hexV, hb, h1], (by first | trivial | rfl | assumption)⟩
end Go.Proofs.Ht
