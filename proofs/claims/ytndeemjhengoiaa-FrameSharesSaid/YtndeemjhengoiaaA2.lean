/- The abstract machine, part 2: a world stands to an abstract heap; what reading, writing, new blocks and growing do. -/
import Derived.Test.YtndeemjhengoiaaA1
namespace Go.Abs

theorem VRels.len {ρ : Pl} : ∀ {l : List AVal} {vs : List Value}, VRels ρ l vs → l.length = vs.length
  | [], _, h => by simp only [VRels] at h; subst h; rfl
  | _ :: l, _, h => by
    simp only [VRels] at h
    obtain ⟨v, r, rfl, _, h2⟩ := h
    simp [VRels.len h2]
theorem VRels.nth {ρ : Pl} : ∀ {l : List AVal} {vs : List Value}, VRels ρ l vs → ∀ (i : Nat) (x : AVal), l[i]? = some x → ∃ v, vs[i]? = some v ∧ VRel ρ x v
  | [], _, _, _, _, h => by simp at h
  | y :: l, _, hr, i, x, h => by
    simp only [VRels] at hr
    obtain ⟨v, r, rfl, h1, h2⟩ := hr
    cases i with
    | zero => simp at h; subst h; exact ⟨v, rfl, h1⟩
    | succ i => simp at h; simpa using VRels.nth h2 i x h
theorem VRels.of_nth {ρ : Pl} : ∀ (l : List AVal) (vs : List Value), l.length = vs.length → (∀ (i : Nat) (x : AVal), l[i]? = some x → ∃ v, vs[i]? = some v ∧ VRel ρ x v) → VRels ρ l vs
  | [], vs, hl, _ => by simp only [VRels]; exact List.eq_nil_of_length_eq_zero hl.symm
  | y :: l, vs, hl, h => by
    cases vs with
    | nil => simp at hl
    | cons v r =>
      simp only [VRels]
      refine ⟨v, r, rfl, ?_, VRels.of_nth l r (by simpa using hl) fun i x hx => ?_⟩
      · obtain ⟨v', h1, h2⟩ := h 0 y rfl
        simp at h1; subst h1; exact h2
      · simpa using h (i + 1) x (by simpa using hx)
theorem VRels.append {ρ : Pl} : ∀ {l m : List AVal} {vs us : List Value}, VRels ρ l vs → VRels ρ m us → VRels ρ (l ++ m) (vs ++ us)
  | [], _, _, _, h, h' => by simp only [VRels] at h; subst h; simpa using h'
  | x :: l, m, vs, us, h, h' => by
    simp only [VRels] at h
    obtain ⟨v, r, rfl, h1, h2⟩ := h
    simp only [List.cons_append, VRels]
    exact ⟨v, r ++ us, rfl, h1, VRels.append h2 h'⟩
theorem VRels.one {ρ : Pl} {x : AVal} {v : Value} (h : VRel ρ x v) : VRels ρ [x] [v] := by
  simp only [VRels]; exact ⟨v, [], rfl, h, rfl⟩
theorem VRels.take {ρ : Pl} : ∀ {l : List AVal} {vs : List Value} (n : Nat), VRels ρ l vs → VRels ρ (l.take n) (vs.take n)
  | [], _, _, h => by simp only [VRels] at h; subst h; simp [VRels]
  | x :: l, _, n, h => by
    simp only [VRels] at h
    obtain ⟨v, r, rfl, h1, h2⟩ := h
    cases n with
    | zero => simp [VRels]
    | succ n => simp only [List.take_succ_cons, VRels]; exact ⟨v, _, rfl, h1, VRels.take n h2⟩
theorem VRels.drop {ρ : Pl} : ∀ {l : List AVal} {vs : List Value} (n : Nat), VRels ρ l vs → VRels ρ (l.drop n) (vs.drop n)
  | [], _, _, h => by simp only [VRels] at h; subst h; simp [VRels]
  | x :: l, _, n, h => by
    cases n with
    | zero => simpa using h
    | succ n =>
      simp only [VRels] at h
      obtain ⟨v, r, rfl, h1, h2⟩ := h
      simpa using VRels.drop n h2

/-- a value of one cell -/
def AVal.one : AVal → Bool
  | .agg _ | .tuple _ => false
  | _ => true
def AVal.cells : AVal → List AVal
  | .agg l => l
  | x => [x]
theorem VRel.one {ρ : Pl} {x : AVal} {v : Value} (h : VRel ρ x v) (hx : x.one = true) : v.oneCell' = true := by
  cases x with
  | ptr a => cases a <;> simp only [VRel] at h <;> first | (subst h; rfl) | (obtain ⟨L, _, _, rfl⟩ := h; rfl)
  | map a => cases a <;> simp only [VRel] at h <;> first | (subst h; rfl) | (obtain ⟨L, _, rfl⟩ := h; rfl)
  | slice a n r =>
    cases a with
    | none => simp only [VRel] at h; obtain ⟨_, _, rfl⟩ := h; rfl
    | some a =>
      simp only [VRel] at h
      obtain ⟨L, _, _, h⟩ := h
      cases r with
      | known c => simp only [SliceRel] at h; obtain ⟨_, rfl⟩ := h; rfl
      | open_ s => simp only [SliceRel] at h; obtain ⟨_, _, rfl, _⟩ := h; rfl
  | func f a b => simp only [VRel] at h; obtain ⟨_, _, rfl, _⟩ := h; rfl
  | iface t x => simp only [VRel] at h; obtain ⟨_, rfl, _⟩ := h; rfl
  | agg l => simp [AVal.one] at hx
  | tuple l => simp [AVal.one] at hx
  | val x => simp only [VRel] at h; rw [h.1]; exact opq_one h.2
  | _ => simp only [VRel] at h; subst h; rfl
theorem VRel.cells {ρ : Pl} {x : AVal} {v : Value} (h : VRel ρ x v) : VRels ρ x.cells v.cells.toList := by
  cases x with
  | agg l => simp only [VRel] at h; obtain ⟨vs, rfl, h⟩ := h; exact h
  | tuple l => simp only [VRel] at h; obtain ⟨vs, rfl, h'⟩ := h; exact VRels.one (by simp only [VRel]; exact ⟨_, rfl, h'⟩)
  | bool b => simp only [VRel] at h; subst h; exact VRels.one rfl
  | int k n => simp only [VRel] at h; subst h; exact VRels.one rfl
  | str s => simp only [VRel] at h; subst h; exact VRels.one rfl
  | nilFunc => simp only [VRel] at h; subst h; exact VRels.one rfl
  | nilIface => simp only [VRel] at h; subst h; exact VRels.one rfl
  | ptr a =>
    have h' := h
    cases a with
    | none => simp only [VRel] at h; subst h; exact VRels.one h'
    | some a => simp only [VRel] at h; obtain ⟨L, _, _, rfl⟩ := h; exact VRels.one h'
  | map a =>
    have h' := h
    cases a with
    | none => simp only [VRel] at h; subst h; exact VRels.one h'
    | some a => simp only [VRel] at h; obtain ⟨L, _, rfl⟩ := h; exact VRels.one h'
  | slice a n r =>
    have h' := h
    cases a with
    | none => simp only [VRel] at h; obtain ⟨_, _, rfl⟩ := h; exact VRels.one h'
    | some a =>
      simp only [VRel] at h
      obtain ⟨L, _, _, h⟩ := h
      cases r with
      | known c => simp only [SliceRel] at h; obtain ⟨_, rfl⟩ := h; exact VRels.one h'
      | open_ s => simp only [SliceRel] at h; obtain ⟨_, _, rfl, _⟩ := h; exact VRels.one h'
  | func f a b =>
    have h' := h
    simp only [VRel] at h; obtain ⟨_, _, rfl, _⟩ := h; exact VRels.one h'
  | iface t x =>
    have h' := h
    simp only [VRel] at h; obtain ⟨_, rfl, _⟩ := h; exact VRels.one h'
  | val x =>
    have h' := h
    simp only [VRel] at h
    have : v.cells.toList = [v] := by
      obtain ⟨h1, h2⟩ := h
      have h2 := opq_one h2
      rw [h1]
      cases x <;> first | rfl | (simp [Value.oneCell'] at h2)
    rw [this]
    exact VRels.one h'

/-! ### worlds -/
def EntryRel (ρ : Pl) (x : AVal × AVal × Nat) (e : MapEntry) : Prop := VRel ρ x.1 e.key ∧ VRel ρ x.2.1 e.val ∧ e.born = x.2.2
def EntriesRel (ρ : Pl) : List (AVal × AVal × Nat) → List MapEntry → Prop
  | [], es => es = []
  | x :: l, es => ∃ e r, es = e :: r ∧ EntryRel ρ x e ∧ EntriesRel ρ l r
theorem EntriesRel.mono {ρ ρ' : Pl} (h : ρ.le ρ') : ∀ (l : List (AVal × AVal × Nat)) (es : List MapEntry), EntriesRel ρ l es → EntriesRel ρ' l es
  | [], _, hv => by simpa only [EntriesRel] using hv
  | x :: l, _, hv => by
    simp only [EntriesRel, EntryRel] at hv ⊢
    obtain ⟨e, r, h1, ⟨h2, h3, h4⟩, h5⟩ := hv
    exact ⟨e, r, h1, ⟨VRel.mono h _ _ h2, VRel.mono h _ _ h3, h4⟩, EntriesRel.mono h l r h5⟩

def CellsRel (ρ : Pl) (L : Loc) (lim : Nat) (l : List AVal) (C : Array Value) : Prop :=
  ∀ i, L.sh ≤ i → i < lim → ∃ x v, l[i]? = some x ∧ C[i - L.sh]? = some v ∧ VRel ρ x v

def FzOK (_ : Loc) (n lo hi : Nat) : Prop := (∀ i, i < n → ¬ (lo ≤ i ∧ i < hi)) ∧ lo ≤ hi

def ORel (ρ : Pl) (L : Loc) (lim : Nat) : AObj → Obj → Prop
  | .cells l low ro, o => ∃ C e lo hi, o = .cells C e (lo, hi) ∧ C.size = L.n ∧ (ro = false → FzOK L C.size lo hi) ∧ lim ≤ l.length ∧ (low ≤ lim → CellsRel ρ L lim l C)
  | .map es clock, o => lim = 0 ∧ ∃ ES, o = .map ES clock ∧ EntriesRel ρ es ES.toList
  | .iter s pos, o => lim = 0 ∧ o = .stringIter (strOf s) pos

theorem ORel.mono {ρ ρ' : Pl} (h : ρ.le ρ') {L : Loc} {lim : Nat} {x : AObj} {o : Obj} (hx : ORel ρ L lim x o) : ORel ρ' L lim x o := by
  cases x with
  | cells l low ro =>
    simp only [ORel] at hx ⊢
    obtain ⟨C, e, lo, hi, h1, h2, h3, h5, h4⟩ := hx
    refine ⟨C, e, lo, hi, h1, h2, h3, h5, fun a i hi1 hi2 => ?_⟩
    obtain ⟨x, v, q1, q2, q3⟩ := h4 a i hi1 hi2
    exact ⟨x, v, q1, q2, VRel.mono h _ _ q3⟩
  | map es clock =>
    simp only [ORel] at hx ⊢
    obtain ⟨h0, ES, h1, h2⟩ := hx
    exact ⟨h0, ES, h1, EntriesRel.mono h _ _ h2⟩
  | iter s pos => simpa only [ORel] using hx

def AObj.rw : AObj → Bool
  | .cells _ _ true => false
  | _ => true

/-- what is held fast (blocks of the model's), and what is laid aside (numbers of blocks that no name has yet) -/
structure Gh where
  prot : Nat → Prop
  dead : Nat → Prop
structure Rel (Prot : Gh) (w0 : World) (ρ : Pl) (H : AHeap) (w : World) : Prop where
  os : w.os = w0.os
  tape : w.tape = w0.tape
  output : w.output = w0.output
  size : w0.heap.size ≤ w.heap.size
  prot : ∀ c, Prot.prot c → c < w0.heap.size ∧ w.heap[c]? = w0.heap[c]?
  dom : ∀ b l L, ρ b l = some L → b < H.next ∧ L.c < w.heap.size
  obj : ∀ b l L, ρ b l = some L → ∃ x o, H.get b = some x ∧ w.heap[L.c]? = some o ∧ ORel ρ L l x o
  free : ∀ b l L x, ρ b l = some L → H.get b = some x → x.rw = true → ¬ Prot.prot L.c
  inj : ∀ b l L b' l' L' x, ρ b l = some L → ρ b' l' = some L' → L.c = L'.c → H.get b = some x → x.rw = true → b = b' ∧ L.sh = L'.sh
  dead : ∀ b, Prot.dead b → b < H.next ∧ ∀ l, ρ b l = none

/-- nothing but block c has turned -/
structure But (w w' : World) (c : Nat) : Prop where
  os : w'.os = w.os
  tape : w'.tape = w.tape
  output : w'.output = w.output
  size : w'.heap.size = w.heap.size
  rest : ∀ i, i ≠ c → w'.heap[i]? = w.heap[i]?
theorem But.refl (w : World) (c : Nat) : But w w c := ⟨rfl, rfl, rfl, rfl, fun _ _ => rfl⟩
theorem But.trans {a b d : World} {c : Nat} (h : But a b c) (k : But b d c) : But a d c :=
  ⟨k.os.trans h.os, k.tape.trans h.tape, k.output.trans h.output, k.size.trans h.size, fun i hi => (k.rest i hi).trans (h.rest i hi)⟩

theorem cell?_of {w : World} {c off : Nat} {C : Array Value} {e : TypeId} {fz : Nat × Nat} (h : w.heap[c]? = some (.cells C e fz)) : w.cell? ⟨c, off, none⟩ = C[off]? := by
  unfold World.cell?; simp only [h]; rfl
theorem frozen?_of {w : World} {c off : Nat} {C : Array Value} {e : TypeId} {lo hi : Nat} (h : w.heap[c]? = some (.cells C e (lo, hi))) (hf : ¬ (lo ≤ off ∧ off < hi)) : w.frozen? ⟨c, off, none⟩ = false := by
  unfold World.frozen?; simp only [h]
  simp; omega
theorem add_none (c off n : Nat) : (⟨c, off, none⟩ : Addr).add n = ⟨c, off + n, none⟩ := by
  unfold Addr.add; split
  · subst_vars; rfl
  · rfl

theorem loadFrom_run {P : Program} {w : World} {c off : Nat} {C : Array Value} {e : TypeId} {fz : Nat × Nat} (h : w.heap[c]? = some (.cells C e fz)) :
    ∀ (n i : Nat) (acc : Array Value), off + i + n ≤ C.size → ∃ vs : Array Value, (loadCellsFrom ⟨c, off, none⟩ i n acc).run P w = .ok (acc ++ vs) w ∧ vs.size = n ∧ ∀ j, j < n → vs[j]? = C[off + i + j]? := by
  intro n
  induction n with
  | zero => intro i acc _; exact ⟨#[], by simp [loadCellsFrom], rfl, fun j hj => by omega⟩
  | succ n ih =>
    intro i acc hb
    have hv : C[off + i]? = some C[off + i] := Array.getElem?_eq_getElem (by omega)
    obtain ⟨vs, h1, h2, h3⟩ := ih (i + 1) (acc.push C[off + i]) (by omega)
    refine ⟨#[C[off + i]] ++ vs, ?_, by simp [h2]; omega, fun j hj => ?_⟩
    · simp only [loadCellsFrom, add_none, Sem.run_bind, run_load, cell?_of h, hv, Result.andThen_ok, h1]
      rw [Array.push_eq_append, Array.append_assoc]
    · cases j with
      | zero => rw [Array.getElem?_append_left (by simp)]; simp [hv]
      | succ j =>
        rw [show off + i + (j + 1) = off + (i + 1) + j by omega, ← h3 j (by omega)]
        rw [Array.getElem?_append_right (by simp)]
        simp
theorem loadCells_run {P : Program} {w : World} {c off : Nat} {C : Array Value} {e : TypeId} {fz : Nat × Nat} (h : w.heap[c]? = some (.cells C e fz)) (n : Nat) (hb : off + n ≤ C.size) :
    ∃ vs : Array Value, (loadCells ⟨c, off, none⟩ n).run P w = .ok vs w ∧ vs.size = n ∧ ∀ j, j < n → vs[j]? = C[off + j]? := by
  obtain ⟨vs, h1, h2, h3⟩ := loadFrom_run (P := P) h n 0 #[] (by omega)
  exact ⟨vs, by simpa [loadCells] using h1, h2, fun j hj => by simpa using h3 j hj⟩

theorem store_run {P : Program} {w : World} {c off : Nat} {C : Array Value} {e : TypeId} {lo hi : Nat} (h : w.heap[c]? = some (.cells C e (lo, hi))) (ho : off < C.size)
    (hf : ¬ (lo ≤ off ∧ off < hi)) {v : Value} (hv : v.oneCell' = true) :
    ∃ w', (store ⟨c, off, none⟩ v).run P w = .ok () w' ∧ But w w' c ∧ w'.heap[c]? = some (.cells (C.setIfInBounds off v) e (lo, hi)) := by
  refine ⟨w.setCell ⟨c, off, none⟩ v, ?_, ⟨rfl, rfl, rfl, by simp, fun i hi => ?_⟩, ?_⟩
  · rw [run_store P w _ v _ hv, cell?_of h, Array.getElem?_eq_getElem ho]
    simp only [frozen?_of h hf]
    rfl
  · simp only [World.setCell, Array.getElem?_modify]
    rw [if_neg (by simpa using fun e => hi e.symm)]
  · simp [World.setCell, Array.getElem?_modify, h]

theorem storeCells_run {P : Program} {c off : Nat} {e : TypeId} {lo hi : Nat} : ∀ (vs : List Value) (i : Nat) (w : World) (C : Array Value), w.heap[c]? = some (.cells C e (lo, hi)) →
    off + i + vs.length ≤ C.size → (∀ j, j < C.size → ¬ (lo ≤ j ∧ j < hi)) → (∀ v ∈ vs, v.oneCell' = true) →
    ∃ w' C', (storeCells ⟨c, off, none⟩ vs i).run P w = .ok () w' ∧ But w w' c ∧ w'.heap[c]? = some (.cells C' e (lo, hi)) ∧ C'.size = C.size ∧
      ∀ j, C'[j]? = if off + i ≤ j ∧ j < off + i + vs.length then vs[j - (off + i)]? else C[j]? := by
  intro vs
  induction vs with
  | nil =>
    intro i w C h _ _ _
    exact ⟨w, C, by simp [storeCells], But.refl _ _, h, rfl, fun j => by rw [if_neg (by intro q; simp only [List.length_nil] at q; omega)]⟩
  | cons v vs ih =>
    intro i w C h hb hf hv
    simp only [List.length_cons] at hb
    obtain ⟨w1, h1, h2, h3⟩ := store_run (P := P) h (off := off + i) (by omega) (hf _ (by omega)) (hv v (by simp))
    obtain ⟨w2, C', k1, k2, k3, k4, k5⟩ := ih (i + 1) w1 _ h3 (by rw [Array.size_setIfInBounds]; omega) (by simpa using hf) (fun x hx => hv x (by simp [hx]))
    refine ⟨w2, C', ?_, h2.trans k2, k3, by simpa using k4, fun j => ?_⟩
    · simp only [storeCells, add_none, Sem.run_bind, h1, Result.andThen_ok, k1]
    · rw [k5 j]
      simp only [List.length_cons]
      by_cases c1 : off + (i + 1) ≤ j ∧ j < off + (i + 1) + vs.length
      · rw [if_pos c1, if_pos (by omega), show j - (off + i) = (j - (off + (i + 1))) + 1 by omega]
        simp
      · rw [if_neg c1]
        by_cases c2 : j = off + i
        · subst c2
          rw [if_pos (by omega)]
          have : off + i < C.size := by omega
          simp [this]
        · rw [if_neg (by omega), Array.getElem?_setIfInBounds_ne (by omega)]
end Go.Abs
