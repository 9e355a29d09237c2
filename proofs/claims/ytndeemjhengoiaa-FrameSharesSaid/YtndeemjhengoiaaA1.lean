/- The abstract machine, part 1: tries, values, the heap, and how they stand to the model's values and worlds. Plain Lean; no program in sight. -/
import Derived.WalkKit
import Derived.Below
namespace Go.Abs

/-! ### a map from numbers, by their digits -/
inductive Tr (α : Type) where
  | e
  | n (l : Tr α) (v : Option α) (r : Tr α)

def Tr.get {α : Type} : Tr α → Nat → Option α
  | .e, _ => none
  | .n l v r, k => bif Nat.beq k 0 then v else bif Nat.beq (k % 2) 1 then l.get (k / 2) else r.get (k / 2 - 1)

def Tr.setF {α : Type} (v : α) : Nat → Tr α → Nat → Tr α
  | 0, t, _ => t
  | f + 1, .e, k => bif Nat.beq k 0 then .n .e (some v) .e else bif Nat.beq (k % 2) 1 then .n (Tr.setF v f .e (k / 2)) none .e else .n .e none (Tr.setF v f .e (k / 2 - 1))
  | f + 1, .n l o r, k => bif Nat.beq k 0 then .n l (some v) r else bif Nat.beq (k % 2) 1 then .n (Tr.setF v f l (k / 2)) o r else .n l o (Tr.setF v f r (k / 2 - 1))

def Tr.set {α : Type} (t : Tr α) (k : Nat) (v : α) : Tr α := Tr.setF v (k + 1) t k

theorem Tr.get_setF {α : Type} (v : α) : ∀ (f : Nat) (t : Tr α) (k j : Nat), k < f → (Tr.setF v f t k).get j = if j = k then some v else t.get j := by
  intro f
  induction f with
  | zero => intro t k j h; omega
  | succ f ih =>
    intro t k j h
    have hb : ∀ a b : Nat, Nat.beq a b = decide (a = b) := fun a b => by
      by_cases h : a = b
      · subst h; simp
      · rw [decide_eq_false h]; exact Bool.eq_false_iff.2 (fun e => h (Nat.eq_of_beq_eq_true e))
    cases t with
    | e =>
      simp only [Tr.setF, hb]
      by_cases k0 : k = 0
      · subst k0
        by_cases j0 : j = 0 <;> simp [Tr.get, hb, j0]
      · by_cases k1 : k % 2 = 1
        · simp only [k0, k1, decide_false, decide_true, cond_false, cond_true, Tr.get, hb]
          rw [ih _ _ _ (by omega)]
          by_cases j0 : j = 0
          · subst j0; simp; omega
          · by_cases j1 : j % 2 = 1
            · simp only [j0, j1, decide_false, decide_true, cond_false, cond_true, Tr.get]
              by_cases e : j = k
              · subst e; simp
              · rw [if_neg (by omega), if_neg e]
            · simp only [j0, j1, decide_false, cond_false]
              rw [if_neg (by omega)]
        · simp only [k0, k1, decide_false, cond_false, Tr.get, hb]
          rw [ih _ _ _ (by omega)]
          by_cases j0 : j = 0
          · subst j0; simp; omega
          · by_cases j1 : j % 2 = 1
            · simp only [j0, j1, decide_false, decide_true, cond_false, cond_true]
              rw [if_neg (by omega)]
            · simp only [j0, j1, decide_false, cond_false, Tr.get]
              by_cases e : j = k
              · subst e; simp
              · rw [if_neg (by omega), if_neg e]
    | n l o r =>
      simp only [Tr.setF, hb]
      by_cases k0 : k = 0
      · subst k0
        by_cases j0 : j = 0 <;> simp [Tr.get, hb, j0]
      · by_cases k1 : k % 2 = 1
        · simp only [k0, k1, decide_false, decide_true, cond_false, cond_true, Tr.get, hb]
          rw [ih _ _ _ (by omega)]
          by_cases j0 : j = 0
          · subst j0; simp; omega
          · by_cases j1 : j % 2 = 1
            · simp only [j0, j1, decide_false, decide_true, cond_false, cond_true]
              by_cases e : j = k
              · subst e; simp
              · rw [if_neg (by omega), if_neg e]
            · simp only [j0, j1, decide_false, cond_false]
              rw [if_neg (by omega)]
        · simp only [k0, k1, decide_false, cond_false, Tr.get, hb]
          rw [ih _ _ _ (by omega)]
          by_cases j0 : j = 0
          · subst j0; simp; omega
          · by_cases j1 : j % 2 = 1
            · simp only [j0, j1, decide_false, decide_true, cond_false, cond_true]
              rw [if_neg (by omega)]
            · simp only [j0, j1, decide_false, cond_false]
              by_cases e : j = k
              · subst e; simp
              · rw [if_neg (by omega), if_neg e]

theorem Tr.get_set {α : Type} (t : Tr α) (k j : Nat) (v : α) : (t.set k v).get j = if j = k then some v else t.get j :=
  Tr.get_setF v (k + 1) t k j (by omega)

/-! ### values -/
/-- a place: block b, as long as it was when this name of it was made (lim), cell o -/
structure Ad where
  b : Nat
  lim : Nat
  o : Nat

/-- a slice's room: known, or up to the end of its block (elements of so many cells) -/
inductive Room where
  | known (c : Nat)
  | open_ (size : Nat)

inductive AVal where
  | bool (b : Bool)
  | int (k : IntKind) (n : Int)
  | str (s : List UInt8)
  | ptr (a : Option Ad)
  | slice (a : Option Ad) (len : Nat) (room : Room)
  | map (r : Option Nat)
  | func (fn : Fn) (first captured : List AVal)
  | nilFunc
  | iface (t : TypeId) (v : AVal)
  | nilIface
  | agg (l : List AVal)
  | tuple (l : List AVal)
  /-- a value of the model's, of one cell, that is handed around unread -/
  | val (v : Value)

instance : Inhabited AVal := ⟨.tuple []⟩

inductive AObj where
  /-- cells; names older than 'low' cells are gone; ro: never written -/
  | cells (l : List AVal) (low : Nat) (ro : Bool)
  | map (es : List (AVal × AVal × Nat)) (clock : Nat)
  | iter (s : List UInt8) (pos : Nat)

structure AHeap where
  next : Nat
  tr : Tr AObj

def AHeap.get (h : AHeap) (b : Nat) : Option AObj := h.tr.get b
def AHeap.set (h : AHeap) (b : Nat) (o : AObj) : AHeap := ⟨h.next, h.tr.set b o⟩
def AHeap.push (h : AHeap) (o : AObj) : AHeap := ⟨h.next + 1, h.tr.set h.next o⟩

theorem AHeap.get_set (h : AHeap) (b c : Nat) (o : AObj) : (h.set b o).get c = if c = b then some o else h.get c := Tr.get_set _ _ _ _
theorem AHeap.get_push (h : AHeap) (c : Nat) (o : AObj) : (h.push o).get c = if c = h.next then some o else h.get c := Tr.get_set _ _ _ _

/-! ### how they stand to the model's -/
/-- where a block (by one of its names) lies: the model's block, how many cells lie ahead of it, how many the model's block has -/
structure Loc where
  c : Nat
  sh : Nat
  n : Nat
  /-- no mark lies on it -/
  cl : Bool

abbrev Pl := Nat → Nat → Option Loc
def Pl.le (ρ ρ' : Pl) : Prop := ∀ b l L, ρ b l = some L → ρ' b l = some L

theorem Pl.le_refl (ρ : Pl) : ρ.le ρ := fun _ _ _ h => h
theorem Pl.le_trans {a b c : Pl} (h : a.le b) (h' : b.le c) : a.le c := fun _ _ _ x => h' _ _ _ (h _ _ _ x)

def strOf (s : List UInt8) : ByteArray := ⟨s.toArray⟩

def SliceRel (L : Loc) (a : Ad) (len : Nat) : Room → Value → Prop
  | .known c, v => len ≤ c ∧ v = .slice (some ⟨L.c, a.o - L.sh, none⟩) len c
  | .open_ size, v => ∃ c off, v = .slice (some ⟨L.c, off, none⟩) len c ∧ len ≤ c ∧ 0 < size ∧
      ((off = a.o - L.sh ∧ a.lim ≤ off + L.sh + c * size ∧ off + c * size ≤ L.n) ∨ (len = 0 ∧ c = 0 ∧ a.lim ≤ a.o))

/-- what may be handed around unread: of one cell, and no bool (guards read those) -/
def opq : Value → Bool
  | .bool _ => false
  | x => x.oneCell'
theorem opq_one {x : Value} (h : opq x = true) : x.oneCell' = true := by cases x <;> first | exact h | (simp [opq] at h)

mutual
def VRel (ρ : Pl) : AVal → Value → Prop
  | .bool b, v => v = .bool b
  | .int k n, v => v = .int k n
  | .str s, v => v = .string (strOf s)
  | .ptr none, v => v = .pointer none
  | .ptr (some a), v => ∃ L, ρ a.b a.lim = some L ∧ L.sh ≤ a.o ∧ v = .pointer (some ⟨L.c, a.o - L.sh, none⟩)
  | .slice none len r, v => len = 0 ∧ (match r with | .known c => c = 0 | _ => False) ∧ v = .slice none 0 0
  | .slice (some a) len r, v => ∃ L, ρ a.b a.lim = some L ∧ L.sh ≤ a.o ∧ SliceRel L a len r v
  | .map none, v => v = .map none
  | .map (some r), v => ∃ L, ρ r 0 = some L ∧ v = .map (some L.c)
  | .func fn first cap, v => ∃ f c, v = .func fn f c ∧ VRels ρ first f.toList ∧ VRels ρ cap c.toList
  | .nilFunc, v => v = .nilFunc
  | .iface t x, v => ∃ y, v = .iface t y ∧ VRel ρ x y
  | .nilIface, v => v = .nilIface
  | .agg l, v => ∃ vs, v = .agg vs ∧ VRels ρ l vs.toList
  | .tuple l, v => ∃ vs, v = .tuple vs ∧ VRels ρ l vs.toList
  | .val x, v => v = x ∧ opq x = true
def VRels (ρ : Pl) : List AVal → List Value → Prop
  | [], vs => vs = []
  | x :: l, vs => ∃ v r, vs = v :: r ∧ VRel ρ x v ∧ VRels ρ l r
end

mutual
theorem VRel.mono {ρ ρ' : Pl} (h : ρ.le ρ') : ∀ (x : AVal) (v : Value), VRel ρ x v → VRel ρ' x v
  | .bool _, _, hv => by simpa only [VRel] using hv
  | .int _ _, _, hv => by simpa only [VRel] using hv
  | .str _, _, hv => by simpa only [VRel] using hv
  | .ptr none, _, hv => by simpa only [VRel] using hv
  | .ptr (some a), _, hv => by
    simp only [VRel] at hv ⊢
    obtain ⟨L, h1, h2, h3⟩ := hv
    exact ⟨L, h _ _ _ h1, h2, h3⟩
  | .slice none _ _, _, hv => by simpa only [VRel] using hv
  | .slice (some a) _ _, _, hv => by
    simp only [VRel] at hv ⊢
    obtain ⟨L, h1, h2, h3⟩ := hv
    exact ⟨L, h _ _ _ h1, h2, h3⟩
  | .map none, _, hv => by simpa only [VRel] using hv
  | .map (some r), _, hv => by
    simp only [VRel] at hv ⊢
    obtain ⟨L, h1, h3⟩ := hv
    exact ⟨L, h _ _ _ h1, h3⟩
  | .func fn first cap, _, hv => by
    simp only [VRel] at hv ⊢
    obtain ⟨f, c, h1, h2, h3⟩ := hv
    exact ⟨f, c, h1, VRels.mono h first _ h2, VRels.mono h cap _ h3⟩
  | .nilFunc, _, hv => by simpa only [VRel] using hv
  | .iface t x, _, hv => by
    simp only [VRel] at hv ⊢
    obtain ⟨y, h1, h2⟩ := hv
    exact ⟨y, h1, VRel.mono h x y h2⟩
  | .nilIface, _, hv => by simpa only [VRel] using hv
  | .agg l, _, hv => by
    simp only [VRel] at hv ⊢
    obtain ⟨vs, h1, h2⟩ := hv
    exact ⟨vs, h1, VRels.mono h l _ h2⟩
  | .tuple l, _, hv => by
    simp only [VRel] at hv ⊢
    obtain ⟨vs, h1, h2⟩ := hv
    exact ⟨vs, h1, VRels.mono h l _ h2⟩
  | .val _, _, hv => by simpa only [VRel] using hv
theorem VRels.mono {ρ ρ' : Pl} (h : ρ.le ρ') : ∀ (l : List AVal) (vs : List Value), VRels ρ l vs → VRels ρ' l vs
  | [], _, hv => by simpa only [VRels] using hv
  | x :: l, _, hv => by
    simp only [VRels] at hv ⊢
    obtain ⟨v, r, h1, h2, h3⟩ := hv
    exact ⟨v, r, h1, VRel.mono h x v h2, VRels.mono h l r h3⟩
end
end Go.Abs
