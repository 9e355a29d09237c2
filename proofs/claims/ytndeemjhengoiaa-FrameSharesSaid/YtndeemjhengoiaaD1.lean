/- The abstract machine: regions that draw their order. Here: the run in the text's order, with what must hold for every other order to do the same. -/
import Derived.Test.YtndeemjhengoiaaA10
import Derived.Orders
namespace Go.Abs

structure AOper where
  dst : Option Nat
  op : AOp
  guard : Option (Nat × Bool)

def gOK (T : Tr AVal) : Option (Nat × Bool) → Bool
  | none => true
  | some (t, b) => match T.get t with
    | some (.bool b') => bif b then b' else !b'
    | _ => false
def aput (T : Tr AVal) : Option Nat → AVal → Tr AVal
  | some d, v => T.set d v
  | none, _ => T

/-! ### kinds of operations -/
def isLoad : AOp → Bool
  | .load .. | .claim .. => true
  | _ => false
/-- neither reads nor turns memory -/
def isPure : AOp → Bool
  | .mv _ | .pick .. | .build .. | .nilChk _ | .bin .. | .un .. | .conv .. | .mkFunc .. | .mkIface .. | .sl .. | .slStr .. | .fieldA .. | .field .. | .idxA .. | .idxArr .. | .idx .. | .idxS .. | .extract .. | .len .. | .pf .. | .slA .. => true
  | _ => false
def isChain (o : AOp) : Bool := !(isPure o) && !(isLoad o)

def rdO : Opd → List Nat
  | .t i => [i]
  | _ => []
def rdOs : List Opd → List Nat
  | [] => []
  | x :: r => rdO x ++ rdOs r
def rdOO : Option Opd → List Nat
  | none => []
  | some x => rdO x
def rdP : List (Nat × Nat × Opd) → List Nat
  | [] => []
  | (_, _, x) :: r => rdO x ++ rdP r
def reads : AOp → List Nat
  | .mv x | .box x | .load _ _ x | .nilChk x | .un _ x | .conv _ x | .convSB x | .convBS x | .mkIface _ x | .fieldA _ x | .field _ _ _ x | .extract _ x | .len _ x => rdO x
  | .pick c a b => rdO c ++ (rdO a ++ rdO b)
  | .new _ => []
  | .build _ ps => rdP ps
  | .buildSl _ _ ps => rdP ps
  | .store _ a x | .bin _ a x | .mkSlice _ _ a x | .idxA _ a x | .idxArr _ _ a x | .idx _ _ _ a x | .idxS a x | .append _ _ a x => rdO a ++ rdO x
  | .mkFunc _ a b => rdOs a ++ rdOs b
  | .sl _ x a b c | .slA _ _ x a b c => rdO x ++ (rdOO a ++ (rdOO b ++ rdOO c))
  | .slStr x a b => rdO x ++ (rdOO a ++ rdOO b)
  | .call _ l => rdOs l
  | .callv f l => rdO f ++ rdOs l
  | .pf _ l | .hf _ l => rdOs l
  | .bad | .claim _ _ => []
def readsO (o : AOper) : List Nat := reads o.op ++ (match o.guard with | none => [] | some (t, _) => [t])

section
variable {tb : FuncId → Bool} {T T' : Tr AVal} {H H' H2 : AHeap}
theorem ev_congr {x : Opd} (h : ∀ t ∈ rdO x, T.get t = T'.get t) : ev T x = ev T' x := by
  cases x with
  | t i => simp only [ev]; rw [h i (by simp [rdO])]
  | _ => rfl
theorem evs_congr {l : List Opd} (h : ∀ t ∈ rdOs l, T.get t = T'.get t) : evs T l = evs T' l := by
  induction l with
  | nil => rfl
  | cons x r ih => simp only [rdOs, List.mem_append] at h; simp only [evs]; rw [ev_congr fun t ht => h t (.inl ht), ih fun t ht => h t (.inr ht)]
theorem evO_congr {x : Option Opd} (h : ∀ t ∈ rdOO x, T.get t = T'.get t) : evO T x = evO T' x := by
  cases x with
  | none => rfl
  | some x => simp only [evO]; rw [ev_congr h]
theorem evP_congr {l : List (Nat × Nat × Opd)} (h : ∀ t ∈ rdP l, T.get t = T'.get t) : evP T l = evP T' l := by
  induction l with
  | nil => rfl
  | cons x r ih => obtain ⟨a, b, x⟩ := x; simp only [rdP, List.mem_append] at h; simp only [evP]; rw [ev_congr fun t ht => h t (.inl ht), ih fun t ht => h t (.inr ht)]
theorem aop_congr {o : AOp} (h : ∀ t ∈ reads o, T.get t = T'.get t) : aop tb T H o = aop tb T' H o := by
  cases o <;> simp only [reads, List.mem_append] at h <;> simp only [aop]
  case mv x => rw [ev_congr h]
  case pick c a b => rw [ev_congr fun t ht => h t (.inl ht), ev_congr (x := a) fun t ht => h t (.inr (.inl ht)), ev_congr (x := b) fun t ht => h t (.inr (.inr ht))]
  case box x => rw [ev_congr h]
  case build z ps => rw [evP_congr h]
  case buildSl n z ps => rw [evP_congr h]
  case load a n x => rw [ev_congr h]
  case store n a x => rw [ev_congr fun t ht => h t (.inl ht), ev_congr (x := x) fun t ht => h t (.inr ht)]
  case nilChk x => rw [ev_congr h]
  case bin op a x => rw [ev_congr fun t ht => h t (.inl ht), ev_congr (x := x) fun t ht => h t (.inr ht)]
  case un op x => rw [ev_congr h]
  case conv k x => rw [ev_congr h]
  case convSB x => rw [ev_congr h]
  case convBS x => rw [ev_congr h]
  case mkFunc f a b => rw [evs_congr fun t ht => h t (.inl ht), evs_congr (l := b) fun t ht => h t (.inr ht)]
  case mkIface t x => rw [ev_congr h]
  case mkSlice b z a x => rw [ev_congr fun t ht => h t (.inl ht), ev_congr (x := x) fun t ht => h t (.inr ht)]
  case sl n x a b c => rw [ev_congr fun t ht => h t (.inl ht), evO_congr (x := a) fun t ht => h t (.inr (.inl ht)), evO_congr (x := b) fun t ht => h t (.inr (.inr (.inl ht))), evO_congr (x := c) fun t ht => h t (.inr (.inr (.inr ht)))]
  case slStr x a b => rw [ev_congr fun t ht => h t (.inl ht), evO_congr (x := a) fun t ht => h t (.inr (.inl ht)), evO_congr (x := b) fun t ht => h t (.inr (.inr ht))]
  case fieldA o x => rw [ev_congr h]
  case field a n o x => rw [ev_congr h]
  case idxA n a x => rw [ev_congr fun t ht => h t (.inl ht), ev_congr (x := x) fun t ht => h t (.inr ht)]
  case idxArr m n a x => rw [ev_congr fun t ht => h t (.inl ht), ev_congr (x := x) fun t ht => h t (.inr ht)]
  case idx m n g a x => rw [ev_congr fun t ht => h t (.inl ht), ev_congr (x := x) fun t ht => h t (.inr ht)]
  case idxS a x => rw [ev_congr fun t ht => h t (.inl ht), ev_congr (x := x) fun t ht => h t (.inr ht)]
  case extract i x => rw [ev_congr h]
  case append n b a x => rw [ev_congr fun t ht => h t (.inl ht), ev_congr (x := x) fun t ht => h t (.inr ht)]
  case len s x => rw [ev_congr h]
  case call f l => rw [evs_congr h]
  case callv f l => rw [ev_congr fun t ht => h t (.inl ht), evs_congr (l := l) fun t ht => h t (.inr ht)]
  case pf f l => rw [evs_congr h]
  case slA m n x a b c => rw [ev_congr fun t ht => h t (.inl ht), evO_congr (x := a) fun t ht => h t (.inr (.inl ht)), evO_congr (x := b) fun t ht => h t (.inr (.inr (.inl ht))), evO_congr (x := c) fun t ht => h t (.inr (.inr (.inr ht)))]
  case hf f l => rw [evs_congr h]
theorem vv_other {x : Option AVal} {nx : Nx} (h : vv H x = some (nx, H')) : H' = H ∧ (∃ v, nx = .val v) ∧ ∀ H2, vv H2 x = some (nx, H2) := by
  cases x with
  | none => simp [vv] at h
  | some v => simp only [vv, Option.some.injEq, Prod.mk.injEq] at h; obtain ⟨rfl, rfl⟩ := h; exact ⟨rfl, ⟨v, rfl⟩, fun _ => rfl⟩
theorem pure_other {o : AOp} (hp : isPure o = true) {nx : Nx} (h : aop tb T H o = some (nx, H')) : H' = H ∧ (∃ v, nx = .val v) ∧ ∀ H2, aop tb T H2 o = some (nx, H2) := by
  cases o <;> simp only [isPure, Bool.false_eq_true] at hp <;> simp only [aop] at h ⊢
  case mv x => simp only [Option.some.injEq, Prod.mk.injEq] at h; obtain ⟨rfl, rfl⟩ := h; exact ⟨rfl, ⟨_, rfl⟩, fun _ => rfl⟩
  case pick c a b =>
    split at h
    · simp only [Option.some.injEq, Prod.mk.injEq] at h; obtain ⟨rfl, rfl⟩ := h; exact ⟨rfl, ⟨_, rfl⟩, fun _ => rfl⟩
    · simp at h
  case mkFunc f a b => simp only [Option.some.injEq, Prod.mk.injEq] at h; obtain ⟨rfl, rfl⟩ := h; exact ⟨rfl, ⟨_, rfl⟩, fun _ => rfl⟩
  case mkIface t x => simp only [Option.some.injEq, Prod.mk.injEq] at h; obtain ⟨rfl, rfl⟩ := h; exact ⟨rfl, ⟨_, rfl⟩, fun _ => rfl⟩
  all_goals exact vv_other h
theorem load_other {o : AOp} (hp : isLoad o = true) {nx : Nx} (h : aop tb T H o = some (nx, H')) : H' = H ∧ ∃ v, nx = .val v := by
  cases o <;> simp only [isLoad, Bool.false_eq_true] at hp
  case load => simp only [aop] at h; have := vv_other h; exact ⟨this.1, this.2.1⟩
  case claim => simp only [aop] at h; have := vv_other h; exact ⟨this.1, this.2.1⟩
end
end Go.Abs
