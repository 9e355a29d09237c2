/- The abstract machine, part 8e: values that are the same. -/
import Derived.Test.YtndeemjhengoiaaA8d
namespace Go.Abs

mutual
def aeq : AVal → AVal → Bool
  | .bool a, .bool b => a == b
  | .int k a, .int k' b => decide (k = k') && eqF a b
  | .str a, .str b => a == b
  | .ptr none, .ptr none => true
  | .ptr (some a), .ptr (some b) => Nat.beq a.b b.b && (Nat.beq a.lim b.lim && Nat.beq a.o b.o)
  | .slice none n (.known c), .slice none m (.known d) => Nat.beq n m && Nat.beq c d
  | .slice (some a) n (.known c), .slice (some b) m (.known d) => Nat.beq a.b b.b && (Nat.beq a.lim b.lim && (Nat.beq a.o b.o && (Nat.beq n m && Nat.beq c d)))
  | .slice (some a) n (.open_ c), .slice (some b) m (.open_ d) => Nat.beq a.b b.b && (Nat.beq a.lim b.lim && (Nat.beq a.o b.o && (Nat.beq n m && Nat.beq c d)))
  | .map none, .map none => true
  | .map (some a), .map (some b) => Nat.beq a b
  | .nilFunc, .nilFunc => true
  | .func (.func f) a b, .func (.func g) c d => Nat.beq f g && (aeqs a c && aeqs b d)
  | .nilIface, .nilIface => true
  | .iface t v, .iface u x => Nat.beq t u && aeq v x
  | .agg l, .agg m => aeqs l m
  | .tuple l, .tuple m => aeqs l m
  | _, _ => false
def aeqs : List AVal → List AVal → Bool
  | [], [] => true
  | x :: l, y :: m => aeq x y && aeqs l m
  | _, _ => false
end
theorem nb {a b : Nat} (h : Nat.beq a b = true) : a = b := Nat.eq_of_beq_eq_true h
mutual
theorem aeq_ok : ∀ (x y : AVal), aeq x y = true → x = y := by
  intro x y h
  unfold aeq at h
  split at h
  all_goals (try (simp only [Bool.false_eq_true] at h; done))
  · simp at h; rw [h]
  · simp only [Bool.and_eq_true, decide_eq_true_eq, eqF_eq, beq_iff_eq] at h; rw [h.1, h.2]
  · simp at h; rw [h]
  · rfl
  · rename_i a b; obtain ⟨a1, a2, a3⟩ := a; obtain ⟨b1, b2, b3⟩ := b; simp only [Bool.and_eq_true] at h; obtain ⟨h1, h2, h3⟩ := h; have := nb h1; have := nb h2; have := nb h3; simp_all
  · simp only [Bool.and_eq_true] at h; rw [nb h.1, nb h.2]
  · rename_i a n c b m d; obtain ⟨a1, a2, a3⟩ := a; obtain ⟨b1, b2, b3⟩ := b; simp only [Bool.and_eq_true] at h; obtain ⟨h1, h2, h3, h4, h5⟩ := h; have := nb h1; have := nb h2; have := nb h3; have := nb h4; have := nb h5; simp_all
  · rename_i a n c b m d; obtain ⟨a1, a2, a3⟩ := a; obtain ⟨b1, b2, b3⟩ := b; simp only [Bool.and_eq_true] at h; obtain ⟨h1, h2, h3, h4, h5⟩ := h; have := nb h1; have := nb h2; have := nb h3; have := nb h4; have := nb h5; simp_all
  · rfl
  · rw [nb h]
  · rfl
  · simp only [Bool.and_eq_true] at h; rw [nb h.1, aeqs_ok _ _ h.2.1, aeqs_ok _ _ h.2.2]
  · rfl
  · simp only [Bool.and_eq_true] at h; rw [nb h.1, aeq_ok _ _ h.2]
  · rw [aeqs_ok _ _ h]
  · rw [aeqs_ok _ _ h]
theorem aeqs_ok : ∀ (l m : List AVal), aeqs l m = true → l = m := by
  intro l m h
  unfold aeqs at h
  split at h
  · rfl
  · simp only [Bool.and_eq_true] at h; rw [aeq_ok _ _ h.1, aeqs_ok _ _ h.2]
  · simp at h
end

/-- a number that was laid aside: its block is as it was made -/
def aClaim (H : AHeap) (b : Nat) (z : List AVal) : Option AVal :=
  match H.get b with
  | some (.cells l 0 false) => bif aeqs l z then some (.ptr (some ⟨b, z.length, 0⟩)) else none
  | _ => none
theorem claim_spec {H : AHeap} {b : Nat} {z : List AVal} {v : AVal} (h : aClaim H b z = some v) : H.get b = some (.cells z 0 false) ∧ v = .ptr (some ⟨b, z.length, 0⟩) := by
  unfold aClaim at h
  split at h
  · rename_i l hl
    cases he : aeqs l z with
    | false => rw [he] at h; simp at h
    | true =>
      rw [he] at h
      simp only [cond_true, Option.some.injEq] at h
      exact ⟨by rw [hl, aeqs_ok _ _ he], h.symm⟩
  · simp at h
end Go.Abs
