/- Symbolic runs of the abstract machine, part 3: any world as a heap to begin with: all its rows of cells, to be read alone. Plain Lean. -/
import Derived.Test.YtndeemjhengoiaaS2
namespace Go.Abs.S
open Go.Abs

theorem junks {ρ : Pl} {p : Value → Prop} (h : ∀ v, p v → ∃ x, ∀ ρ, VRel ρ x v) : ∀ (vs : List Value), (∀ v ∈ vs, p v) → ∃ l, ∀ ρ, VRels ρ l vs
  | [], _ => ⟨[], fun ρ => by simp [VRels]⟩
  | v :: vs, hv => by
    obtain ⟨x, hx⟩ := h v (hv v (by simp))
    obtain ⟨l, hl⟩ := junks (ρ := ρ) h vs fun u hu => hv u (by simp [hu])
    exact ⟨x :: l, fun ρ => by simp only [VRels]; exact ⟨v, vs, rfl, hx ρ, hl ρ⟩⟩
theorem junk : ∀ (n : Nat) (v : Value), SizeOf.sizeOf v ≤ n → ∃ x, ∀ ρ, VRel ρ x v := by
  intro n
  induction n with
  | zero => intro v h; cases v <;> simp at h
  | succ n ih =>
    intro v h
    cases v
    case bool b => exact ⟨.bool b, fun ρ => by simp [VRel]⟩
    case agg vs =>
      obtain ⟨l, hl⟩ := junks (ρ := fun _ _ => none) (p := fun v => SizeOf.sizeOf v ≤ n) ih vs.toList fun v hv => by
        have := Array.sizeOf_lt_of_mem (Array.mem_toList_iff.1 hv)
        simp at h; omega
      exact ⟨.agg l, fun ρ => by simp only [VRel]; exact ⟨vs, rfl, hl ρ⟩⟩
    case tuple vs =>
      obtain ⟨l, hl⟩ := junks (ρ := fun _ _ => none) (p := fun v => SizeOf.sizeOf v ≤ n) ih vs.toList fun v hv => by
        have := Array.sizeOf_lt_of_mem (Array.mem_toList_iff.1 hv)
        simp at h; omega
      exact ⟨.tuple l, fun ρ => by simp only [VRel]; exact ⟨vs, rfl, hl ρ⟩⟩
    all_goals exact ⟨.val _, fun ρ => by simp only [VRel]; exact ⟨rfl, rfl⟩⟩
noncomputable def junkOf (v : Value) : AVal := Classical.choose (junk (SizeOf.sizeOf v) v (Nat.le_refl _))
theorem junkOf_rel (v : Value) (ρ : Pl) : VRel ρ (junkOf v) v := Classical.choose_spec (junk (SizeOf.sizeOf v) v (Nat.le_refl _)) ρ

/-- how many cells a block has, if it is of cells -/
def rowOf (w : World) (c : Nat) : Option Nat := match w.heap[c]? with
  | some (.cells C _ _) => some C.size
  | _ => none
/-- a value of that world's, as the abstract machine has it -/
noncomputable def absW (w : World) : Value → AVal
  | .bool b => .bool b
  | .int k n => .int k n
  | .string s => .str s.data.toList
  | .pointer none => .ptr none
  | .pointer (some ⟨c, off, none⟩) => match rowOf w c with
    | some n => .ptr (some ⟨c, n, off⟩)
    | none => junkOf (.pointer (some ⟨c, off, none⟩))
  | .slice none 0 0 => .slice none 0 (.known 0)
  | .slice (some ⟨c, off, none⟩) len cap => if len ≤ cap then (match rowOf w c with
    | some n => .slice (some ⟨c, n, off⟩) len (.known cap)
    | none => junkOf (.slice (some ⟨c, off, none⟩) len cap)) else junkOf (.slice (some ⟨c, off, none⟩) len cap)
  | .map none => .map none
  | .nilFunc => .nilFunc
  | .nilIface => .nilIface
  | v => junkOf v
/-- where its blocks lie: in themselves -/
def plW (w : World) : Pl := fun b l => match rowOf w b with
  | some n => if l = n then some ⟨b, 0, n, false⟩ else none
  | none => none
theorem plW_some {w : World} {b n : Nat} (h : rowOf w b = some n) : plW w b n = some ⟨b, 0, n, false⟩ := by simp [plW, h]
theorem strOf_data (s : ByteArray) : strOf s.data.toList = s := by cases s; simp [strOf]
theorem absW_rel (w : World) (v : Value) : VRel (plW w) (absW w v) v := by
  unfold absW
  split
  · simp [VRel]
  · simp [VRel]
  · simp [VRel, strOf_data]
  · simp [VRel]
  · split
    · rename_i n hn
      simp only [VRel]
      exact ⟨_, plW_some hn, Nat.zero_le _, by simp⟩
    · exact junkOf_rel _ _
  · simp [VRel]
  · split
    · rename_i hl
      split
      · rename_i n hn
        simp only [VRel]
        exact ⟨_, plW_some hn, Nat.zero_le _, by simp only [SliceRel]; exact ⟨hl, by simp⟩⟩
      · exact junkOf_rel _ _
    · exact junkOf_rel _ _
  · simp [VRel]
  · simp [VRel]
  · simp [VRel]
  · exact junkOf_rel _ _

/-! ### the heap -/
noncomputable def objW (w : World) (c : Nat) : Option AObj := match w.heap[c]? with
  | some (.cells C _ _) => some (.cells (C.toList.map (absW w)) 0 true)
  | _ => none
noncomputable def trW (w : World) : Nat → Tr AObj
  | 0 => .e
  | n + 1 => match objW w n with
    | some o => (trW w n).set n o
    | none => trW w n
theorem trW_get (w : World) : ∀ (n b : Nat), (trW w n).get b = if b < n then objW w b else none
  | 0, b => by rw [if_neg (by omega)]; cases b <;> rfl
  | n + 1, b => by
    simp only [trW]
    cases hc : objW w n with
    | none =>
      simp only [trW_get w n b]
      by_cases h : b < n
      · rw [if_pos h, if_pos (by omega)]
      · by_cases e : b = n
        · subst e; rw [if_neg h, if_pos (by omega), hc]
        · rw [if_neg h, if_neg (by omega)]
    | some c =>
      simp only [Tr.get_set, trW_get w n b]
      by_cases e : b = n
      · subst e; rw [if_pos rfl, if_pos (by omega), hc]
      · rw [if_neg e]
        by_cases h : b < n
        · rw [if_pos h, if_pos (by omega)]
        · rw [if_neg h, if_neg (by omega)]
noncomputable def heapW (w : World) : AHeap := ⟨w.heap.size, trW w w.heap.size⟩
theorem heapW_get (w : World) (b : Nat) : (heapW w).get b = objW w b := by
  show (trW w w.heap.size).get b = _
  rw [trW_get]
  by_cases h : b < w.heap.size
  · rw [if_pos h]
  · rw [if_neg h]
    unfold objW
    rw [Array.getElem?_eq_none (by omega)]
theorem objW_some {w : World} {c n : Nat} (h : rowOf w c = some n) : ∃ C e fz, w.heap[c]? = some (.cells C e fz) ∧ C.size = n ∧ objW w c = some (.cells (C.toList.map (absW w)) 0 true) := by
  unfold rowOf at h
  unfold objW
  split at h
  · rename_i C e fz hC
    simp only [Option.some.injEq] at h
    exact ⟨C, e, fz, hC, h, rfl⟩
  · simp at h
theorem plW_inv {w : World} {b l : Nat} {L : Loc} (h : plW w b l = some L) : rowOf w b = some l ∧ L = ⟨b, 0, l, false⟩ := by
  unfold plW at h
  split at h
  · rename_i n hn
    split at h
    · rename_i e; subst e; simp only [Option.some.injEq] at h; exact ⟨hn, h.symm⟩
    · simp at h
  · simp at h
theorem objW_ro {w : World} {b : Nat} {x : AObj} (h : objW w b = some x) : x.rw = false := by
  unfold objW at h
  split at h
  · simp only [Option.some.injEq] at h; subst h; rfl
  · simp at h
theorem rel_world (w : World) : Rel ⟨fun c => c < w.heap.size, fun _ => False⟩ w (plW w) (heapW w) w := by
  refine ⟨rfl, rfl, rfl, Nat.le_refl _, fun _ hc => ⟨hc, rfl⟩, fun b l L h => ?_, fun b l L h => ?_, fun b l L x h hx hr => ?_, fun b l L b' l' L' x h h' he hx hr => ?_, fun _ h => h.elim⟩
  · obtain ⟨h1, rfl⟩ := plW_inv h
    obtain ⟨C, e, fz, h2, _, _⟩ := objW_some h1
    have := (Array.getElem?_eq_some_iff.1 h2).1
    exact ⟨this, this⟩
  · obtain ⟨h1, rfl⟩ := plW_inv h
    obtain ⟨C, e, fz, h2, h3, h4⟩ := objW_some h1
    obtain ⟨lo, hi⟩ := fz
    refine ⟨_, _, by rw [heapW_get, h4], h2, ?_⟩
    simp only [ORel]
    refine ⟨C, e, lo, hi, rfl, h3, fun h => by simp at h, by simp; omega, fun _ i _ hi => ?_⟩
    have hlt : i < C.size := by omega
    refine ⟨absW w C[i], C[i], ?_, by simp [hlt], absW_rel w _⟩
    simp [hlt]
  · rw [heapW_get] at hx
    rw [objW_ro hx] at hr
    simp at hr
  · rw [heapW_get] at hx
    rw [objW_ro hx] at hr
    simp at hr
end Go.Abs.S
