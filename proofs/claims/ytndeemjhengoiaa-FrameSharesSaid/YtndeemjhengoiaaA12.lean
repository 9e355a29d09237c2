/- The abstract machine, part 12: from a run to a contract. -/
import Derived.Test.YtndeemjhengoiaaA11
namespace Go.Abs
section
variable {P : Program}

def H0 : AHeap := ⟨0, .e⟩
def ofList : List (Nat × AFn) → Tr AFn
  | [] => .e
  | (f, c) :: r => (ofList r).set f c
theorem tab_of {l : List (Nat × AFn)} (h : ∀ p ∈ l, cFn P p.1 = some p.2) : TabOK P (ofList l) := by
  induction l with
  | nil => intro f fn hf; simp [ofList, Tr.get] at hf
  | cons p r ih =>
    intro f fn hf
    obtain ⟨g, c⟩ := p
    simp only [ofList, Tr.get_set] at hf
    split at hf
    · rename_i e
      subst e
      simp only [Option.some.injEq] at hf
      subst hf
      exact h (f, c) (by simp)
    · exact ih (fun p hp => h p (by simp [hp])) f fn hf
theorem tab_eq {t : Tr AFn} {l : List (Nat × AFn)} (h : ofList l = t) (hl : ∀ p ∈ l, cFn P p.1 = some p.2) : TabOK P t := h ▸ tab_of hl
theorem tab_nil : ∀ p ∈ ([] : List (Nat × AFn)), cFn P p.1 = some p.2 := by simp
theorem tab_cons {f : Nat} {c : AFn} {l : List (Nat × AFn)} (h : cFn P f = some c) (hl : ∀ p ∈ l, cFn P p.1 = some p.2) : ∀ p ∈ (f, c) :: l, cFn P p.1 = some p.2 := by
  intro p hp
  rcases List.mem_cons.1 hp with rfl | hp
  · exact h
  · exact hl p hp

/-- any world, seen through an empty heap: all that is there is held fast -/
theorem rel_start (w : World) : Rel ⟨fun c => c < w.heap.size, fun _ => False⟩ w (fun _ _ => none) H0 w :=
  ⟨rfl, rfl, rfl, Nat.le_refl _, fun _ hc => ⟨hc, rfl⟩, fun _ _ _ h => by simp at h, fun _ _ _ h => by simp at h, fun _ _ _ _ h => by simp at h, fun _ _ _ _ _ _ _ h => by simp at h, fun _ h => h.elim⟩
theorem Rel.below {w0 : World} {ρ : Pl} {H : AHeap} {w : World} (R : Rel ⟨fun c => c < w0.heap.size, fun _ => False⟩ w0 ρ H w) : RowKit.Below w0.heap.size w0 w :=
  ⟨R.os, R.tape, R.output, R.size, fun k hk => (R.prot k hk).2⟩

/-- a call that needs no memory of ours and tells a bool -/
theorem closed_bool (hfol : P.follows .mixedOrders = true) {N : ANat} (hN : NatOK P N) {tab : Tr AFn} (hT : TabOK P tab) {n : Nat} {f : FuncId} {args : List AVal} {vs : Array Value} (hv : ∀ ρ, VRels ρ args vs.toList) {b : Bool}
    (h : (match acall N tab n f args H0 with | some (.bool b', _) => b' == b | _ => false) = true) (w : World) :
    Calls P f vs w fun e w' => e = .returned (.bool b) ∧ RowKit.Below w.heap.size w w' := by
  split at h
  · rename_i b' H' hr
    refine (acall_ok hfol hN hT n _ _ _ _ _ hr _ w _ w vs (rel_start w) (hv _)).mono fun e w' hx => ?_
    obtain ⟨ρ', u, _, rfl, R, hu⟩ := hx
    simp only [VRel] at hu
    subst hu
    have : b' = b := by simpa using h
    exact ⟨by rw [this], R.below⟩
  · simp at h
end
end Go.Abs
