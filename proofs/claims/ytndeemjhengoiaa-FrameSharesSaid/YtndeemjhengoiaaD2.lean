/- The abstract machine: regions that draw their order, part 2: every order does what the text's order does. -/
import Derived.Test.YtndeemjhengoiaaD1
namespace Go.Abs

section
variable (tb : FuncId → Bool) (call : FuncId → List AVal → AHeap → Option (AVal × AHeap))
def astep (o : AOper) (T : Tr AVal) (H : AHeap) : Option (AVal × AHeap) :=
  bif gOK T o.guard then
    match aop tb T H o.op with
    | some (.val v, H') => some (v, H')
    | some (.enter f args, H') => call f args H'
    | none => none
  else some (undefA, H)
def atrace : List AOper → Tr AVal → AHeap → Option (List (AVal × AHeap))
  | [], _, _ => some []
  | o :: r, T, H => match astep tb call o T H with
    | some (v, H') => match atrace r (aput T o.dst v) H' with
      | some s => some ((v, H') :: s)
      | none => none
    | none => none
/-- each load tells the same at each stage at which it may come -/
def chkRun (hs : List AHeap) : List AOper → List (List Nat) → List (AVal × AHeap) → Tr AVal → Bool
  | o :: os, ps :: pss, (v, _) :: ss, T =>
    (ps.all fun p => match hs[p]? with
      | some Hp => bif gOK T o.guard then (match aop tb T Hp o.op with | some (.val u, _) => aeq u v | _ => false) else true
      | none => false) && chkRun hs os pss ss (aput T o.dst v)
  | _, _, _, _ => true
end

/-- the temporaries behind those operations that m chooses -/
def tsel (m : Nat → Bool) : Nat → List AOper → List (AVal × AHeap) → Tr AVal → Tr AVal
  | i, o :: os, (v, _) :: ss, T => tsel m (i + 1) os ss (bif m i then aput T o.dst v else T)
  | _, _, _, T => T
def hAt (H : AHeap) (ss : List (AVal × AHeap)) : Nat → AHeap
  | 0 => H
  | j + 1 => match ss[j]? with
    | some (_, H') => H'
    | none => H
def stage (m : Nat → Bool) : Nat → List AOper → Nat
  | i, [] => i
  | i, o :: r => bif isChain o.op && !m i then i else stage m (i + 1) r

theorem get_aput (T : Tr AVal) (d : Option Nat) (v : AVal) (t : Nat) : (aput T d v).get t = if d = some t then some v else T.get t := by
  cases d with
  | none => simp [aput]
  | some d =>
    simp only [aput, Tr.get_set]
    by_cases e : t = d
    · subst e; simp
    · rw [if_neg e, if_neg (by intro q; simp at q; exact e q.symm)]

theorem tsel_get {m m' : Nat → Bool} {t : Nat} : ∀ (l : List AOper) (ss : List (AVal × AHeap)) (k : Nat) (T T' : Tr AVal), T.get t = T'.get t →
    (∀ i o, l[i]? = some o → o.dst = some t → m (k + i) = m' (k + i)) → (tsel m k l ss T).get t = (tsel m' k l ss T').get t := by
  intro l
  induction l with
  | nil => intro ss k T T' h _; cases ss <;> exact h
  | cons o r ih =>
    intro ss k T T' h hm
    cases ss with
    | nil => exact h
    | cons s ss =>
      obtain ⟨v, H'⟩ := s
      simp only [tsel]
      refine ih ss (k + 1) _ _ ?_ fun i o' h1 h2 => by have := hm (i + 1) o' (by simpa using h1) h2; rw [show k + 1 + i = k + (i + 1) by omega]; exact this
      by_cases hd : o.dst = some t
      · have := hm 0 o rfl hd
        simp only [Nat.add_zero] at this
        rw [this]
        cases m' k
        · exact h
        · simp only [cond_true, get_aput, hd, if_true]
      · have e1 : ∀ (b : Bool) (T : Tr AVal), (bif b then aput T o.dst v else T).get t = T.get t := fun b T => by
          cases b
          · rfl
          · simp only [cond_true, get_aput, if_neg hd]
        rw [e1, e1, h]

theorem tsel_last {m : Nat → Bool} {t : Nat} : ∀ (l : List AOper) (ss : List (AVal × AHeap)) (k j : Nat) (T : Tr AVal) (o : AOper) (v : AVal) (H' : AHeap), l[j]? = some o → ss[j]? = some (v, H') → o.dst = some t → m (k + j) = true →
    (∀ i o', j < i → l[i]? = some o' → o'.dst = some t → m (k + i) = false) → (tsel m k l ss T).get t = some v := by
  intro l
  induction l with
  | nil => intro ss k j T o v H' h; simp at h
  | cons o r ih =>
    intro ss k j T o' v H' h1 h2 h3 h4 h5
    cases ss with
    | nil => simp at h2
    | cons s ss =>
      obtain ⟨u, H1⟩ := s
      simp only [tsel]
      cases j with
      | zero =>
        simp only [List.getElem?_cons_zero, Option.some.injEq, Prod.mk.injEq] at h1 h2
        obtain ⟨rfl, rfl⟩ := h2
        subst h1
        simp only [Nat.add_zero] at h4
        rw [h4]
        have := tsel_get (m := m) (m' := fun _ => false) (t := t) r ss (k + 1) (bif true then aput T o.dst u else T) (aput T o.dst u) rfl fun i o' q1 q2 => by
          have := h5 (i + 1) o' (by omega) (by simpa using q1) q2
          rw [show k + 1 + i = k + (i + 1) by omega]; exact this
        rw [this]
        have hn : ∀ (l : List AOper) (ss : List (AVal × AHeap)) (k : Nat) (T : Tr AVal), tsel (fun _ => false) k l ss T = T := by
          intro l
          induction l with
          | nil => intro ss k T; cases ss <;> rfl
          | cons o r ih => intro ss k T; cases ss with
            | nil => rfl
            | cons s ss => obtain ⟨a, b⟩ := s; simp only [tsel, cond_false, ih]
        rw [hn, get_aput, if_pos h3]
      | succ j =>
        refine ih ss (k + 1) j _ o' v H' (by simpa using h1) (by simpa using h2) h3 (by rw [show k + 1 + j = k + (j + 1) by omega]; exact h4) fun i o2 q0 q1 q2 => ?_
        rw [show k + 1 + i = k + (i + 1) by omega]
        exact h5 (i + 1) o2 (by omega) (by simpa using q1) q2

section
variable {tb : FuncId → Bool} {call : FuncId → List AVal → AHeap → Option (AVal × AHeap)}
theorem trace_at : ∀ (l : List AOper) (T : Tr AVal) (H : AHeap) (ss : List (AVal × AHeap)) (k : Nat), atrace tb call l T H = some ss →
    ss.length = l.length ∧ ∀ j o, l[j]? = some o → ∃ v H', ss[j]? = some (v, H') ∧ astep tb call o (tsel (fun i => Nat.blt i (k + j)) k l ss T) (hAt H ss j) = some (v, H') := by
  intro l
  induction l with
  | nil => intro T H ss k h; simp only [atrace, Option.some.injEq] at h; subst h; exact ⟨rfl, fun j o h => by simp at h⟩
  | cons o r ih =>
    intro T H ss k h
    simp only [atrace] at h
    split at h
    · rename_i v H' hs
      split at h
      · rename_i s hr
        simp only [Option.some.injEq] at h
        subst h
        obtain ⟨h1, h2⟩ := ih _ _ _ (k + 1) hr
        refine ⟨by simp [h1], fun j o' hj => ?_⟩
        cases j with
        | zero =>
          simp only [List.getElem?_cons_zero, Option.some.injEq] at hj
          subst hj
          refine ⟨v, H', rfl, ?_⟩
          have e : tsel (fun i => Nat.blt i (k + 0)) k (o :: r) ((v, H') :: s) T = T := by
            have hn : ∀ (l : List AOper) (ss : List (AVal × AHeap)) (k' : Nat) (T : Tr AVal), k ≤ k' → tsel (fun i => Nat.blt i (k + 0)) k' l ss T = T := by
              intro l
              induction l with
              | nil => intro ss k' T _; cases ss <;> rfl
              | cons o r ih => intro ss k' T hk; cases ss with
                | nil => rfl
                | cons s ss =>
                  obtain ⟨a, b⟩ := s
                  have : Nat.blt k' (k + 0) = false := by
                    cases hb : Nat.blt k' (k + 0) with
                    | false => rfl
                    | true => have := Nat.le_of_ble_eq_true hb; omega
                  simp only [tsel, this, cond_false]
                  exact ih ss (k' + 1) T (by omega)
            exact hn _ _ k T (Nat.le_refl _)
          rw [e]
          exact hs
        | succ j =>
          simp only [List.getElem?_cons_succ] at hj
          obtain ⟨u, H2, q1, q2⟩ := h2 j o' hj
          refine ⟨u, H2, by simpa using q1, ?_⟩
          have hb : Nat.blt k (k + (j + 1)) = true := by
            show Nat.ble (k + 1) (k + (j + 1)) = true
            exact Nat.ble_eq_true_of_le (by omega)
          simp only [tsel, hb, cond_true]
          rw [show k + (j + 1) = k + 1 + j by omega]
          have hh : hAt H ((v, H') :: s) (j + 1) = hAt H' s j := by
            cases j with
            | zero => rfl
            | succ j =>
              simp only [hAt, List.getElem?_cons_succ]
              have : j < s.length := by
                have := (List.getElem?_eq_some_iff.1 hj).1
                omega
              rw [List.getElem?_eq_getElem this]
          rw [hh]
          exact q2
      · simp at h
    · simp at h
end
end Go.Abs
