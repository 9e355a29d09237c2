/- The abstract machine: regions that draw their order: what is laid aside ahead of the region, and that no number is laid aside twice. -/
import Derived.Test.YtndeemjhengoiaaD4
namespace Go.Abs

theorem call_not_claim {P : Program} {c : Call} {b : Nat} {z : List AVal} (h : cCall P c = some (.claim b z)) : False := by
  unfold cCall at h
  repeat' split at h
  all_goals first
    | (simp at h; done)
    | (simp only [cond_eq_ite] at h; split at h <;> simp at h)
theorem cOpX_not_claim {P : Program} {o : Op} {b : Nat} {z : List AVal} (h : cOpX P o = some (.claim b z)) : False := by
  unfold cOpX at h
  repeat' split at h
  all_goals first
    | (simp at h; done)
    | (simp only [cond_eq_ite] at h; split at h <;> first | (simp at h; done) | (split at h <;> simp at h))
theorem cOp_not_claim {P : Program} {o : Op} {b : Nat} {z : List AVal} (h : cOp P o = some (.claim b z)) : False := by
  unfold cOp at h
  split at h
  · rename_i a ha
    simp only [Option.some.injEq] at h
    subst h
    exact cOpX_not_claim ha
  · split at h
    · rename_i a ha
      simp only [Option.some.injEq] at h
      subst h
      cases o <;> simp only [cOp0, reduceCtorEq] at ha
      case call c _ => exact call_not_claim ha
      all_goals
        exfalso
        repeat' split at ha
        all_goals first
          | (simp at ha; done)
          | (simp only [cond_eq_ite] at ha; split at ha <;> simp at ha)
    · simp at h

def NoClaim (l : List AOper) : Prop := ∀ a ∈ l, ∀ (c : Nat) (z : List AVal), a.op ≠ .claim c z
theorem opers_noClaim {P : Program} {n : Nat} {ops : Array Oper} : ∀ {rest : List Oper} {l : List AOper}, cOpers P n ops rest = some l → NoClaim l := by
  intro rest
  induction rest with
  | nil => intro l h; simp only [cOpers, Option.some.injEq] at h; subst h; intro a ha; simp at ha
  | cons o r ih =>
    intro l h
    simp only [cOpers] at h
    split at h
    · rename_i a l' ha hl'
      simp only [Option.some.injEq] at h
      subst h
      intro x hx c z hc
      rcases List.mem_cons.1 hx with rfl | hx
      · unfold cOper at ha
        split at ha
        · rename_i ax g hopc hg
          cases hdst : okDst n o.dst with
          | false => rw [hdst] at ha; simp at ha
          | true =>
            rw [hdst] at ha
            simp only [cond_true, Option.some.injEq] at ha
            subst ha
            simp only at hc
            subst hc
            exact cOp_not_claim hopc
        · simp at ha
      · exact ih hl' x hx c z hc
    · simp at h

theorem claims_step (b : Nat) (o : AOper) (r : List AOper) : (∃ z, o.op = .new z ∧ claims b (o :: r) = toClaim b o :: claims (b + 1) r ∧ ∀ H, reserves H (o :: r) = reserves (H.push (.cells z 0 false)) r) ∨
    ((∀ z, o.op ≠ .new z) ∧ claims b (o :: r) = o :: claims b r ∧ ∀ H, reserves H (o :: r) = reserves H r) := by
  obtain ⟨d, op, g⟩ := o
  cases op
  case new z => exact .inl ⟨z, rfl, rfl, fun _ => rfl⟩
  all_goals exact .inr ⟨fun z h => by simp at h, rfl, fun _ => rfl⟩
theorem claims_ge : ∀ (l : List AOper) (b : Nat), NoClaim l → ∀ (i : Nat) (a : AOper) (c : Nat) (z : List AVal), (claims b l)[i]? = some a → a.op = .claim c z → b ≤ c
  | [], b, _, i, a, c, z, h, _ => by simp [claims] at h
  | o :: r, b, hn, i, a, c, z, h, hc => by
    have hr : NoClaim r := fun x hx => hn x (List.mem_cons_of_mem _ hx)
    rcases claims_step b o r with ⟨z', ho, e, _⟩ | ⟨_, e, _⟩
    · rw [e] at h
      cases i with
      | zero =>
        simp only [List.getElem?_cons_zero, Option.some.injEq] at h
        subst h
        simp only [toClaim, ho, AOp.claim.injEq] at hc
        omega
      | succ i =>
        simp only [List.getElem?_cons_succ] at h
        have := claims_ge r (b + 1) hr i a c z h hc
        omega
    · rw [e] at h
      cases i with
      | zero =>
        simp only [List.getElem?_cons_zero, Option.some.injEq] at h
        subst h
        exact absurd hc (hn o (List.mem_cons_self ..) c z)
      | succ i =>
        simp only [List.getElem?_cons_succ] at h
        exact claims_ge r b hr i a c z h hc
theorem claims_inj : ∀ (l : List AOper) (b : Nat), NoClaim l → ∀ (i j : Nat) (a a' : AOper) (c : Nat) (z z' : List AVal), (claims b l)[i]? = some a → (claims b l)[j]? = some a' → a.op = .claim c z → a'.op = .claim c z' → i = j
  | [], b, _, i, j, a, a', c, z, z', h, _, _, _ => by simp [claims] at h
  | o :: r, b, hn, i, j, a, a', c, z, z', h, k, hc, kc => by
    have hr : NoClaim r := fun x hx => hn x (List.mem_cons_of_mem _ hx)
    rcases claims_step b o r with ⟨y, ho, e, _⟩ | ⟨_, e, _⟩
    · rw [e] at h k
      cases i with
      | zero =>
        cases j with
        | zero => rfl
        | succ j =>
          simp only [List.getElem?_cons_zero, Option.some.injEq, List.getElem?_cons_succ] at h k
          subst h
          simp only [toClaim, ho, AOp.claim.injEq] at hc
          have := claims_ge r (b + 1) hr j a' c z' k kc
          omega
      | succ i =>
        cases j with
        | zero =>
          simp only [List.getElem?_cons_zero, Option.some.injEq, List.getElem?_cons_succ] at h k
          subst k
          simp only [toClaim, ho, AOp.claim.injEq] at kc
          have := claims_ge r (b + 1) hr i a c z h hc
          omega
        | succ j =>
          simp only [List.getElem?_cons_succ] at h k
          rw [claims_inj r (b + 1) hr i j a a' c z z' h k hc kc]
    · rw [e] at h k
      cases i with
      | zero =>
        simp only [List.getElem?_cons_zero, Option.some.injEq] at h
        subst h
        exact absurd hc (hn o (List.mem_cons_self ..) c z)
      | succ i =>
        cases j with
        | zero =>
          simp only [List.getElem?_cons_zero, Option.some.injEq] at k
          subst k
          exact absurd kc (hn o (List.mem_cons_self ..) c z')
        | succ j =>
          simp only [List.getElem?_cons_succ] at h k
          rw [claims_inj r b hr i j a a' c z z' h k hc kc]

section
variable {w0 : World} {ρ : Pl} {w : World}
theorem reserves_rel {pr : Nat → Prop} : ∀ (l : List AOper) (D : Nat → Prop) (H : AHeap), NoClaim l → Rel ⟨pr, D⟩ w0 ρ H w → Rel ⟨pr, aside D (claims H.next l) fun _ => false⟩ w0 ρ (reserves H l) w
  | [], D, H, _, R => R.fewer (D := aside D [] fun _ => false) fun d hd => by
    rcases hd with hd | ⟨i, a, z, h, _⟩
    · exact hd
    · simp at h
  | o :: r, D, H, hn, R => by
    have hr : NoClaim r := fun x hx => hn x (List.mem_cons_of_mem _ hx)
    rcases claims_step H.next o r with ⟨y, ho, e, f⟩ | ⟨_, e, f⟩
    · rw [e, f]
      have := reserves_rel r _ _ hr (R.reserve (.cells y 0 false))
      refine Rel.fewer this fun d hd => ?_
      rcases hd with hd | ⟨i, a, z, h, k, _⟩
      · exact .inl (.inl hd)
      · cases i with
        | zero =>
          simp only [List.getElem?_cons_zero, Option.some.injEq] at h
          subst h
          simp only [toClaim, ho, AOp.claim.injEq] at k
          exact .inl (.inr k.1.symm)
        | succ i =>
          simp only [List.getElem?_cons_succ] at h
          exact .inr ⟨i, a, z, h, k, rfl⟩
    · rw [e, f]
      have := reserves_rel r _ _ hr R
      refine Rel.fewer this fun d hd => ?_
      rcases hd with hd | ⟨i, a, z, h, k, _⟩
      · exact .inl hd
      · cases i with
        | zero =>
          simp only [List.getElem?_cons_zero, Option.some.injEq] at h
          subst h
          exact absurd k (hn o (List.mem_cons_self ..) d z)
        | succ i =>
          simp only [List.getElem?_cons_succ] at h
          exact .inr ⟨i, a, z, h, k, rfl⟩
end
end Go.Abs
