/- The abstract machine: regions that draw their order: blocks that are laid aside ahead of the region. -/
import Derived.Test.YtndeemjhengoiaaD3
namespace Go.Abs

def toClaim (b : Nat) (o : AOper) : AOper :=
  match o.op with
  | .new z => ⟨o.dst, .claim b z, o.guard⟩
  | _ => o
/-- new blocks of the region bear the numbers b, b + 1, .. -/
def claims : Nat → List AOper → List AOper
  | _, [] => []
  | b, o :: r => match o.op with
    | .new _ => toClaim b o :: claims (b + 1) r
    | _ => o :: claims b r
def reserves : AHeap → List AOper → AHeap
  | H, [] => H
  | H, o :: r => match o.op with
    | .new z => reserves (H.push (.cells z 0 false)) r
    | _ => reserves H r

/-- what the order of a region sees of an operation -/
structure SameK (a b : AOper) : Prop where
  dst : a.dst = b.dst
  chain : isChain a.op = isChain b.op
  load : isLoad a.op = isLoad b.op
  reads : readsO a = readsO b
theorem SameK.refl (a : AOper) : SameK a a := ⟨rfl, rfl, rfl, rfl⟩
structure Like (l m : List AOper) : Prop where
  len : l.length = m.length
  at_ : ∀ (i : Nat) (a : AOper), l[i]? = some a → ∃ b, m[i]? = some b ∧ SameK a b

theorem Like.cons {a b : AOper} {l m : List AOper} (h : SameK a b) (k : Like l m) : Like (a :: l) (b :: m) := by
  refine ⟨by simp [k.len], fun i x hx => ?_⟩
  cases i with
  | zero => simp at hx; subst hx; exact ⟨b, by simp, h⟩
  | succ i => simp at hx; simpa using k.at_ i x hx
theorem claims_like : ∀ (l : List AOper) (b c : Nat), Like (claims b l) (claims c l)
  | [], b, c => ⟨rfl, fun i a h => by simp [claims] at h⟩
  | o :: r, b, c => by
    obtain ⟨d, op, g⟩ := o
    cases op <;> simp only [claims] <;> first | exact Like.cons (SameK.refl _) (claims_like r _ _) | (refine Like.cons ?_ (claims_like r _ _); exact ⟨rfl, rfl, rfl, rfl⟩)

theorem Like.none {l m : List AOper} (h : Like l m) {i : Nat} (hi : l[i]? = none) : m[i]? = none := by
  rw [List.getElem?_eq_none_iff] at hi ⊢
  rw [← h.len]; exact hi
theorem okPair_like {ms : List Nat} {i j : Nat} {a b a' b' : AOper} (h : SameK a a') (k : SameK b b') : okPair ms i j a b = okPair ms i j a' b' := by
  unfold okPair disj
  rw [h.chain, k.chain, h.dst, k.dst, h.reads, k.reads]
theorem okPairs_like {l m : List AOper} (h : Like l m) (ms : List Nat) : okPairs l ms = okPairs m ms := by
  unfold okPairs
  rw [h.len]
  congr 1
  funext j
  cases hj : l[j]? with
  | none => rw [h.none hj]
  | some b =>
    obtain ⟨b', hb', kb⟩ := h.at_ j b hj
    rw [hb']
    simp only
    congr 1
    funext i
    cases hi : l[i]? with
    | none => rw [h.none hi]
    | some a =>
      obtain ⟨a', ha', ka⟩ := h.at_ i a hi
      rw [ha']
      simp only
      exact okPair_like ka kb
theorem isStage_like {l m : List AOper} (h : Like l m) (p : Nat) : isStage l p = isStage m p := by
  unfold isStage
  cases hj : l[p]? with
  | none => rw [h.none hj, h.len]
  | some b =>
    obtain ⟨b', hb', kb⟩ := h.at_ p b hj
    rw [hb']
    exact kb.chain
theorem mayAt_like {l m : List AOper} (h : Like l m) (ms : List Nat) (j p : Nat) : mayAt l ms j p = mayAt m ms j p := by
  unfold mayAt
  rw [isStage_like h, h.len]
  congr 2
  funext c
  cases hj : l[c]? with
  | none => rw [h.none hj]
  | some b =>
    obtain ⟨b', hb', kb⟩ := h.at_ c b hj
    rw [hb']
    simp only [kb.chain]
theorem sameH_like {l m : List AOper} (h : Like l m) (j p : Nat) : sameH l j p = sameH m j p := by
  unfold sameH
  congr 2
  funext c
  cases hj : l[c]? with
  | none => rw [h.none hj]
  | some b =>
    obtain ⟨b', hb', kb⟩ := h.at_ c b hj
    rw [hb']
    simp only [kb.chain]
theorem chkOf_like {l m : List AOper} (h : Like l m) (ms : List Nat) (j : Nat) : chkOf l ms j = chkOf m ms j := by
  unfold chkOf
  cases hj : l[j]? with
  | none => rw [h.none hj]
  | some b =>
    obtain ⟨b', hb', kb⟩ := h.at_ j b hj
    rw [hb']
    simp only [kb.load, h.len]
    congr 1
    congr 1
    funext p
    rw [sameH_like h, mayAt_like h]

/-! ### what the claims are -/
theorem call_not_new {P : Program} {c : Call} {z : List AVal} (h : cCall P c = some (.new z)) : False := by
  unfold cCall at h
  repeat' split at h
  all_goals first
    | (simp at h; done)
    | (cases hb : (Nat.beq _ _ && isTail P _) <;> simp [hb] at h; done)
    | skip
  all_goals (revert h; intro h; simp only [cond_eq_ite] at h; split at h <;> simp at h)
theorem cOpX_not_new {P : Program} {o : Op} {z : List AVal} (h : cOpX P o = some (.new z)) : False := by
  unfold cOpX at h
  repeat' split at h
  all_goals first
    | (simp at h; done)
    | (simp only [cond_eq_ite] at h; split at h <;> first | (simp at h; done) | (split at h <;> simp at h))
theorem new_of {P : Program} {o : Op} {z : List AVal} (h : cOp P o = some (.new z)) : ∃ e, o = .alloc e ∧ zeroOf P e = some z := by
  unfold cOp at h
  split at h
  · rename_i a ha
    simp only [Option.some.injEq] at h
    subst h
    exact (cOpX_not_new ha).elim
  · split at h
    · rename_i a ha
      simp only [Option.some.injEq] at h
      subst h
      cases o <;> simp only [cOp0, reduceCtorEq] at ha
      case alloc e _ =>
        split at ha
        · rename_i z' hz
          simp only [Option.some.injEq, AOp.new.injEq] at ha
          subst ha
          exact ⟨e, rfl, hz⟩
        · simp at ha
      case call c => exact (call_not_new ha).elim
      all_goals
        exfalso
        repeat' split at ha
        all_goals first
          | (simp at ha; done)
          | (simp only [cond_eq_ite] at ha; split at ha <;> simp at ha)
    · simp at h
/-- the operation is compiled, or it is a new block of the number b -/
def IsCl (P : Program) (n : Nat) (ops : Array Oper) (o : Oper) (a : AOper) (b : Nat) : Prop :=
  ∃ e z g, o.op = .alloc e ∧ zeroOf P e = some z ∧ cGuard n ops o.guard = some g ∧ okDst n o.dst = true ∧ a = ⟨o.dst, .claim b z, g⟩
theorem claims_at {P : Program} {n : Nat} {ops : Array Oper} : ∀ {rest : List Oper} {l : List AOper}, cOpers P n ops rest = some l → ∀ b, (claims b l).length = rest.length ∧
    ∀ (j : Nat) (o : Oper), rest[j]? = some o → ∃ a, (claims b l)[j]? = some a ∧ (cOper P n ops o = some a ∨ ∃ c, b ≤ c ∧ IsCl P n ops o a c) := by
  intro rest
  induction rest with
  | nil => intro l h b; simp only [cOpers, Option.some.injEq] at h; subst h; exact ⟨rfl, fun j o h => by simp at h⟩
  | cons o r ih =>
    intro l h b
    simp only [cOpers] at h
    split at h
    · rename_i a l' ha hl'
      simp only [Option.some.injEq] at h
      subst h
      have key : ∀ (x : AOper) (b' : Nat), b ≤ b' → (cOper P n ops o = some x ∨ ∃ c, b ≤ c ∧ IsCl P n ops o x c) → claims b (a :: l') = x :: claims b' l' →
          (claims b (a :: l')).length = (o :: r).length ∧ ∀ (j : Nat) (o' : Oper), (o :: r)[j]? = some o' → ∃ a', (claims b (a :: l'))[j]? = some a' ∧ (cOper P n ops o' = some a' ∨ ∃ c, b ≤ c ∧ IsCl P n ops o' a' c) := by
        intro x b' hb hx he
        rw [he]
        obtain ⟨i1, i2⟩ := ih hl' b'
        refine ⟨by simp [i1], fun j o' hj => ?_⟩
        cases j with
        | zero => simp at hj; subst hj; exact ⟨x, by simp, hx⟩
        | succ j =>
          simp at hj
          obtain ⟨a', h1, h2⟩ := i2 j o' hj
          refine ⟨a', by simpa using h1, ?_⟩
          rcases h2 with h2 | ⟨c, h2, h3⟩
          · exact .inl h2
          · exact .inr ⟨c, by omega, h3⟩
      cases hop : a.op with
      | new z =>
        refine key (toClaim b a) (b + 1) (by omega) ?_ (by simp only [claims, hop])
        unfold cOper at ha
        split at ha
        · rename_i ax g hopc hg
          cases hdst : okDst n o.dst with
          | false => rw [hdst] at ha; simp at ha
          | true =>
            rw [hdst] at ha
            simp only [cond_true, Option.some.injEq] at ha
            subst ha
            simp only at hop
            subst hop
            have : ∃ e, o.op = .alloc e ∧ zeroOf P e = some z := new_of hopc
            obtain ⟨e, he, hz⟩ := this
            exact .inr ⟨b, Nat.le_refl _, e, z, g, he, hz, hg, hdst, rfl⟩
        · simp at ha
      | _ => exact key a b (Nat.le_refl _) (.inl ha) (by simp only [claims, hop])
    · simp at h
end Go.Abs
