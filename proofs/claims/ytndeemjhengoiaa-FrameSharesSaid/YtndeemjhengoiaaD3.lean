/- The abstract machine: regions that draw their order, part 3: what is asked of the text, and the theorem. -/
import Derived.Test.YtndeemjhengoiaaD2
namespace Go.Abs

def bindE (o : Oper) : List Nat := (o.after.toList.filter (Region.binds .any)).map (·.on)
def maskOf (ms : List Nat) : List Nat → Nat
  | [] => 0
  | e :: r => (1 <<< e) ||| (ms.getD e 0) ||| maskOf ms r
def masksGo (acc : List Nat) : List (List Nat) → List Nat
  | [] => acc
  | es :: r => masksGo (acc ++ [maskOf acc es]) r
def bit (ms : List Nat) (j i : Nat) : Bool := Nat.blt i j && (ms.getD j 0).testBit i
theorem bit_lt {ms : List Nat} {j i : Nat} (h : bit ms j i = true) : i < j := by
  unfold bit at h
  rw [Bool.and_eq_true] at h
  exact Nat.le_of_ble_eq_true h.1
def okMask (es : List (List Nat)) (ms : List Nat) : Bool :=
  (List.range es.length).all fun j => (es.getD j []).all (fun e => Nat.blt e j) && (List.range j).all fun i => !bit ms j i || (es.getD j []).any fun e => Nat.beq e i || (Nat.blt i e && bit ms e i)
def disj (a b : AOper) : Bool :=
  (match a.dst with | none => true | some d => !(readsO b).contains d && !(b.dst == some d)) && (match b.dst with | none => true | some d => !(readsO a).contains d)
def okPair (ms : List Nat) (i j : Nat) (a b : AOper) : Bool := bit ms j i || (!(isChain a.op && isChain b.op) && disj a b)
def okPairs (l : List AOper) (ms : List Nat) : Bool :=
  (List.range l.length).all fun j => match l[j]? with
    | some b => (List.range j).all fun i => match l[i]? with
      | some a => okPair ms i j a b
      | none => true
    | none => true
def isStage (l : List AOper) (p : Nat) : Bool := match l[p]? with | some o => isChain o.op | none => Nat.beq p l.length
def mayAt (l : List AOper) (ms : List Nat) (j p : Nat) : Bool :=
  isStage l p && (List.range l.length).all fun c => match l[c]? with
    | some o => !isChain o.op || (bif Nat.blt c p then !bit ms c j else !bit ms j c)
    | none => true
/-- no link of the chain from j to p: the heap is one there -/
def sameH (l : List AOper) (j p : Nat) : Bool := Nat.ble j p && (List.range p).all fun c => Nat.blt c j || (match l[c]? with | some o => !isChain o.op | none => true)
def chkOf (l : List AOper) (ms : List Nat) (j : Nat) : List Nat :=
  match l[j]? with
  | some o => bif isLoad o.op then (List.range (l.length + 1)).filter (fun p => !sameH l j p && mayAt l ms j p) else []
  | none => []

theorem mask_listed {es : List (List Nat)} {ms : List Nat} (h : okMask es ms = true) {m : Nat → Bool} (hm : ∀ j, j < es.length → m j = true → ∀ e ∈ es.getD j [], m e = true) :
    ∀ j, j < es.length → (∀ e ∈ es.getD j [], m e = true) → ∀ i, i < j → bit ms j i = true → m i = true := by
  intro j
  induction j using Nat.strongRecOn with
  | _ j ih =>
    intro hj hr i hi hb
    unfold okMask at h
    rw [List.all_eq_true] at h
    have h1 := h j (List.mem_range.2 hj)
    simp only [Bool.and_eq_true, List.all_eq_true, List.mem_range, Bool.or_eq_true, Bool.not_eq_true', List.any_eq_true] at h1
    obtain ⟨h2, h3⟩ := h1
    rcases h3 i hi with h4 | ⟨e, he, h5⟩
    · rw [hb] at h4; simp at h4
    · have hej : e < j := Nat.le_of_ble_eq_true (h2 e he)
      rcases h5 with h5 | ⟨h5, h6⟩
      · rw [← nb h5]; exact hr e he
      · exact ih e hej (by omega) (hm e (by omega) (hr e he)) i (Nat.le_of_ble_eq_true h5) h6

section
variable (P : Program)
def okDst (n : Nat) : Option Nat → Bool
  | none => true
  | some d => Nat.blt d n
def cGuard (n : Nat) (ops : Array Oper) : Option (Nat × Bool) → Option (Option (Nat × Bool))
  | none => some none
  | some (j, b) => match (ops[j]?).bind (·.dst) with
    | some d => bif Nat.blt d n then some (some (d, b)) else none
    | none => none
def cOper (n : Nat) (ops : Array Oper) (o : Oper) : Option AOper :=
  match cOp P o.op, cGuard n ops o.guard with
  | some a, some g => bif okDst n o.dst then some ⟨o.dst, a, g⟩ else none
  | _, _ => none
def cOpers (n : Nat) (ops : Array Oper) : List Oper → Option (List AOper)
  | [] => some []
  | o :: r => match cOper P n ops o, cOpers n ops r with
    | some a, some l => some (a :: l)
    | _, _ => none
end

section
variable {P : Program} {Prot : Gh} {w0 : World} {ρ : Pl} {H H' : AHeap} {w : World}

theorem put_rel {n : Nat} {T : Tr AVal} {a : Act} (h : TmpsRel ρ n T a.tmps) {dst : Option Nat} (hd : okDst n dst = true) {x : AVal} {v : Value} (hx : VRel ρ x v) : TmpsRel ρ n (aput T dst x) (a.put dst v).tmps := by
  cases dst with
  | none => exact h
  | some d =>
    have hd : d < n := Nat.le_of_ble_eq_true hd
    refine ⟨by simp [Act.put, h.size], fun t => ?_⟩
    simp only [aput, ev, Tr.get_set, Act.put]
    by_cases e : t = d
    · subst e
      rw [if_pos rfl]
      have : t < a.tmps.size := by rw [h.size]; exact hd
      simpa [this] using hx
    · rw [if_neg e]
      have := h.at_ t
      simp only [ev] at this
      rw [Array.getD_eq_getD_getElem?, Array.getElem?_setIfInBounds_ne (fun q => e q.symm), ← Array.getD_eq_getD_getElem?]
      exact this
theorem undef_rel : VRel ρ undefA undef := by simp only [undefA, VRel, undef]; exact ⟨#[], rfl, by simp [VRels]⟩

theorem bool_of {x : AVal} {b : Bool} (h : VRel ρ x (.bool b)) : x = .bool b := by
  cases x with
  | bool c => simp only [VRel, Value.bool.injEq] at h; rw [h]
  | ptr a => cases a <;> simp [VRel] at h
  | slice a n r => cases a with
    | none => simp [VRel] at h
    | some a =>
      simp only [VRel] at h
      obtain ⟨L, _, _, h⟩ := h
      cases r <;> simp [SliceRel] at h
  | map a => cases a <;> simp [VRel] at h
  | val x => simp only [VRel] at h; obtain ⟨rfl, h⟩ := h; simp [opq] at h
  | _ => simp [VRel] at h

theorem guard_ok {n : Nat} {T : Tr AVal} {a : Act} (h : TmpsRel ρ n T a.tmps) {ops : Array Oper} {o : Oper} {g : Option (Nat × Bool)} (hg : cGuard n ops o.guard = some g) : Region.wanted o (yielded ops a.tmps) = gOK T g := by
  unfold Region.wanted
  cases ho : o.guard with
  | none => rw [ho] at hg; simp only [cGuard, Option.some.injEq] at hg; subst hg; rfl
  | some jb =>
    obtain ⟨j, b⟩ := jb
    rw [ho] at hg
    simp only [cGuard] at hg
    split at hg
    · rename_i d hd
      cases hb : Nat.blt d n with
      | false => rw [hb] at hg; simp at hg
      | true =>
        rw [hb] at hg
        simp only [cond_true, Option.some.injEq] at hg
        subst hg
        have hlt : d < a.tmps.size := by rw [h.size]; exact Nat.le_of_ble_eq_true hb
        have hat := h.at_ d
        simp only [yielded, hd, Option.bind_some, gOK]
        rw [Array.getElem?_eq_getElem hlt]
        have e : a.tmps.getD d undef = a.tmps[d] := by simp [hlt]
        rw [e] at hat
        simp only [ev] at hat
        cases hv : a.tmps[d] with
        | bool c =>
          rw [hv] at hat
          have := bool_of hat
          cases hT : T.get d with
          | none => rw [hT] at this; simp [undefA] at this
          | some x =>
            rw [hT] at this
            simp only at this
            subst this
            cases b <;> cases c <;> rfl
        | _ =>
          rw [hv] at hat
          cases hT : T.get d with
          | none => rfl
          | some x =>
            rw [hT] at hat
            simp only at hat ⊢
            cases x <;> first | rfl | (simp [VRel] at hat)
    · simp at hg

/-- what a contract says: any world that fits -/
def CallOK (P : Program) (call : FuncId → List AVal → AHeap → Option (AVal × AHeap)) : Prop :=
  ∀ f args H v H', call f args H = some (v, H') → ∀ Prot w0 ρ w (vs : Array Value), Rel Prot w0 ρ H w → VRels ρ args vs.toList →
    Calls P f vs w fun e w' => ∃ ρ' u, ρ.le ρ' ∧ e = .returned u ∧ Rel Prot w0 ρ' H' w' ∧ VRel ρ' v u

end

theorem opers_at {P : Program} {n : Nat} {ops : Array Oper} : ∀ {rest : List Oper} {l : List AOper}, cOpers P n ops rest = some l → l.length = rest.length ∧ ∀ (j : Nat) (o : Oper), rest[j]? = some o → ∃ a, l[j]? = some a ∧ cOper P n ops o = some a := by
  intro rest
  induction rest with
  | nil => intro l h; simp only [cOpers, Option.some.injEq] at h; subst h; exact ⟨rfl, fun j o h => by simp at h⟩
  | cons o r ih =>
    intro l h
    simp only [cOpers] at h
    split at h
    · rename_i a l' h1 h2
      simp only [Option.some.injEq] at h
      subst h
      obtain ⟨q1, q2⟩ := ih h2
      refine ⟨by simp [q1], fun j o' hj => ?_⟩
      cases j with
      | zero => simp only [List.getElem?_cons_zero, Option.some.injEq] at hj; subst hj; exact ⟨a, rfl, h1⟩
      | succ j => simpa using q2 j o' (by simpa using hj)
    · simp at h

theorem stage_spec (m : Nat → Bool) : ∀ (l : List AOper) (k : Nat), k ≤ stage m k l ∧ stage m k l ≤ k + l.length ∧ (∀ c o, l[c]? = some o → isChain o.op = true → k + c < stage m k l → m (k + c) = true) ∧
    (∀ o, stage m k l < k + l.length → l[stage m k l - k]? = some o → isChain o.op = true ∧ m (stage m k l) = false) := by
  intro l
  induction l with
  | nil => intro k; exact ⟨Nat.le_refl _, Nat.le_refl _, fun c o h => by simp at h, fun o h => by simp [stage] at h⟩
  | cons o r ih =>
    intro k
    simp only [stage]
    cases hb : (isChain o.op && !m k) with
    | true =>
      simp only [cond_true, Bool.and_eq_true, Bool.not_eq_true'] at hb ⊢
      refine ⟨Nat.le_refl _, by simp, fun c o' _ _ h => by omega, fun o' _ h => ?_⟩
      simp only [Nat.sub_self, List.getElem?_cons_zero, Option.some.injEq] at h
      subst h
      exact hb
    | false =>
      simp only [cond_false]
      obtain ⟨h1, h2, h3, h4⟩ := ih (k + 1)
      refine ⟨by omega, by simp only [List.length_cons]; omega, fun c o' hc hch hlt => ?_, fun o' hlt ho => ?_⟩
      · cases c with
        | zero =>
          simp only [List.getElem?_cons_zero, Option.some.injEq] at hc
          subst hc
          rw [hch] at hb
          simpa using hb
        | succ c =>
          rw [show k + (c + 1) = k + 1 + c by omega]
          exact h3 c o' (by simpa using hc) hch (by omega)
      · simp only [List.length_cons] at hlt
        refine h4 o' (by omega) ?_
        rw [show stage m (k + 1) r - k = (stage m (k + 1) r - (k + 1)) + 1 by omega] at ho
        simpa using ho
end Go.Abs
