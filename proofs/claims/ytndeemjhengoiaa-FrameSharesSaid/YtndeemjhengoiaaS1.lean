/- Symbolic runs of the abstract machine, part 1: what must hold ahead of a piece of code for it to end as asked. Plain Lean. -/
import Derived.Test.YtndeemjhengoiaaA12
namespace Go.Abs.S
open Go.Abs

/-! ### temporaries as a function -/
abbrev Env := Nat → AVal
def en (T : Tr AVal) : Env := fun i => ev T (.t i)
def up (T : Env) (i : Nat) (v : AVal) : Env := fun j => bif Nat.beq j i then v else T j
def upO (T : Env) : Option Nat → AVal → Env
  | some d, v => up T d v
  | none, _ => T
theorem en_set (T : Tr AVal) (i : Nat) (v : AVal) : en (T.set i v) = up (en T) i v := by
  funext j
  simp only [en, up, ev, Tr.get_set, beq_dec]
  by_cases h : j = i
  · rw [if_pos h, decide_eq_true h]; rfl
  · rw [if_neg h, decide_eq_false h]; rfl
theorem en_put (T : Tr AVal) (d : Option Nat) (v : AVal) : en (aput T d v) = upO (en T) d v := by
  cases d <;> simp only [aput, upO, en_set]
def sX (T : Env) : Opd → AVal
  | .t i => T i
  | .c v => v
  | .f id => .func (.func id) [] []
def sXs (T : Env) : List Opd → List AVal
  | [] => []
  | x :: r => sX T x :: sXs T r
def sXO (T : Env) : Option Opd → Option AVal
  | none => none
  | some x => some (sX T x)
def sXP (T : Env) : List (Nat × Nat × Opd) → List (Nat × Nat × AVal)
  | [] => []
  | (o, n, x) :: r => (o, n, sX T x) :: sXP T r
theorem sX_en (T : Tr AVal) (x : Opd) : sX (en T) x = ev T x := by cases x <;> rfl
theorem sXs_en (T : Tr AVal) : ∀ l : List Opd, sXs (en T) l = evs T l
  | [] => rfl
  | x :: r => by simp only [sXs, evs, sX_en, sXs_en T r]
theorem sXO_en (T : Tr AVal) (x : Option Opd) : sXO (en T) x = evO T x := by cases x <;> simp only [sXO, evO, sX_en]
theorem sXP_en (T : Tr AVal) : ∀ l : List (Nat × Nat × Opd), sXP (en T) l = evP T l
  | [] => rfl
  | (o, n, x) :: r => by simp only [sXP, evP, sX_en, sXP_en T r]
def sGv (b : Bool) : AVal → Bool
  | .bool c => bif b then c else !c
  | _ => false
def sG (T : Env) : Option (Nat × Bool) → Bool
  | none => true
  | some (t, b) => sGv b (T t)
theorem sG_en (T : Tr AVal) (g : Option (Nat × Bool)) : sG (en T) g = gOK T g := by
  cases g with
  | none => rfl
  | some p =>
    obtain ⟨t, b⟩ := p
    simp only [sG, gOK, en, ev]
    cases T.get t with
    | none => rfl
    | some x => cases x <;> rfl

/-! ### what must hold ahead -/
def OptP {α : Type} (o : Option α) (K : α → Prop) : Prop := ∃ v, o = some v ∧ K v
theorem OptP_some {α : Type} (x : α) (K : α → Prop) : OptP (some x) K = K x := by simp [OptP]
theorem OptP.mono {α : Type} {o : Option α} {K K' : α → Prop} (h : OptP o K) (hk : ∀ v, K v → K' v) : OptP o K' := by
  obtain ⟨v, h1, h2⟩ := h; exact ⟨v, h1, hk v h2⟩
abbrev CS := FuncId → List AVal → AHeap → (AVal → AHeap → Prop) → Prop
section
variable (C : CS)
def wOp (T : Env) (H : AHeap) (K : AVal → AHeap → Prop) : AOp → Prop
  | .mv x => K (sX T x) H
  | .pick c a b => ∃ b', sX T c = .bool b' ∧ K (bif b' then sX T a else sX T b) H
  | .new z => K (oNew H z).1 (oNew H z).2
  | .box x => K (oNew H (sX T x).cells).1 (oNew H (sX T x).cells).2
  | .build z ps => OptP (aBuild z (sXP T ps)) fun v => K v H
  | .buildSl n z ps => OptP (aBuildSl n z H (sXP T ps)) fun p => K p.1 p.2
  | .load a n x => OptP (oLoad a n H (sX T x)) fun v => K v H
  | .store n a x => OptP (oStore n H (sX T a) (sX T x)) fun H' => K undefA H'
  | .nilChk x => OptP (aNilChk (sX T x)) fun v => K v H
  | .bin op x y => OptP (aBin op (sX T x) (sX T y)) fun v => K v H
  | .un op x => OptP (aUn op (sX T x)) fun v => K v H
  | .conv k x => OptP (aConv k (sX T x)) fun v => K v H
  | .convSB x => OptP (aSB H (sX T x)) fun p => K p.1 p.2
  | .convBS x => OptP (aBS H (sX T x)) fun v => K v H
  | .mkFunc fn a b => K (.func fn (sXs T a) (sXs T b)) H
  | .mkIface t x => K (.iface t (sX T x)) H
  | .mkSlice b z l c => OptP (aMake b z H (sX T l) (sX T c)) fun p => K p.1 p.2
  | .sl n x lo hi mx => OptP (aSl n (sX T x) (sXO T lo) (sXO T hi) (sXO T mx)) fun v => K v H
  | .slStr x lo hi => OptP (aSlStr (sX T x) (sXO T lo) (sXO T hi)) fun v => K v H
  | .fieldA o x => OptP (aField o (sX T x)) fun v => K v H
  | .field a n o x => OptP (aFieldV a n o (sX T x)) fun v => K v H
  | .idxA n x i => OptP (aIdxA n (sX T x) (sX T i)) fun v => K v H
  | .idxArr m n x i => OptP (aIdxArr m n (sX T x) (sX T i)) fun v => K v H
  | .idx m n a x i => OptP (aIdx m n a (sX T x) (sX T i)) fun v => K v H
  | .idxS x i => OptP (aIdxS (sX T x) (sX T i)) fun v => K v H
  | .extract i x => OptP (aExtract i (sX T x)) fun v => K v H
  | .append n b s x => OptP (aAppend n b H (sX T s) (sX T x)) fun p => K p.1 p.2
  | .len s x => OptP (aLenK s (sX T x)) fun v => K v H
  | .call f args => C f (sXs T args) H K
  | .callv f args => ∃ g a b, sX T f = .func (.func g) a b ∧ C g (a ++ sXs T args ++ b) H K
  | .pf f xs => OptP (aPf f (sXs T xs)) fun v => K v H
  | .hf f xs => OptP (aHf f H (sXs T xs)) fun p => K p.1 p.2
  | .bad => False
  | .claim b z => OptP (aClaim H b z) fun v => K v H
  | .slA m n x lo hi mx => OptP (aSlArr m n (sX T x) (sXO T lo) (sXO T hi) (sXO T mx)) fun v => K v H

def wRegs : List AOper → Env → AHeap → (Env → AHeap → Prop) → Prop
  | [], T, H, K => K T H
  | o :: r, T, H, K => bif sG T o.guard then wOp C T H (fun v H' => wRegs r (upO T o.dst v) H' K) o.op else wRegs r (upO T o.dst undefA) H K
/-- the run of a region in the text's order, with all that it told -/
def wTr : List AOper → Env → AHeap → (List (AVal × AHeap) → Env → AHeap → Prop) → Prop
  | [], T, H, K => K [] T H
  | o :: r, T, H, K => bif sG T o.guard then wOp C T H (fun v H' => wTr r (upO T o.dst v) H' fun ss => K ((v, H') :: ss)) o.op else wTr r (upO T o.dst undefA) H fun ss => K ((undefA, H) :: ss)
end
/-- what a load tells there -/
def wLd (T : Env) (H : AHeap) : AOp → Option AVal
  | .load a n x => oLoad a n H (sX T x)
  | .claim b z => aClaim H b z
  | _ => none
def wCk (hs : List AHeap) : List AOper → List (List Nat) → List (AVal × AHeap) → Env → Prop
  | o :: os, ps :: pss, (v, _) :: ss, T => (∀ p ∈ ps, ∃ Hp, hs[p]? = some Hp ∧ (sG T o.guard = true → ∃ u, wLd T Hp o.op = some u ∧ aeq u v = true)) ∧ wCk hs os pss ss (upO T o.dst v)
  | _, _, _, _ => True
def wDraw (C : CS) (l : List AOper) (chk : List (List Nat)) (T : Env) (H : AHeap) (K : Env → AHeap → Prop) : Prop := wTr C l T H fun ss T' H' => wCk (H :: ss.map (·.2)) l chk ss T ∧ K T' H'
abbrev Post := AEx → Env → AHeap → Prop
def inBlk (id : Nat) (Q : Post) : Post := fun e T H => match e with
  | .exit j => bif Nat.beq j id then Q .normal T H else Q (.exit j) T H
  | e => Q e T H
def inSeq (Q : Post) (K : Env → AHeap → Prop) : Post := fun e T H => match e with
  | .normal => K T H
  | e => Q e T H
def wp (C : CS) : ACode → Post → Env → AHeap → Prop
  | .skip, Q, T, H => Q .normal T H
  | .reg ops, Q, T, H => wRegs C ops T H (Q .normal)
  | .draw ops chk, Q, T, H => wDraw C (claims H.next ops) chk T (reserves H ops) (Q .normal)
  | .seq a b, Q, T, H => wp C a (inSeq Q (wp C b Q)) T H
  | .cond c a b, Q, T, H => ∃ v, sX T c = .bool v ∧ bif v then wp C a Q T H else wp C b Q T H
  | .block id c, Q, T, H => wp C c (inBlk id Q) T H
  | .loop c, Q, T, H => ∃ (I : Nat → Env → AHeap → Prop), (∃ m, I m T H) ∧ ∀ m T H, I m T H → wp C c (inSeq Q fun T' H' => ∃ m', m' < m ∧ I m' T' H') T H
  | .exit id, Q, T, H => Q (.exit id) T H
  | .ret, Q, T, H => Q .ret T H

/-! ### more fuel, the same run -/
section
variable {tb : FuncId → Bool}
def CLe (c d : FuncId → List AVal → AHeap → Option (AVal × AHeap)) : Prop := ∀ f a H r, c f a H = some r → d f a H = some r
theorem CLe.refl (c) : CLe c c := fun _ _ _ _ h => h
theorem astep_mono {c d} (h : CLe c d) {o : AOper} {T : Tr AVal} {H : AHeap} {r} (e : astep tb c o T H = some r) : astep tb d o T H = some r := by
  unfold astep at e ⊢
  cases hg : gOK T o.guard with
  | false => rw [hg] at e; exact e
  | true =>
    rw [hg] at e
    simp only [cond_true] at e ⊢
    split at e
    · exact e
    · exact h _ _ _ _ e
    · simp at e
theorem aregs_mono {c d} (h : CLe c d) : ∀ (l : List AOper) {T : Tr AVal} {H : AHeap} {r}, aregs tb c l T H = some r → aregs tb d l T H = some r
  | [], _, _, _, e => e
  | o :: l, T, H, r, e => by
    have hs : ∀ c, aregs tb c (o :: l) T H = match astep tb c o T H with | some (v, H') => aregs tb c l (aput T o.dst v) H' | none => none := by
      intro c
      simp only [aregs, astep]
      cases gOK T o.guard with
      | false => rfl
      | true =>
        simp only [cond_true]
        cases aop tb T H o.op with
        | none => rfl
        | some p => obtain ⟨nx, H'⟩ := p; cases nx <;> rfl
    rw [hs] at e ⊢
    split at e
    · rename_i v H' hv
      rw [astep_mono h hv]
      exact aregs_mono h l e
    · simp at e
theorem atrace_mono {c d} (h : CLe c d) : ∀ (l : List AOper) {T : Tr AVal} {H : AHeap} {r}, atrace tb c l T H = some r → atrace tb d l T H = some r
  | [], _, _, _, e => e
  | o :: l, T, H, r, e => by
    simp only [atrace] at e ⊢
    split at e
    · rename_i v H' hv
      rw [astep_mono h hv]
      split at e
      · rename_i s hs
        simp only [atrace_mono h l hs]
        exact e
      · simp at e
    · simp at e
theorem aloop_mono {f g : Tr AVal → AHeap → Option (AEx × Tr AVal × AHeap)} (h : ∀ T H r, f T H = some r → g T H = some r) : ∀ (n m : Nat) (T : Tr AVal) (H : AHeap) (r), n ≤ m → aloop f n T H = some r → aloop g m T H = some r
  | 0, _, _, _, _, _, e => by simp [aloop] at e
  | n + 1, 0, _, _, _, hl, _ => by omega
  | n + 1, m + 1, T, H, r, hl, e => by
    simp only [aloop] at e ⊢
    split at e
    · rename_i T' H' hv
      rw [h _ _ _ hv]
      exact aloop_mono h n m T' H' r (by omega) e
    · rename_i e' T' H' hne hv
      rw [h _ _ _ hv]
      cases e' with
      | normal => exact absurd rfl hne
      | exit i => exact e
      | ret => exact e
    · simp at e
theorem aexec_mono {c d} (h : CLe c d) {k k' : Nat} (hk : k ≤ k') : ∀ (x : ACode) (T : Tr AVal) (H : AHeap) (r), aexec tb c k x T H = some r → aexec tb d k' x T H = some r := by
  intro x
  induction x with
  | skip => intro T H r e; exact e
  | reg l =>
    intro T H r e
    simp only [aexec] at e ⊢
    split at e
    · rename_i T' H' hv; rw [aregs_mono h l hv]; exact e
    · simp at e
  | draw l chk =>
    intro T H r e
    simp only [aexec, adraw] at e ⊢
    split at e
    · rename_i ss hv; rw [atrace_mono h _ hv]; exact e
    · simp at e
  | seq a b iha ihb =>
    intro T H r e
    simp only [aexec] at e ⊢
    split at e
    · rename_i T' H' hv; rw [iha _ _ _ hv]; exact ihb _ _ _ e
    · rename_i e' T' H' hne hv
      rw [iha _ _ _ hv]
      cases e' with
      | normal => exact absurd rfl hne
      | exit i => exact e
      | ret => exact e
    · simp at e
  | cond c a b iha ihb =>
    intro T H r e
    simp only [aexec] at e ⊢
    split at e
    · exact iha _ _ _ e
    · exact ihb _ _ _ e
    · simp at e
  | block id c ih =>
    intro T H r e
    simp only [aexec] at e ⊢
    split at e
    · rename_i j T' H' hv; rw [ih _ _ _ hv]; exact e
    · rename_i e' T' H' hne hv
      rw [ih _ _ _ hv]
      cases e' with
      | exit i => exact absurd rfl (hne i)
      | normal => exact e
      | ret => exact e
    · simp at e
  | loop c ih =>
    intro T H r e
    simp only [aexec] at e ⊢
    exact aloop_mono (fun T H r hr => ih T H r hr) k k' T H r hk e
  | exit id => intro T H r e; exact e
  | ret => intro T H r e; exact e
theorem acall_mono1 {N : ANat} {tab : Tr AFn} : ∀ (n : Nat), CLe (acall N tab n) (acall N tab (n + 1))
  | 0 => fun f a H r e => by simp [acall] at e
  | n + 1 => fun f a H r e => by
    have ih := acall_mono1 (N := N) (tab := tab) n
    rw [acall] at e ⊢
    cases hn : N.is f with
    | true => rw [hn] at e; exact e
    | false =>
      rw [hn] at e
      simp only [cond_false] at e ⊢
      split at e
      · rename_i fn hf
        cases hb : Nat.ble a.length fn.nt with
        | false => rw [hb] at e; simp at e
        | true =>
          rw [hb] at e
          simp only [cond_true] at e ⊢
          split at e
          · simp at e
          · rename_i e' T' H' hne hv
            rw [aexec_mono ih (Nat.le_succ n) _ _ _ _ hv]
            cases e' with
            | exit i => exact (hne i rfl).elim
            | normal => exact e
            | ret => exact e
          · simp at e
      · simp at e
theorem acall_mono {N : ANat} {tab : Tr AFn} {n m : Nat} (h : n ≤ m) : CLe (acall N tab n) (acall N tab m) := by
  induction m with
  | zero => obtain rfl : n = 0 := by omega
            exact CLe.refl _
  | succ m ih =>
    by_cases e : n = m + 1
    · subst e; exact CLe.refl _
    · exact fun f a H r hr => acall_mono1 m _ _ _ _ (ih (by omega) _ _ _ _ hr)
end
end Go.Abs.S
