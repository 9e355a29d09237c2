/- Part of a proof (S2 S3 L1 L2 RDoor); no condition. -/
import Derived.WalkKit
import Derived.Below
import Derived.ChangeSame
import Derived.ReadAgain
import Derived.OpenShut
import Derived.ProofKit
import Derived.LaidLaws
import Derived.LaidHandle
import Derived.Lay
import Derived.Test.YthdkgakoogjoaaaDoorRows
import Derived.Test.YthdkgakoogjoaaaDoorP10
set_option linter.unusedSimpArgs false
set_option linter.unusedVariables false
set_option linter.unnecessarySimpa false
/- Symbolic runs of the abstract machine, part 2: what must hold ahead is enough. Plain Lean. -/
namespace Go.Abs.S
open Go.Abs

/-! ### every function that compiles -/
def tabN (P : Program) : Nat → Tr AFn
  | 0 => .e
  | n + 1 => match cFn P n with
    | some c => (tabN P n).set n c
    | none => tabN P n
def tabP (P : Program) : Tr AFn := tabN P P.funcs.size
theorem tabN_get (P : Program) : ∀ (n f : Nat), (tabN P n).get f = if f < n then cFn P f else none
  | 0, f => by rw [if_neg (by omega)]; cases f <;> rfl
  | n + 1, f => by
    simp only [tabN]
    cases hc : cFn P n with
    | none =>
      simp only [tabN_get P n f]
      by_cases h : f < n
      · rw [if_pos h, if_pos (by omega)]
      · by_cases e : f = n
        · subst e; rw [if_neg h, if_pos (by omega), hc]
        · rw [if_neg h, if_neg (by omega)]
    | some c =>
      simp only [Tr.get_set, tabN_get P n f]
      by_cases e : f = n
      · subst e; rw [if_pos rfl, if_pos (by omega), hc]
      · rw [if_neg e]
        by_cases h : f < n
        · rw [if_pos h, if_pos (by omega)]
        · rw [if_neg h, if_neg (by omega)]
theorem tabP_ok (P : Program) : TabOK P (tabP P) := by
  intro f fn h
  rw [tabP, tabN_get] at h
  split at h
  · exact h
  · simp at h
theorem tabP_get {P : Program} {f : FuncId} {c : AFn} (h : cFn P f = some c) : (tabP P).get f = some c := by
  have hf : f < P.funcs.size := by
    unfold cFn at h
    split at h
    · rename_i fn hfn; exact (Array.getElem?_eq_some_iff.1 hfn).1
    · simp at h
  rw [tabP, tabN_get, if_pos hf, h]

/-- a call tells, with enough fuel -/
def ACalls (P : Program) (N : ANat) (f : FuncId) (args : List AVal) (H : AHeap) (K : AVal → AHeap → Prop) : Prop :=
  ∃ n v H', acall N (tabP P) n f args H = some (v, H') ∧ K v H'
theorem ACalls.mono {P : Program} {N : ANat} {f : FuncId} {args : List AVal} {H : AHeap} {K K' : AVal → AHeap → Prop} (h : ACalls P N f args H K) (hk : ∀ v H', K v H' → K' v H') : ACalls P N f args H K' := by
  obtain ⟨n, v, H', h1, h2⟩ := h; exact ⟨n, v, H', h1, hk _ _ h2⟩

section
variable {P : Program} {N : ANat}
theorem acall_tb {n : Nat} {f : FuncId} {args : List AVal} {H : AHeap} {r} (h : acall N (tabP P) n f args H = some r) : tbA N (tabP P) f = true := by
  cases n with
  | zero => simp [acall] at h
  | succ n =>
    rw [acall] at h
    unfold tbA
    cases hn : N.is f with
    | true => rfl
    | false =>
      rw [hn] at h
      simp only [cond_false] at h ⊢
      cases ht : (tabP P).get f with
      | none => rw [ht] at h; simp at h
      | some c => rfl

theorem wOp_sound {T : Tr AVal} {H : AHeap} {o : AOp} {K : AVal → AHeap → Prop} (h : wOp (ACalls P N) (en T) H K o) :
    (∃ v H', aop (tbA N (tabP P)) T H o = some (.val v, H') ∧ K v H') ∨ (∃ f args H' n v H'', aop (tbA N (tabP P)) T H o = some (.enter f args, H') ∧ acall N (tabP P) n f args H' = some (v, H'') ∧ K v H'') := by
  cases o
  case call f args =>
    right
    simp only [wOp, sXs_en] at h
    obtain ⟨n, v, H', h1, h2⟩ := h
    exact ⟨f, _, H, n, v, H', by simp only [aop, acall_tb h1, cond_true], h1, h2⟩
  case callv f args =>
    right
    simp only [wOp, sX_en, sXs_en] at h
    obtain ⟨g, a, b, hf, n, v, H', h1, h2⟩ := h
    exact ⟨g, _, H, n, v, H', by simp only [aop, hf, acall_tb h1, cond_true], h1, h2⟩
  case pick c a b =>
    simp only [wOp, sX_en] at h
    obtain ⟨b', h1, h2⟩ := h
    exact .inl ⟨_, _, by simp only [aop, h1], h2⟩
  case bad => simp [wOp] at h
  all_goals
    left
    simp only [wOp, sX_en, sXs_en, sXO_en, sXP_en, OptP] at h
    first
      | exact ⟨_, _, rfl, h⟩
      | (obtain ⟨v, h1, h2⟩ := h
         refine ⟨_, _, ?_, h2⟩
         simp only [aop, h1]
         try rfl)

theorem wStep_sound {T : Tr AVal} {H : AHeap} {o : AOper} {K : AVal → AHeap → Prop} (h : wOp (ACalls P N) (en T) H K o.op) (hg : gOK T o.guard = true) :
    ∃ n v H', astep (tbA N (tabP P)) (acall N (tabP P) n) o T H = some (v, H') ∧ K v H' := by
  rcases wOp_sound h with ⟨v, H', h1, h2⟩ | ⟨f, args, H', n, v, H'', h1, h2, h3⟩
  · exact ⟨0, v, H', by simp only [astep, hg, cond_true, h1], h2⟩
  · exact ⟨n, v, H'', by simp only [astep, hg, cond_true, h1, h2], h3⟩
theorem aregs_cons (tb : FuncId → Bool) (c) (o : AOper) (l : List AOper) (T : Tr AVal) (H : AHeap) : aregs tb c (o :: l) T H = match astep tb c o T H with | some (v, H') => aregs tb c l (aput T o.dst v) H' | none => none := by
  simp only [aregs, astep]
  cases gOK T o.guard with
  | false => rfl
  | true =>
    simp only [cond_true]
    cases aop tb T H o.op with
    | none => rfl
    | some p => obtain ⟨nx, H'⟩ := p; cases nx <;> rfl
theorem wRegs_sound : ∀ (l : List AOper) {T : Tr AVal} {H : AHeap} {K : Env → AHeap → Prop}, wRegs (ACalls P N) l (en T) H K →
    ∃ n T' H', aregs (tbA N (tabP P)) (acall N (tabP P) n) l T H = some (T', H') ∧ K (en T') H'
  | [], T, H, K, h => ⟨0, T, H, rfl, h⟩
  | o :: l, T, H, K, h => by
    simp only [wRegs, sG_en] at h
    have : ∃ n v H', astep (tbA N (tabP P)) (acall N (tabP P) n) o T H = some (v, H') ∧ wRegs (ACalls P N) l (upO (en T) o.dst v) H' K := by
      cases hg : gOK T o.guard with
      | true => rw [hg] at h; exact wStep_sound h hg
      | false => rw [hg] at h; exact ⟨0, undefA, H, by simp only [astep, hg, cond_false], h⟩
    obtain ⟨n, v, H', h1, h2⟩ := this
    rw [← en_put] at h2
    obtain ⟨m, T2, H2, h3, h4⟩ := wRegs_sound l h2
    refine ⟨max n m, T2, H2, ?_, h4⟩
    rw [aregs_cons, astep_mono (acall_mono (Nat.le_max_left n m)) h1]
    exact aregs_mono (acall_mono (Nat.le_max_right n m)) l h3
theorem wTr_sound : ∀ (l : List AOper) {T : Tr AVal} {H : AHeap} {K : List (AVal × AHeap) → Env → AHeap → Prop}, wTr (ACalls P N) l (en T) H K → ∀ j,
    ∃ n ss, atrace (tbA N (tabP P)) (acall N (tabP P) n) l T H = some ss ∧ K ss (en (tsel (fun _ => true) j l ss T)) (hAt H ss l.length)
  | [], T, H, K, h, j => ⟨0, [], rfl, h⟩
  | o :: l, T, H, K, h, j => by
    simp only [wTr, sG_en] at h
    have : ∃ n v H', astep (tbA N (tabP P)) (acall N (tabP P) n) o T H = some (v, H') ∧ wTr (ACalls P N) l (upO (en T) o.dst v) H' fun ss => K ((v, H') :: ss) := by
      cases hg : gOK T o.guard with
      | true => rw [hg] at h; exact wStep_sound h hg
      | false => rw [hg] at h; exact ⟨0, undefA, H, by simp only [astep, hg, cond_false], h⟩
    obtain ⟨n, v, H', h1, h2⟩ := this
    rw [← en_put] at h2
    obtain ⟨m, ss, h3, h4⟩ := wTr_sound l h2 (j + 1)
    refine ⟨max n m, (v, H') :: ss, ?_, ?_⟩
    · simp only [atrace, astep_mono (acall_mono (Nat.le_max_left n m)) h1, atrace_mono (acall_mono (Nat.le_max_right n m)) l h3]
    · have hl := (trace_at l _ H' ss 0 h3).1
      have e : hAt H' ss l.length = hAt H ((v, H') :: ss) (o :: l).length := by
        simp only [List.length_cons]
        cases hr : l.length with
        | zero => rfl
        | succ q =>
          simp only [hAt, List.getElem?_cons_succ]
          rw [List.getElem?_eq_getElem (by omega)]
      rw [← e]
      exact h4
theorem wCk_sound {tb : FuncId → Bool} {hs : List AHeap} : ∀ (l : List AOper) (chk : List (List Nat)) (ss : List (AVal × AHeap)) (T : Tr AVal), wCk hs l chk ss (en T) → chkRun tb hs l chk ss T = true
  | [], _, _, _, _ => rfl
  | o :: l, [], _, _, _ => rfl
  | o :: l, p :: ps, [], _, _ => rfl
  | o :: l, p :: ps, (v, Hv) :: ss, T, h => by
    simp only [wCk] at h
    obtain ⟨h1, h2⟩ := h
    simp only [chkRun, Bool.and_eq_true]
    refine ⟨List.all_eq_true.2 fun q hq => ?_, wCk_sound l ps ss _ (by rw [en_put]; exact h2)⟩
    obtain ⟨Hp, e1, e2⟩ := h1 q hq
    rw [e1]
    simp only
    cases hg : gOK T o.guard with
    | false => rfl
    | true =>
      obtain ⟨u, u1, u2⟩ := e2 (by rw [sG_en]; exact hg)
      simp only [cond_true]
      cases ho : o.op <;> rw [ho] at u1 <;> simp only [wLd, reduceCtorEq, sX_en] at u1
      · simp only [aop, u1, vv]; exact u2
      · simp only [aop, u1, vv]; exact u2
theorem inSeq_sound {Q : Post} {K : Env → AHeap → Prop} {e : AEx} {T : Env} {H : AHeap} (h : inSeq Q K e T H) : (e = .normal ∧ K T H) ∨ (e ≠ .normal ∧ Q e T H) := by
  cases e with
  | normal => exact .inl ⟨rfl, h⟩
  | exit i => exact .inr ⟨by simp, h⟩
  | ret => exact .inr ⟨by simp, h⟩
theorem wp_sound : ∀ (c : ACode) (Q : Post) (T : Tr AVal) (H : AHeap), wp (ACalls P N) c Q (en T) H →
    ∃ n e T' H', aexec (tbA N (tabP P)) (acall N (tabP P) n) n c T H = some (e, T', H') ∧ Q e (en T') H' := by
  intro c
  induction c with
  | skip => intro Q T H h; exact ⟨0, _, _, _, rfl, h⟩
  | reg l =>
    intro Q T H h
    obtain ⟨n, T', H', h1, h2⟩ := wRegs_sound l h
    exact ⟨n, .normal, T', H', by simp only [aexec, h1], h2⟩
  | draw l chk =>
    intro Q T H h
    simp only [wp, wDraw] at h
    obtain ⟨n, ss, h1, h2, h3⟩ := wTr_sound (claims H.next l) h 0
    exact ⟨n, .normal, _, _, by simp only [aexec, adraw, h1, wCk_sound (claims H.next l) chk ss T h2, cond_true], h3⟩
  | seq a b iha ihb =>
    intro Q T H h
    obtain ⟨n, e, T1, H1, h1, h2⟩ := iha _ T H h
    rcases inSeq_sound h2 with ⟨rfl, h2⟩ | ⟨hne, h2⟩
    · obtain ⟨m, e2, T2, H2, h3, h4⟩ := ihb _ T1 H1 h2
      refine ⟨max n m, e2, T2, H2, ?_, h4⟩
      simp only [aexec, aexec_mono (acall_mono (Nat.le_max_left n m)) (Nat.le_max_left n m) a _ _ _ h1]
      exact aexec_mono (acall_mono (Nat.le_max_right n m)) (Nat.le_max_right n m) b _ _ _ h3
    · refine ⟨n, e, T1, H1, ?_, h2⟩
      cases e with
      | normal => exact absurd rfl hne
      | exit i => simp only [aexec, h1]
      | ret => simp only [aexec, h1]
  | cond c a b iha ihb =>
    intro Q T H h
    simp only [wp, sX_en] at h
    obtain ⟨v, hv, h⟩ := h
    cases v with
    | true =>
      obtain ⟨n, e, T1, H1, h1, h2⟩ := iha _ T H h
      exact ⟨n, e, T1, H1, by simp only [aexec, hv, h1], h2⟩
    | false =>
      obtain ⟨n, e, T1, H1, h1, h2⟩ := ihb _ T H h
      exact ⟨n, e, T1, H1, by simp only [aexec, hv, h1], h2⟩
  | block id c ih =>
    intro Q T H h
    obtain ⟨n, e, T1, H1, h1, h2⟩ := ih _ T H h
    cases e with
    | exit j =>
      simp only [inBlk] at h2
      cases hb : Nat.beq j id with
      | true => rw [hb] at h2; exact ⟨n, .normal, T1, H1, by simp only [aexec, h1, hb, cond_true], h2⟩
      | false => rw [hb] at h2; exact ⟨n, .exit j, T1, H1, by simp only [aexec, h1, hb, cond_false], h2⟩
    | normal => exact ⟨n, .normal, T1, H1, by simp only [aexec, h1], h2⟩
    | ret => exact ⟨n, .ret, T1, H1, by simp only [aexec, h1], h2⟩
  | loop c ih =>
    intro Q T H h
    simp only [wp] at h
    obtain ⟨I, ⟨m, hm⟩, hI⟩ := h
    have key : ∀ (m : Nat) (T : Tr AVal) (H : AHeap), I m (en T) H → ∃ n e T' H', aexec (tbA N (tabP P)) (acall N (tabP P) n) n (.loop c) T H = some (e, T', H') ∧ Q e (en T') H' := by
      intro m
      induction m using Nat.strongRecOn with
      | ind m ihm =>
        intro T H hi
        obtain ⟨n, e, T1, H1, h1, h2⟩ := ih _ T H (hI m _ _ hi)
        rcases inSeq_sound h2 with ⟨rfl, m', hm', h2⟩ | ⟨hne, h2⟩
        · obtain ⟨k, e2, T2, H2, h3, h4⟩ := ihm m' hm' T1 H1 h2
          refine ⟨max n k + 1, e2, T2, H2, ?_, h4⟩
          simp only [aexec, aloop]
          rw [aexec_mono (acall_mono (show n ≤ max n k + 1 by omega)) (show n ≤ max n k + 1 by omega) c _ _ _ h1]
          simp only [aexec] at h3
          exact aloop_mono (fun T H r hr => aexec_mono (acall_mono (show k ≤ max n k + 1 by omega)) (show k ≤ max n k + 1 by omega) c T H r hr) k (max n k) T1 H1 _ (Nat.le_max_right n k) h3
        · refine ⟨n + 1, e, T1, H1, ?_, h2⟩
          simp only [aexec, aloop]
          rw [aexec_mono (acall_mono (Nat.le_succ n)) (Nat.le_succ n) c _ _ _ h1]
          cases e with
          | normal => exact absurd rfl hne
          | exit i => rfl
          | ret => rfl
    exact key m T H hm
  | exit id => intro Q T H h; exact ⟨0, _, _, _, rfl, h⟩
  | ret => intro Q T H h; exact ⟨0, _, _, _, rfl, h⟩

/-! ### functions -/
def argE (args : List AVal) : Env := fun i => match args[i]? with
  | some v => v
  | none => undefA
theorem putArgs_en : ∀ (args : List AVal) (i : Nat) (T : Tr AVal), en (putArgs args i T) = fun j => if i ≤ j then (match args[j - i]? with | some v => v | none => en T j) else en T j
  | [], i, T => by funext j; simp [putArgs]
  | x :: r, i, T => by
    rw [putArgs, putArgs_en r (i + 1), en_set]
    funext j
    by_cases h : i + 1 ≤ j
    · rw [if_pos h, if_pos (by omega), show j - i = (j - (i + 1)) + 1 by omega]
      simp only [List.getElem?_cons_succ]
      split
      · rfl
      · have hb : Nat.beq j i = false := by rw [beq_dec]; exact decide_eq_false (by omega)
        simp only [up, hb, cond_false]
    · rw [if_neg h]
      by_cases e : i = j
      · subst e
        simp [up]
      · rw [if_neg (by omega)]
        have hb : Nat.beq j i = false := by rw [beq_dec]; exact decide_eq_false (by omega)
        simp only [up, hb, cond_false]
theorem putArgs_e (args : List AVal) : en (putArgs args 0 .e) = argE args := by
  rw [putArgs_en]
  funext j
  simp only [Nat.zero_le, if_true, Nat.sub_zero, argE]
  split
  · rfl
  · rfl
def wRes (T : Env) (H : AHeap) : List ARes → Option (List AVal)
  | [] => some []
  | .t i :: r => match wRes T H r with
    | some l => some (T i :: l)
    | none => none
  | .cell g n i :: r => match oLoad g n H (T i), wRes T H r with
    | some x, some l => some (x :: l)
    | _, _ => none
theorem wRes_en (T : Tr AVal) (H : AHeap) : ∀ l : List ARes, wRes (en T) H l = ares T H l
  | [] => rfl
  | .t i :: r => by simp only [wRes, ares, wRes_en T H r]; rfl
  | .cell g n i :: r => by simp only [wRes, ares, wRes_en T H r]; rfl
def fin (res : List ARes) (K : AVal → AHeap → Prop) : Post := fun e T H => match e with
  | .exit _ => False
  | _ => OptP (wRes T H res) fun l => K (aresV l) H
theorem acalls_of {f : FuncId} {c : AFn} {args : List AVal} {H : AHeap} {K : AVal → AHeap → Prop} (hn : N.is f = false) (hc : cFn P f = some c) (hl : Nat.ble args.length c.nt = true) (h : wp (ACalls P N) c.body (fin c.res K) (argE args) H) : ACalls P N f args H K := by
  rw [← putArgs_e] at h
  obtain ⟨n, e, T', H', h1, h2⟩ := wp_sound _ _ _ _ h
  have : ∃ l, ares T' H' c.res = some l ∧ K (aresV l) H' ∧ ∀ i, e ≠ .exit i := by
    cases e with
    | exit i => exact h2.elim
    | normal => obtain ⟨l, q1, q2⟩ := h2; rw [wRes_en] at q1; exact ⟨l, q1, q2, fun i => by simp⟩
    | ret => obtain ⟨l, q1, q2⟩ := h2; rw [wRes_en] at q1; exact ⟨l, q1, q2, fun i => by simp⟩
  obtain ⟨l, q1, q2, q3⟩ := this
  refine ⟨n + 1, aresV l, H', ?_, q2⟩
  rw [acall, hn, tabP_get hc]
  simp only [cond_false, hl, cond_true, h1]
  cases e with
  | exit i => exact absurd rfl (q3 i)
  | normal => simp only [q1]
  | ret => simp only [q1]
theorem acalls_nat {f : FuncId} {args : List AVal} {H H' : AHeap} {v : AVal} {K : AVal → AHeap → Prop} (hn : N.is f = true) (hr : N.run f args H = some (v, H')) (hk : K v H') : ACalls P N f args H K :=
  ⟨1, v, H', by rw [acall, hn]; exact hr, hk⟩
/-- from a symbolic run to the model's -/
theorem ACalls.calls (hfol : P.follows .mixedOrders = true) (hN : NatOK P N) {f : FuncId} {args : List AVal} {H : AHeap} {K : AVal → AHeap → Prop} (h : ACalls P N f args H K)
    {Prot : Gh} {w0 w : World} {ρ : Pl} {vs : Array Value} (R : Rel Prot w0 ρ H w) (hv : VRels ρ args vs.toList) :
    Calls P f vs w fun e w' => ∃ ρ' v H' u, ρ.le ρ' ∧ e = .returned u ∧ K v H' ∧ Rel Prot w0 ρ' H' w' ∧ VRel ρ' v u := by
  obtain ⟨n, v, H', h1, h2⟩ := h
  refine (acall_ok hfol hN (tabP_ok P) n _ _ _ _ _ h1 _ _ _ _ _ R hv).mono fun e w' hx => ?_
  obtain ⟨ρ', u, q1, rfl, q2, q3⟩ := hx
  exact ⟨ρ', v, H', u, q1, rfl, h2, q2, q3⟩
end
end Go.Abs.S
/- Symbolic runs of the abstract machine, part 3: any world as a heap to begin with: all its rows of cells, to be read alone. Plain Lean. -/
namespace Go.Abs.S
open Go.Abs

theorem junks {ρ : Pl} {p : Value → Prop} (h : ∀ v, p v → ∃ x, ∀ ρ, VRel ρ x v) : ∀ (vs : List Value), (∀ v ∈ vs, p v) → ∃ l, ∀ ρ, VRels ρ l vs
  | [], _ => ⟨[], fun ρ => by simp [VRels]⟩
  | v :: vs, hv => by
    obtain ⟨x, hx⟩ := h v (hv v (by simp))
    obtain ⟨l, hl⟩ := junks (ρ := ρ) h vs fun u hu => hv u (by simp [hu])
    exact ⟨x :: l, fun ρ => by simp only [VRels]; exact ⟨v, vs, rfl, hx ρ, hl ρ⟩⟩
theorem junk : ∀ (n : Nat) (v : Value), SizeOf.sizeOf v ≤ n → ∃ x, ∀ ρ, VRel ρ x v := by
  intro n
  induction n with
  | zero => intro v h; cases v <;> simp at h
  | succ n ih =>
    intro v h
    cases v
    case bool b => exact ⟨.bool b, fun ρ => by simp [VRel]⟩
    case agg vs =>
      obtain ⟨l, hl⟩ := junks (ρ := fun _ _ => none) (p := fun v => SizeOf.sizeOf v ≤ n) ih vs.toList fun v hv => by
        have := Array.sizeOf_lt_of_mem (Array.mem_toList_iff.1 hv)
        simp at h; omega
      exact ⟨.agg l, fun ρ => by simp only [VRel]; exact ⟨vs, rfl, hl ρ⟩⟩
    case tuple vs =>
      obtain ⟨l, hl⟩ := junks (ρ := fun _ _ => none) (p := fun v => SizeOf.sizeOf v ≤ n) ih vs.toList fun v hv => by
        have := Array.sizeOf_lt_of_mem (Array.mem_toList_iff.1 hv)
        simp at h; omega
      exact ⟨.tuple l, fun ρ => by simp only [VRel]; exact ⟨vs, rfl, hl ρ⟩⟩
    all_goals exact ⟨.val _, fun ρ => by simp only [VRel]; exact ⟨rfl, rfl⟩⟩
noncomputable def junkOf (v : Value) : AVal := Classical.choose (junk (SizeOf.sizeOf v) v (Nat.le_refl _))
theorem junkOf_rel (v : Value) (ρ : Pl) : VRel ρ (junkOf v) v := Classical.choose_spec (junk (SizeOf.sizeOf v) v (Nat.le_refl _)) ρ

/-- how many cells a block has, if it is of cells -/
def rowOf (w : World) (c : Nat) : Option Nat := match w.heap[c]? with
  | some (.cells C _ _) => some C.size
  | _ => none
/-- a value of that world's, as the abstract machine has it -/
noncomputable def absW (w : World) : Value → AVal
  | .bool b => .bool b
  | .int k n => .int k n
  | .string s => .str s.data.toList
  | .pointer none => .ptr none
  | .pointer (some ⟨c, off, none⟩) => match rowOf w c with
    | some n => .ptr (some ⟨c, n, off⟩)
    | none => junkOf (.pointer (some ⟨c, off, none⟩))
  | .slice none 0 0 => .slice none 0 (.known 0)
  | .slice (some ⟨c, off, none⟩) len cap => if len ≤ cap then (match rowOf w c with
    | some n => .slice (some ⟨c, n, off⟩) len (.known cap)
    | none => junkOf (.slice (some ⟨c, off, none⟩) len cap)) else junkOf (.slice (some ⟨c, off, none⟩) len cap)
  | .map none => .map none
  | .nilFunc => .nilFunc
  | .nilIface => .nilIface
  | v => junkOf v
/-- where its blocks lie: in themselves -/
def plW (w : World) : Pl := fun b l => match rowOf w b with
  | some n => if l = n then some ⟨b, 0, n, false⟩ else none
  | none => none
theorem plW_some {w : World} {b n : Nat} (h : rowOf w b = some n) : plW w b n = some ⟨b, 0, n, false⟩ := by simp [plW, h]
theorem strOf_data (s : ByteArray) : strOf s.data.toList = s := by cases s; simp [strOf]
theorem absW_rel (w : World) (v : Value) : VRel (plW w) (absW w v) v := by
  unfold absW
  split
  · simp [VRel]
  · simp [VRel]
  · simp [VRel, strOf_data]
  · simp [VRel]
  · split
    · rename_i n hn
      simp only [VRel]
      exact ⟨_, plW_some hn, Nat.zero_le _, by simp⟩
    · exact junkOf_rel _ _
  · simp [VRel]
  · split
    · rename_i hl
      split
      · rename_i n hn
        simp only [VRel]
        exact ⟨_, plW_some hn, Nat.zero_le _, by simp only [SliceRel]; exact ⟨hl, by simp⟩⟩
      · exact junkOf_rel _ _
    · exact junkOf_rel _ _
  · simp [VRel]
  · simp [VRel]
  · simp [VRel]
  · exact junkOf_rel _ _

/-! ### the heap -/
noncomputable def objW (w : World) (c : Nat) : Option AObj := match w.heap[c]? with
  | some (.cells C _ _) => some (.cells (C.toList.map (absW w)) 0 true)
  | _ => none
noncomputable def trW (w : World) : Nat → Tr AObj
  | 0 => .e
  | n + 1 => match objW w n with
    | some o => (trW w n).set n o
    | none => trW w n
theorem trW_get (w : World) : ∀ (n b : Nat), (trW w n).get b = if b < n then objW w b else none
  | 0, b => by rw [if_neg (by omega)]; cases b <;> rfl
  | n + 1, b => by
    simp only [trW]
    cases hc : objW w n with
    | none =>
      simp only [trW_get w n b]
      by_cases h : b < n
      · rw [if_pos h, if_pos (by omega)]
      · by_cases e : b = n
        · subst e; rw [if_neg h, if_pos (by omega), hc]
        · rw [if_neg h, if_neg (by omega)]
    | some c =>
      simp only [Tr.get_set, trW_get w n b]
      by_cases e : b = n
      · subst e; rw [if_pos rfl, if_pos (by omega), hc]
      · rw [if_neg e]
        by_cases h : b < n
        · rw [if_pos h, if_pos (by omega)]
        · rw [if_neg h, if_neg (by omega)]
noncomputable def heapW (w : World) : AHeap := ⟨w.heap.size, trW w w.heap.size⟩
theorem heapW_get (w : World) (b : Nat) : (heapW w).get b = objW w b := by
  show (trW w w.heap.size).get b = _
  rw [trW_get]
  by_cases h : b < w.heap.size
  · rw [if_pos h]
  · rw [if_neg h]
    unfold objW
    rw [Array.getElem?_eq_none (by omega)]
theorem objW_some {w : World} {c n : Nat} (h : rowOf w c = some n) : ∃ C e fz, w.heap[c]? = some (.cells C e fz) ∧ C.size = n ∧ objW w c = some (.cells (C.toList.map (absW w)) 0 true) := by
  unfold rowOf at h
  unfold objW
  split at h
  · rename_i C e fz hC
    simp only [Option.some.injEq] at h
    exact ⟨C, e, fz, hC, h, rfl⟩
  · simp at h
theorem plW_inv {w : World} {b l : Nat} {L : Loc} (h : plW w b l = some L) : rowOf w b = some l ∧ L = ⟨b, 0, l, false⟩ := by
  unfold plW at h
  split at h
  · rename_i n hn
    split at h
    · rename_i e; subst e; simp only [Option.some.injEq] at h; exact ⟨hn, h.symm⟩
    · simp at h
  · simp at h
theorem objW_ro {w : World} {b : Nat} {x : AObj} (h : objW w b = some x) : x.rw = false := by
  unfold objW at h
  split at h
  · simp only [Option.some.injEq] at h; subst h; rfl
  · simp at h
theorem rel_world (w : World) : Rel ⟨fun c => c < w.heap.size, fun _ => False⟩ w (plW w) (heapW w) w := by
  refine ⟨rfl, rfl, rfl, Nat.le_refl _, fun _ hc => ⟨hc, rfl⟩, fun b l L h => ?_, fun b l L h => ?_, fun b l L x h hx hr => ?_, fun b l L b' l' L' x h h' he hx hr => ?_, fun _ h => h.elim, fun b l low h => ?_⟩
  · obtain ⟨h1, rfl⟩ := plW_inv h
    obtain ⟨C, e, fz, h2, _, _⟩ := objW_some h1
    have := (Array.getElem?_eq_some_iff.1 h2).1
    exact ⟨this, this⟩
  · obtain ⟨h1, rfl⟩ := plW_inv h
    obtain ⟨C, e, fz, h2, h3, h4⟩ := objW_some h1
    obtain ⟨lo, hi⟩ := fz
    refine ⟨_, _, by rw [heapW_get, h4], h2, ?_⟩
    simp only [ORel]
    refine ⟨C, e, lo, hi, rfl, h3, fun h => by simp at h, by simp; omega, fun _ i _ hi => ?_⟩
    have hlt : i < C.size := by omega
    refine ⟨absW w C[i], C[i], ?_, by simp [hlt], absW_rel w _⟩
    simp [hlt]
  · rw [heapW_get] at hx
    rw [objW_ro hx] at hr
    simp at hr
  · rw [heapW_get] at hx
    rw [objW_ro hx] at hr
    simp at hr
  · rw [heapW_get] at h
    have hr : rowOf w b = some l.length := by
      unfold objW at h
      unfold rowOf
      split at h
      · rename_i C e fz hC
        simp only [Option.some.injEq, AObj.cells.injEq] at h
        simp [← h.1]
      · simp at h
    exact ⟨_, plW_some hr, rfl, rfl⟩
end Go.Abs.S
/- A law that returns true and turns nothing that was there: its row's post holds, whatever its arguments are. -/
namespace Go.Abs
open Go.ChangeShapes Go.WideShapes Go.ChangeAt Go.RowKit
section
variable {H : Type} {enc : TypeId × Value → H} {P : Program}
theorem trodAll_below {W W' : World} {base : Nat} {sp : Nat → Bool} {held : Bool} (hb : Below W.heap.size W W') : ∀ {ts : List TypeId} {vs : List Value} {ds : List (DataW H)} {ps : List MemPlace},
    DataW.TrodAll enc P W base sp held ts vs ds ps → DataW.TrodAll enc P W' base sp held ts vs ds ps
  | [], [], [], _, h => h
  | _ :: _, _ :: _, _ :: _, _, ⟨p, q, ⟨n, h1⟩, h2, e⟩ => by
    refine ⟨p, q, ⟨n, DataW.trod_carry n _ _ _ h1 fun x hx => hb.same (DataW.trod_lt n _ _ _ h1 x hx)⟩, trodAll_below hb h2, e⟩
theorem trodVars_below {W W' : World} {sp : Nat → Bool} {gs : List (DataW H)} {q : List MemPlace} (h : DataW.TrodVars enc P W sp [] gs q) : DataW.TrodVars enc P W' sp [] gs q := by
  obtain ⟨rfl, rfl⟩ := trodVars_none h
  exact h
theorem law_post {f : Func} {s : ChangeSpec} {apart : Bool} {W W' : World} {args : Array Value} {ds gs : List (DataW H)} {before : List MemPlace} {tb : TypeId}
    (hl : laidOutB P = true) (hm : mapsRowed P = true)
    (hz : ((List.range P.types.size).all fun t => match P.underlying t with | some (.slice e) => decide (0 < P.cellsOf e) | _ => true) = true)
    (hts : (f.params.toList.all fun t => decide (t < P.types.size)) = true) (hv : s.vars = [])
    (hW : DataW.Whole enc P f.params.toList s.vars apart W args.toList ds gs before)
    (hfn : s.fn H (ds ++ gs) = { results := [.lit (.bool true)], args := ds }) (hr : f.resultTypes = #[tb]) (ht : P.underlying tb = some .bool) (hb : Below W.heap.size W W') :
    s.post enc P f apart true false false W args (.bool true) W' := by
  have hlt : ∀ p ∈ before, p.block < W.heap.size := fun p hp => hW.lt p hp
  have hW0 := hW
  obtain ⟨p, q, hA, hV, rfl, hfz, hnd⟩ := hW
  rw [hv] at hV
  obtain ⟨rfl, rfl⟩ := trodVars_none hV
  have hT : ∀ t ∈ f.params.toList, t < P.types.size := fun t ht => by simpa using List.all_eq_true.1 hts t ht
  refine ⟨ds, [], p ++ [], [], p, [], hW0, ?_, ?_, ?_, World.keptBut_mono (fun x hx => ⟨hx, by simpa using hx⟩) (hb.frame (· ∈ p ++ [])), fun h => by simp at h⟩
  · rw [hfn, hr]
    exact trodAll_cons_mk (shut_bool ht _) trodAll_mk0
  · rw [hfn]
    refine trodAll_below hb (DataW.TrodAll.respare (kids_rows hl hm) (slices_full_of P hz) hT hA fun x hx => ?_)
    simpa using hlt x (by simpa using hx)
  · rw [hfn, hv]
    exact trodVars_below (W := W) hV
end
end Go.Abs
/- What a row's premise on package-level variables gives. Plain Lean. -/
namespace Go.Abs
open Go.ChangeShapes Go.WideShapes Go.RowKit
/-- an array of whole numbers that reads as it should holds them -/
theorem ints_of_trod {H : Type} {enc : TypeId × Value → H} {P : Program} {w : World} {base : Nat} {spare : Nat → Bool} {held : Bool} {fuel n : Nat} {t e : TypeId} {k : IntKind} {cs : List Value} {p : List MemPlace} {l : List Int}
    (ht : P.underlying t = some (.array n e)) (he : P.underlying e = some (.int k)) (hc : P.cellsOf e = 1) (hct : P.cellsOf t = n)
    (h : DataW.trod enc P w base spare held fuel t cs = some (.agg (l.map fun x => .lit (.int k x)), p)) : cs = l.map (.int k) := by
  obtain ⟨xs, m, _, hx, hl, hn, hi⟩ := DataW.trod_array ht h
  simp only [Prod.mk.injEq, DataW.agg.injEq] at hx
  have hll : l.length = n := by
    have := congrArg List.length hx.1
    simp at this; omega
  apply List.ext_getElem?
  intro i
  by_cases hlt : i < n
  · have h1 := hi i hlt
    rw [hc, Nat.mul_one] at h1
    have hxi : ∃ x, xs[i]? = some x := ⟨xs[i]'(by omega), List.getElem?_eq_getElem _⟩
    obtain ⟨x, hxi⟩ := hxi
    rw [hxi] at h1
    obtain ⟨y, hy, hyx, _⟩ := DataW.trod_int he h1
    have hli : l[i]? = some (l[i]'(by omega)) := List.getElem?_eq_getElem _
    have h2 := congrArg (·[i]?) hx.1
    simp only [List.getElem?_map, hxi, hli, Option.map_some, Option.some.injEq, hyx] at h2
    simp only [DataW.lit.injEq, Lit.int.injEq, true_and] at h2
    have h3 : cs[i]? = some (.int k y) := by
      have := congrArg (·[0]?) hy
      simpa [List.getElem?_take, List.getElem?_drop] using this
    rw [h3, List.getElem?_map, hli, ← h2]
    rfl
  · rw [List.getElem?_eq_none (by omega), List.getElem?_eq_none (by simp; omega)]
theorem var_row {P : Program} {w : World} {n : String} {g : Nat} {cs : Array Value} (hg : P.globalNamed n = some g) (h : w.var? P n = some cs) : ∃ e fz, w.heap[g]? = some (.cells cs e fz) := by
  simp only [World.var?, hg, Option.bind_some] at h
  split at h
  · rename_i C e fz hC
    simp only [Option.some.injEq] at h
    subst h
    exact ⟨_, _, hC⟩
  · simp at h
theorem ints_vrels (k : IntKind) : ∀ (l : List Int) (ρ : Pl), VRels ρ (l.map (.int k)) (l.map (Value.int k))
  | [], ρ => by simp [VRels]
  | x :: l, ρ => by simp only [List.map_cons, VRels]; exact ⟨_, _, rfl, by simp only [VRel], ints_vrels k l ρ⟩
/-- the same, as a heap to begin with holds it -/
theorem ints_vrels_of {k : IntKind} {cs : Array Value} {l : List Int} (h : cs.toList = l.map (Value.int k)) (ρ : Pl) : VRels ρ (l.map (.int k)) cs.toList := by
  rw [h]; exact ints_vrels k l ρ
end Go.Abs
/- Reply: what the row's premise on package-level variables gives; a start that meets it. Plain Lean. -/
namespace Go.Proofs.YthdkgakoogjoaaaDoor
open Go.ChangeShapes Go.WideShapes Go.RowKit
open Go.Abs Go.Abs.S
theorem own : ownKnob Tryd.prog.godebug = none := by kernel_rfl
def powL : List Int := [1, 10, 100, 1000, 10000, 100000, 1000000, 10000000, 100000000, 1000000000, 10000000000, 100000000000, 1000000000000, 10000000000000, 100000000000000, 1000000000000000, 10000000000000000, 100000000000000000, 1000000000000000000, 10000000000000000000]
def b64L : List Int := [0, 1, 56, 2, 57, 49, 28, 3, 61, 58, 42, 50, 38, 29, 17, 4, 62, 47, 59, 36, 45, 43, 51, 22, 53, 39, 33, 30, 24, 18, 12, 5, 63, 55, 48, 27, 60, 41, 37, 16, 46, 35, 44, 21, 52, 32, 23, 11, 54, 26, 40, 15, 34, 20, 31, 10, 25, 14, 19, 9, 13, 8, 7, 6]
def gl : List (Nat × List AVal) := [(0, powL.map (.int .u64)), (3, b64L.map (.int .u8))]
abbrev laidL : List (String × DataW Unit) := Rows.replyNumbersRow.laid
set_option maxRecDepth 100000 in
theorem holds_of_laid {W : World} (h : laidMetH Tryd.prog laidL W) : GHolds W 4 gl := by
  have h' : laidMet Tryd.prog laidL W := h
  obtain ⟨ps, hl, _, _⟩ := h'
  obtain ⟨_, _, _, _, _, _, _, _, _, _, hl, _⟩ := hl
  obtain ⟨g3, t3, cs3, f3, p3, q3, hg3, ht3, hv3, htr3, hl, _⟩ := hl
  obtain ⟨g0, t0, cs0, f0, p0, q0, hg0, ht0, hv0, htr0, _, _⟩ := hl
  have e1 : some 3 = some g3 := Eq.trans (by kernel_rfl) hg3
  simp only [Option.some.injEq] at e1
  subst e1
  have e2 : some 103 = some t3 := Eq.trans (by kernel_rfl) ht3
  simp only [Option.some.injEq] at e2
  subst e2
  have e3 : some 0 = some g0 := Eq.trans (by kernel_rfl) hg0
  simp only [Option.some.injEq] at e3
  subst e3
  have e4 : some 79 = some t0 := Eq.trans (by kernel_rfl) ht0
  simp only [Option.some.injEq] at e4
  subst e4
  have hc3 := ints_of_trod (l := b64L) Tryd.underlying103 (k := .u8) Tryd.underlying5 (by kernel_rfl) (by kernel_rfl) htr3
  have hc0 := ints_of_trod (l := powL) Tryd.underlying79 (k := .u64) Tryd.underlying57 (by kernel_rfl) (by kernel_rfl) htr0
  obtain ⟨x3, z3, r3⟩ := var_row hg3 hv3
  obtain ⟨x0, z0, r0⟩ := var_row hg0 hv0
  have l3 := (Array.getElem?_eq_some_iff.1 r3).1
  refine ⟨by omega, fun p hp => ?_⟩
  have hp' : p = (0, powL.map (.int .u64)) ∨ p = (3, b64L.map (.int .u8)) := by simpa [gl] using hp
  rcases hp' with rfl | rfl
  · exact ⟨by show (0 : Nat) < 4; omega, _, _, _, r0, ints_vrels_of hc0⟩
  · exact ⟨by show (3 : Nat) < 4; omega, _, _, _, r3, ints_vrels_of hc3⟩
end Go.Proofs.YthdkgakoogjoaaaDoor
