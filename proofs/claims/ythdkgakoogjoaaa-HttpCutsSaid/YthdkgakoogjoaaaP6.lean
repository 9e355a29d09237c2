/- Part of a proof (S2 S3 S4 S5 N0 S6 S7 S8 S9 S10 S11); no condition. -/
import Derived.IntWalk
import Derived.Below
import Derived.OpenShut
import Derived.ChangeSlices
import Derived.WideShapes
import Derived.SizedLaws
import Derived.Test.YthdkgakoogjoaaaP5
set_option linter.unusedSimpArgs false
set_option linter.unusedVariables false
set_option linter.unnecessarySimpa false
/- Symbolic runs of the abstract machine, part 2: what must hold ahead is enough. Plain Lean. -/
namespace Go.Abs.S
open Go.Abs

/-! ### every function that compiles -/
def tabN (P : Program) : Nat → Tr AFn
  | 0 => .e
  | n + 1 => match cFn P n with
    | some c => (tabN P n).set n c
    | none => tabN P n
def tabP (P : Program) : Tr AFn := tabN P P.funcs.size
theorem tabN_get (P : Program) : ∀ (n f : Nat), (tabN P n).get f = if f < n then cFn P f else none
  | 0, f => by rw [if_neg (by omega)]; cases f <;> rfl
  | n + 1, f => by
    simp only [tabN]
    cases hc : cFn P n with
    | none =>
      simp only [tabN_get P n f]
      by_cases h : f < n
      · rw [if_pos h, if_pos (by omega)]
      · by_cases e : f = n
        · subst e; rw [if_neg h, if_pos (by omega), hc]
        · rw [if_neg h, if_neg (by omega)]
    | some c =>
      simp only [Tr.get_set, tabN_get P n f]
      by_cases e : f = n
      · subst e; rw [if_pos rfl, if_pos (by omega), hc]
      · rw [if_neg e]
        by_cases h : f < n
        · rw [if_pos h, if_pos (by omega)]
        · rw [if_neg h, if_neg (by omega)]
theorem tabP_ok (P : Program) : TabOK P (tabP P) := by
  intro f fn h
  rw [tabP, tabN_get] at h
  split at h
  · exact h
  · simp at h
theorem tabP_get {P : Program} {f : FuncId} {c : AFn} (h : cFn P f = some c) : (tabP P).get f = some c := by
  have hf : f < P.funcs.size := by
    unfold cFn at h
    split at h
    · rename_i fn hfn; exact (Array.getElem?_eq_some_iff.1 hfn).1
    · simp at h
  rw [tabP, tabN_get, if_pos hf, h]

/-- a call tells, with enough fuel -/
def ACalls (P : Program) (N : ANat) (f : FuncId) (args : List AVal) (H : AHeap) (K : AVal → AHeap → Prop) : Prop :=
  ∃ n v H', acall N (tabP P) n f args H = some (v, H') ∧ K v H'
theorem ACalls.mono {P : Program} {N : ANat} {f : FuncId} {args : List AVal} {H : AHeap} {K K' : AVal → AHeap → Prop} (h : ACalls P N f args H K) (hk : ∀ v H', K v H' → K' v H') : ACalls P N f args H K' := by
  obtain ⟨n, v, H', h1, h2⟩ := h; exact ⟨n, v, H', h1, hk _ _ h2⟩

section
variable {P : Program} {N : ANat}
theorem acall_tb {n : Nat} {f : FuncId} {args : List AVal} {H : AHeap} {r} (h : acall N (tabP P) n f args H = some r) : tbA N (tabP P) f = true := by
  cases n with
  | zero => simp [acall] at h
  | succ n =>
    rw [acall] at h
    unfold tbA
    cases hn : N.is f with
    | true => rfl
    | false =>
      rw [hn] at h
      simp only [cond_false] at h ⊢
      cases ht : (tabP P).get f with
      | none => rw [ht] at h; simp at h
      | some c => rfl

theorem wOp_sound {T : Tr AVal} {H : AHeap} {o : AOp} {K : AVal → AHeap → Prop} (h : wOp (ACalls P N) (en T) H K o) :
    (∃ v H', aop (tbA N (tabP P)) T H o = some (.val v, H') ∧ K v H') ∨ (∃ f args H' n v H'', aop (tbA N (tabP P)) T H o = some (.enter f args, H') ∧ acall N (tabP P) n f args H' = some (v, H'') ∧ K v H'') := by
  cases o
  case call f args =>
    right
    simp only [wOp, sXs_en] at h
    obtain ⟨n, v, H', h1, h2⟩ := h
    exact ⟨f, _, H, n, v, H', by simp only [aop, acall_tb h1, cond_true], h1, h2⟩
  case callv f args =>
    right
    simp only [wOp, sX_en, sXs_en] at h
    obtain ⟨g, a, b, hf, n, v, H', h1, h2⟩ := h
    exact ⟨g, _, H, n, v, H', by simp only [aop, hf, acall_tb h1, cond_true], h1, h2⟩
  case pick c a b =>
    simp only [wOp, sX_en] at h
    obtain ⟨b', h1, h2⟩ := h
    exact .inl ⟨_, _, by simp only [aop, h1], h2⟩
  case bad => simp [wOp] at h
  all_goals
    left
    simp only [wOp, sX_en, sXs_en, sXO_en, sXP_en, OptP] at h
    first
      | exact ⟨_, _, rfl, h⟩
      | (obtain ⟨v, h1, h2⟩ := h
         refine ⟨_, _, ?_, h2⟩
         simp only [aop, h1]
         try rfl)

theorem wStep_sound {T : Tr AVal} {H : AHeap} {o : AOper} {K : AVal → AHeap → Prop} (h : wOp (ACalls P N) (en T) H K o.op) (hg : gOK T o.guard = true) :
    ∃ n v H', astep (tbA N (tabP P)) (acall N (tabP P) n) o T H = some (v, H') ∧ K v H' := by
  rcases wOp_sound h with ⟨v, H', h1, h2⟩ | ⟨f, args, H', n, v, H'', h1, h2, h3⟩
  · exact ⟨0, v, H', by simp only [astep, hg, cond_true, h1], h2⟩
  · exact ⟨n, v, H'', by simp only [astep, hg, cond_true, h1, h2], h3⟩
theorem aregs_cons (tb : FuncId → Bool) (c) (o : AOper) (l : List AOper) (T : Tr AVal) (H : AHeap) : aregs tb c (o :: l) T H = match astep tb c o T H with | some (v, H') => aregs tb c l (aput T o.dst v) H' | none => none := by
  simp only [aregs, astep]
  cases gOK T o.guard with
  | false => rfl
  | true =>
    simp only [cond_true]
    cases aop tb T H o.op with
    | none => rfl
    | some p => obtain ⟨nx, H'⟩ := p; cases nx <;> rfl
theorem wRegs_sound : ∀ (l : List AOper) {T : Tr AVal} {H : AHeap} {K : Env → AHeap → Prop}, wRegs (ACalls P N) l (en T) H K →
    ∃ n T' H', aregs (tbA N (tabP P)) (acall N (tabP P) n) l T H = some (T', H') ∧ K (en T') H'
  | [], T, H, K, h => ⟨0, T, H, rfl, h⟩
  | o :: l, T, H, K, h => by
    simp only [wRegs, sG_en] at h
    have : ∃ n v H', astep (tbA N (tabP P)) (acall N (tabP P) n) o T H = some (v, H') ∧ wRegs (ACalls P N) l (upO (en T) o.dst v) H' K := by
      cases hg : gOK T o.guard with
      | true => rw [hg] at h; exact wStep_sound h hg
      | false => rw [hg] at h; exact ⟨0, undefA, H, by simp only [astep, hg, cond_false], h⟩
    obtain ⟨n, v, H', h1, h2⟩ := this
    rw [← en_put] at h2
    obtain ⟨m, T2, H2, h3, h4⟩ := wRegs_sound l h2
    refine ⟨max n m, T2, H2, ?_, h4⟩
    rw [aregs_cons, astep_mono (acall_mono (Nat.le_max_left n m)) h1]
    exact aregs_mono (acall_mono (Nat.le_max_right n m)) l h3
theorem wTr_sound : ∀ (l : List AOper) {T : Tr AVal} {H : AHeap} {K : List (AVal × AHeap) → Env → AHeap → Prop}, wTr (ACalls P N) l (en T) H K → ∀ j,
    ∃ n ss, atrace (tbA N (tabP P)) (acall N (tabP P) n) l T H = some ss ∧ K ss (en (tsel (fun _ => true) j l ss T)) (hAt H ss l.length)
  | [], T, H, K, h, j => ⟨0, [], rfl, h⟩
  | o :: l, T, H, K, h, j => by
    simp only [wTr, sG_en] at h
    have : ∃ n v H', astep (tbA N (tabP P)) (acall N (tabP P) n) o T H = some (v, H') ∧ wTr (ACalls P N) l (upO (en T) o.dst v) H' fun ss => K ((v, H') :: ss) := by
      cases hg : gOK T o.guard with
      | true => rw [hg] at h; exact wStep_sound h hg
      | false => rw [hg] at h; exact ⟨0, undefA, H, by simp only [astep, hg, cond_false], h⟩
    obtain ⟨n, v, H', h1, h2⟩ := this
    rw [← en_put] at h2
    obtain ⟨m, ss, h3, h4⟩ := wTr_sound l h2 (j + 1)
    refine ⟨max n m, (v, H') :: ss, ?_, ?_⟩
    · simp only [atrace, astep_mono (acall_mono (Nat.le_max_left n m)) h1, atrace_mono (acall_mono (Nat.le_max_right n m)) l h3]
    · have hl := (trace_at l _ H' ss 0 h3).1
      have e : hAt H' ss l.length = hAt H ((v, H') :: ss) (o :: l).length := by
        simp only [List.length_cons]
        cases hr : l.length with
        | zero => rfl
        | succ q =>
          simp only [hAt, List.getElem?_cons_succ]
          rw [List.getElem?_eq_getElem (by omega)]
      rw [← e]
      exact h4
theorem wCk_sound {tb : FuncId → Bool} {hs : List AHeap} : ∀ (l : List AOper) (chk : List (List Nat)) (ss : List (AVal × AHeap)) (T : Tr AVal), wCk hs l chk ss (en T) → chkRun tb hs l chk ss T = true
  | [], _, _, _, _ => rfl
  | o :: l, [], _, _, _ => rfl
  | o :: l, p :: ps, [], _, _ => rfl
  | o :: l, p :: ps, (v, Hv) :: ss, T, h => by
    simp only [wCk] at h
    obtain ⟨h1, h2⟩ := h
    simp only [chkRun, Bool.and_eq_true]
    refine ⟨List.all_eq_true.2 fun q hq => ?_, wCk_sound l ps ss _ (by rw [en_put]; exact h2)⟩
    obtain ⟨Hp, e1, e2⟩ := h1 q hq
    rw [e1]
    simp only
    cases hg : gOK T o.guard with
    | false => rfl
    | true =>
      obtain ⟨u, u1, u2⟩ := e2 (by rw [sG_en]; exact hg)
      simp only [cond_true]
      cases ho : o.op <;> rw [ho] at u1 <;> simp only [wLd, reduceCtorEq, sX_en] at u1
      · simp only [aop, u1, vv]; exact u2
      · simp only [aop, u1, vv]; exact u2
theorem inSeq_sound {Q : Post} {K : Env → AHeap → Prop} {e : AEx} {T : Env} {H : AHeap} (h : inSeq Q K e T H) : (e = .normal ∧ K T H) ∨ (e ≠ .normal ∧ Q e T H) := by
  cases e with
  | normal => exact .inl ⟨rfl, h⟩
  | exit i => exact .inr ⟨by simp, h⟩
  | ret => exact .inr ⟨by simp, h⟩
theorem wp_sound : ∀ (c : ACode) (Q : Post) (T : Tr AVal) (H : AHeap), wp (ACalls P N) c Q (en T) H →
    ∃ n e T' H', aexec (tbA N (tabP P)) (acall N (tabP P) n) n c T H = some (e, T', H') ∧ Q e (en T') H' := by
  intro c
  induction c with
  | skip => intro Q T H h; exact ⟨0, _, _, _, rfl, h⟩
  | reg l =>
    intro Q T H h
    obtain ⟨n, T', H', h1, h2⟩ := wRegs_sound l h
    exact ⟨n, .normal, T', H', by simp only [aexec, h1], h2⟩
  | draw l chk =>
    intro Q T H h
    simp only [wp, wDraw] at h
    obtain ⟨n, ss, h1, h2, h3⟩ := wTr_sound (claims H.next l) h 0
    exact ⟨n, .normal, _, _, by simp only [aexec, adraw, h1, wCk_sound (claims H.next l) chk ss T h2, cond_true], h3⟩
  | seq a b iha ihb =>
    intro Q T H h
    obtain ⟨n, e, T1, H1, h1, h2⟩ := iha _ T H h
    rcases inSeq_sound h2 with ⟨rfl, h2⟩ | ⟨hne, h2⟩
    · obtain ⟨m, e2, T2, H2, h3, h4⟩ := ihb _ T1 H1 h2
      refine ⟨max n m, e2, T2, H2, ?_, h4⟩
      simp only [aexec, aexec_mono (acall_mono (Nat.le_max_left n m)) (Nat.le_max_left n m) a _ _ _ h1]
      exact aexec_mono (acall_mono (Nat.le_max_right n m)) (Nat.le_max_right n m) b _ _ _ h3
    · refine ⟨n, e, T1, H1, ?_, h2⟩
      cases e with
      | normal => exact absurd rfl hne
      | exit i => simp only [aexec, h1]
      | ret => simp only [aexec, h1]
  | cond c a b iha ihb =>
    intro Q T H h
    simp only [wp, sX_en] at h
    obtain ⟨v, hv, h⟩ := h
    cases v with
    | true =>
      obtain ⟨n, e, T1, H1, h1, h2⟩ := iha _ T H h
      exact ⟨n, e, T1, H1, by simp only [aexec, hv, h1], h2⟩
    | false =>
      obtain ⟨n, e, T1, H1, h1, h2⟩ := ihb _ T H h
      exact ⟨n, e, T1, H1, by simp only [aexec, hv, h1], h2⟩
  | block id c ih =>
    intro Q T H h
    obtain ⟨n, e, T1, H1, h1, h2⟩ := ih _ T H h
    cases e with
    | exit j =>
      simp only [inBlk] at h2
      cases hb : Nat.beq j id with
      | true => rw [hb] at h2; exact ⟨n, .normal, T1, H1, by simp only [aexec, h1, hb, cond_true], h2⟩
      | false => rw [hb] at h2; exact ⟨n, .exit j, T1, H1, by simp only [aexec, h1, hb, cond_false], h2⟩
    | normal => exact ⟨n, .normal, T1, H1, by simp only [aexec, h1], h2⟩
    | ret => exact ⟨n, .ret, T1, H1, by simp only [aexec, h1], h2⟩
  | loop c ih =>
    intro Q T H h
    simp only [wp] at h
    obtain ⟨I, ⟨m, hm⟩, hI⟩ := h
    have key : ∀ (m : Nat) (T : Tr AVal) (H : AHeap), I m (en T) H → ∃ n e T' H', aexec (tbA N (tabP P)) (acall N (tabP P) n) n (.loop c) T H = some (e, T', H') ∧ Q e (en T') H' := by
      intro m
      induction m using Nat.strongRecOn with
      | ind m ihm =>
        intro T H hi
        obtain ⟨n, e, T1, H1, h1, h2⟩ := ih _ T H (hI m _ _ hi)
        rcases inSeq_sound h2 with ⟨rfl, m', hm', h2⟩ | ⟨hne, h2⟩
        · obtain ⟨k, e2, T2, H2, h3, h4⟩ := ihm m' hm' T1 H1 h2
          refine ⟨max n k + 1, e2, T2, H2, ?_, h4⟩
          simp only [aexec, aloop]
          rw [aexec_mono (acall_mono (show n ≤ max n k + 1 by omega)) (show n ≤ max n k + 1 by omega) c _ _ _ h1]
          simp only [aexec] at h3
          exact aloop_mono (fun T H r hr => aexec_mono (acall_mono (show k ≤ max n k + 1 by omega)) (show k ≤ max n k + 1 by omega) c T H r hr) k (max n k) T1 H1 _ (Nat.le_max_right n k) h3
        · refine ⟨n + 1, e, T1, H1, ?_, h2⟩
          simp only [aexec, aloop]
          rw [aexec_mono (acall_mono (Nat.le_succ n)) (Nat.le_succ n) c _ _ _ h1]
          cases e with
          | normal => exact absurd rfl hne
          | exit i => rfl
          | ret => rfl
    exact key m T H hm
  | exit id => intro Q T H h; exact ⟨0, _, _, _, rfl, h⟩
  | ret => intro Q T H h; exact ⟨0, _, _, _, rfl, h⟩

/-! ### functions -/
def argE (args : List AVal) : Env := fun i => match args[i]? with
  | some v => v
  | none => undefA
theorem putArgs_en : ∀ (args : List AVal) (i : Nat) (T : Tr AVal), en (putArgs args i T) = fun j => if i ≤ j then (match args[j - i]? with | some v => v | none => en T j) else en T j
  | [], i, T => by funext j; simp [putArgs]
  | x :: r, i, T => by
    rw [putArgs, putArgs_en r (i + 1), en_set]
    funext j
    by_cases h : i + 1 ≤ j
    · rw [if_pos h, if_pos (by omega), show j - i = (j - (i + 1)) + 1 by omega]
      simp only [List.getElem?_cons_succ]
      split
      · rfl
      · have hb : Nat.beq j i = false := by rw [beq_dec]; exact decide_eq_false (by omega)
        simp only [up, hb, cond_false]
    · rw [if_neg h]
      by_cases e : i = j
      · subst e
        simp [up]
      · rw [if_neg (by omega)]
        have hb : Nat.beq j i = false := by rw [beq_dec]; exact decide_eq_false (by omega)
        simp only [up, hb, cond_false]
theorem putArgs_e (args : List AVal) : en (putArgs args 0 .e) = argE args := by
  rw [putArgs_en]
  funext j
  simp only [Nat.zero_le, if_true, Nat.sub_zero, argE]
  split
  · rfl
  · rfl
def wRes (T : Env) (H : AHeap) : List ARes → Option (List AVal)
  | [] => some []
  | .t i :: r => match wRes T H r with
    | some l => some (T i :: l)
    | none => none
  | .cell g n i :: r => match oLoad g n H (T i), wRes T H r with
    | some x, some l => some (x :: l)
    | _, _ => none
theorem wRes_en (T : Tr AVal) (H : AHeap) : ∀ l : List ARes, wRes (en T) H l = ares T H l
  | [] => rfl
  | .t i :: r => by simp only [wRes, ares, wRes_en T H r]; rfl
  | .cell g n i :: r => by simp only [wRes, ares, wRes_en T H r]; rfl
def fin (res : List ARes) (K : AVal → AHeap → Prop) : Post := fun e T H => match e with
  | .exit _ => False
  | _ => OptP (wRes T H res) fun l => K (aresV l) H
theorem acalls_of {f : FuncId} {c : AFn} {args : List AVal} {H : AHeap} {K : AVal → AHeap → Prop} (hn : N.is f = false) (hc : cFn P f = some c) (hl : Nat.ble args.length c.nt = true) (h : wp (ACalls P N) c.body (fin c.res K) (argE args) H) : ACalls P N f args H K := by
  rw [← putArgs_e] at h
  obtain ⟨n, e, T', H', h1, h2⟩ := wp_sound _ _ _ _ h
  have : ∃ l, ares T' H' c.res = some l ∧ K (aresV l) H' ∧ ∀ i, e ≠ .exit i := by
    cases e with
    | exit i => exact h2.elim
    | normal => obtain ⟨l, q1, q2⟩ := h2; rw [wRes_en] at q1; exact ⟨l, q1, q2, fun i => by simp⟩
    | ret => obtain ⟨l, q1, q2⟩ := h2; rw [wRes_en] at q1; exact ⟨l, q1, q2, fun i => by simp⟩
  obtain ⟨l, q1, q2, q3⟩ := this
  refine ⟨n + 1, aresV l, H', ?_, q2⟩
  rw [acall, hn, tabP_get hc]
  simp only [cond_false, hl, cond_true, h1]
  cases e with
  | exit i => exact absurd rfl (q3 i)
  | normal => simp only [q1]
  | ret => simp only [q1]
theorem acalls_nat {f : FuncId} {args : List AVal} {H H' : AHeap} {v : AVal} {K : AVal → AHeap → Prop} (hn : N.is f = true) (hr : N.run f args H = some (v, H')) (hk : K v H') : ACalls P N f args H K :=
  ⟨1, v, H', by rw [acall, hn]; exact hr, hk⟩
/-- from a symbolic run to the model's -/
theorem ACalls.calls (hfol : P.follows .mixedOrders = true) (hN : NatOK P N) {f : FuncId} {args : List AVal} {H : AHeap} {K : AVal → AHeap → Prop} (h : ACalls P N f args H K)
    {Prot : Gh} {w0 w : World} {ρ : Pl} {vs : Array Value} (R : Rel Prot w0 ρ H w) (hv : VRels ρ args vs.toList) :
    Calls P f vs w fun e w' => ∃ ρ' v H' u, ρ.le ρ' ∧ e = .returned u ∧ K v H' ∧ Rel Prot w0 ρ' H' w' ∧ VRel ρ' v u := by
  obtain ⟨n, v, H', h1, h2⟩ := h
  refine (acall_ok hfol hN (tabP_ok P) n _ _ _ _ _ h1 _ _ _ _ _ R hv).mono fun e w' hx => ?_
  obtain ⟨ρ', u, q1, rfl, q2, q3⟩ := hx
  exact ⟨ρ', v, H', u, q1, rfl, h2, q2, q3⟩
end
end Go.Abs.S
/- Symbolic runs of the abstract machine, part 3: any world as a heap to begin with: all its rows of cells, to be read alone. Plain Lean. -/
namespace Go.Abs.S
open Go.Abs

theorem junks {ρ : Pl} {p : Value → Prop} (h : ∀ v, p v → ∃ x, ∀ ρ, VRel ρ x v) : ∀ (vs : List Value), (∀ v ∈ vs, p v) → ∃ l, ∀ ρ, VRels ρ l vs
  | [], _ => ⟨[], fun ρ => by simp [VRels]⟩
  | v :: vs, hv => by
    obtain ⟨x, hx⟩ := h v (hv v (by simp))
    obtain ⟨l, hl⟩ := junks (ρ := ρ) h vs fun u hu => hv u (by simp [hu])
    exact ⟨x :: l, fun ρ => by simp only [VRels]; exact ⟨v, vs, rfl, hx ρ, hl ρ⟩⟩
theorem junk : ∀ (n : Nat) (v : Value), SizeOf.sizeOf v ≤ n → ∃ x, ∀ ρ, VRel ρ x v := by
  intro n
  induction n with
  | zero => intro v h; cases v <;> simp at h
  | succ n ih =>
    intro v h
    cases v
    case bool b => exact ⟨.bool b, fun ρ => by simp [VRel]⟩
    case agg vs =>
      obtain ⟨l, hl⟩ := junks (ρ := fun _ _ => none) (p := fun v => SizeOf.sizeOf v ≤ n) ih vs.toList fun v hv => by
        have := Array.sizeOf_lt_of_mem (Array.mem_toList_iff.1 hv)
        simp at h; omega
      exact ⟨.agg l, fun ρ => by simp only [VRel]; exact ⟨vs, rfl, hl ρ⟩⟩
    case tuple vs =>
      obtain ⟨l, hl⟩ := junks (ρ := fun _ _ => none) (p := fun v => SizeOf.sizeOf v ≤ n) ih vs.toList fun v hv => by
        have := Array.sizeOf_lt_of_mem (Array.mem_toList_iff.1 hv)
        simp at h; omega
      exact ⟨.tuple l, fun ρ => by simp only [VRel]; exact ⟨vs, rfl, hl ρ⟩⟩
    all_goals exact ⟨.val _, fun ρ => by simp only [VRel]; exact ⟨rfl, rfl⟩⟩
noncomputable def junkOf (v : Value) : AVal := Classical.choose (junk (SizeOf.sizeOf v) v (Nat.le_refl _))
theorem junkOf_rel (v : Value) (ρ : Pl) : VRel ρ (junkOf v) v := Classical.choose_spec (junk (SizeOf.sizeOf v) v (Nat.le_refl _)) ρ

/-- how many cells a block has, if it is of cells -/
def rowOf (w : World) (c : Nat) : Option Nat := match w.heap[c]? with
  | some (.cells C _ _) => some C.size
  | _ => none
/-- a value of that world's, as the abstract machine has it -/
noncomputable def absW (w : World) : Value → AVal
  | .bool b => .bool b
  | .int k n => .int k n
  | .string s => .str s.data.toList
  | .pointer none => .ptr none
  | .pointer (some ⟨c, off, none⟩) => match rowOf w c with
    | some n => .ptr (some ⟨c, n, off⟩)
    | none => junkOf (.pointer (some ⟨c, off, none⟩))
  | .slice none 0 0 => .slice none 0 (.known 0)
  | .slice (some ⟨c, off, none⟩) len cap => if len ≤ cap then (match rowOf w c with
    | some n => .slice (some ⟨c, n, off⟩) len (.known cap)
    | none => junkOf (.slice (some ⟨c, off, none⟩) len cap)) else junkOf (.slice (some ⟨c, off, none⟩) len cap)
  | .map none => .map none
  | .nilFunc => .nilFunc
  | .nilIface => .nilIface
  | v => junkOf v
/-- where its blocks lie: in themselves -/
def plW (w : World) : Pl := fun b l => match rowOf w b with
  | some n => if l = n then some ⟨b, 0, n, false⟩ else none
  | none => none
theorem plW_some {w : World} {b n : Nat} (h : rowOf w b = some n) : plW w b n = some ⟨b, 0, n, false⟩ := by simp [plW, h]
theorem strOf_data (s : ByteArray) : strOf s.data.toList = s := by cases s; simp [strOf]
theorem absW_rel (w : World) (v : Value) : VRel (plW w) (absW w v) v := by
  unfold absW
  split
  · simp [VRel]
  · simp [VRel]
  · simp [VRel, strOf_data]
  · simp [VRel]
  · split
    · rename_i n hn
      simp only [VRel]
      exact ⟨_, plW_some hn, Nat.zero_le _, by simp⟩
    · exact junkOf_rel _ _
  · simp [VRel]
  · split
    · rename_i hl
      split
      · rename_i n hn
        simp only [VRel]
        exact ⟨_, plW_some hn, Nat.zero_le _, by simp only [SliceRel]; exact ⟨hl, by simp⟩⟩
      · exact junkOf_rel _ _
    · exact junkOf_rel _ _
  · simp [VRel]
  · simp [VRel]
  · simp [VRel]
  · exact junkOf_rel _ _

/-! ### the heap -/
noncomputable def objW (w : World) (c : Nat) : Option AObj := match w.heap[c]? with
  | some (.cells C _ _) => some (.cells (C.toList.map (absW w)) 0 true)
  | _ => none
noncomputable def trW (w : World) : Nat → Tr AObj
  | 0 => .e
  | n + 1 => match objW w n with
    | some o => (trW w n).set n o
    | none => trW w n
theorem trW_get (w : World) : ∀ (n b : Nat), (trW w n).get b = if b < n then objW w b else none
  | 0, b => by rw [if_neg (by omega)]; cases b <;> rfl
  | n + 1, b => by
    simp only [trW]
    cases hc : objW w n with
    | none =>
      simp only [trW_get w n b]
      by_cases h : b < n
      · rw [if_pos h, if_pos (by omega)]
      · by_cases e : b = n
        · subst e; rw [if_neg h, if_pos (by omega), hc]
        · rw [if_neg h, if_neg (by omega)]
    | some c =>
      simp only [Tr.get_set, trW_get w n b]
      by_cases e : b = n
      · subst e; rw [if_pos rfl, if_pos (by omega), hc]
      · rw [if_neg e]
        by_cases h : b < n
        · rw [if_pos h, if_pos (by omega)]
        · rw [if_neg h, if_neg (by omega)]
noncomputable def heapW (w : World) : AHeap := ⟨w.heap.size, trW w w.heap.size⟩
theorem heapW_get (w : World) (b : Nat) : (heapW w).get b = objW w b := by
  show (trW w w.heap.size).get b = _
  rw [trW_get]
  by_cases h : b < w.heap.size
  · rw [if_pos h]
  · rw [if_neg h]
    unfold objW
    rw [Array.getElem?_eq_none (by omega)]
theorem objW_some {w : World} {c n : Nat} (h : rowOf w c = some n) : ∃ C e fz, w.heap[c]? = some (.cells C e fz) ∧ C.size = n ∧ objW w c = some (.cells (C.toList.map (absW w)) 0 true) := by
  unfold rowOf at h
  unfold objW
  split at h
  · rename_i C e fz hC
    simp only [Option.some.injEq] at h
    exact ⟨C, e, fz, hC, h, rfl⟩
  · simp at h
theorem plW_inv {w : World} {b l : Nat} {L : Loc} (h : plW w b l = some L) : rowOf w b = some l ∧ L = ⟨b, 0, l, false⟩ := by
  unfold plW at h
  split at h
  · rename_i n hn
    split at h
    · rename_i e; subst e; simp only [Option.some.injEq] at h; exact ⟨hn, h.symm⟩
    · simp at h
  · simp at h
theorem objW_ro {w : World} {b : Nat} {x : AObj} (h : objW w b = some x) : x.rw = false := by
  unfold objW at h
  split at h
  · simp only [Option.some.injEq] at h; subst h; rfl
  · simp at h
theorem rel_world (w : World) : Rel ⟨fun c => c < w.heap.size, fun _ => False⟩ w (plW w) (heapW w) w := by
  refine ⟨rfl, rfl, rfl, Nat.le_refl _, fun _ hc => ⟨hc, rfl⟩, fun b l L h => ?_, fun b l L h => ?_, fun b l L x h hx hr => ?_, fun b l L b' l' L' x h h' he hx hr => ?_, fun _ h => h.elim, fun b l low h => ?_⟩
  · obtain ⟨h1, rfl⟩ := plW_inv h
    obtain ⟨C, e, fz, h2, _, _⟩ := objW_some h1
    have := (Array.getElem?_eq_some_iff.1 h2).1
    exact ⟨this, this⟩
  · obtain ⟨h1, rfl⟩ := plW_inv h
    obtain ⟨C, e, fz, h2, h3, h4⟩ := objW_some h1
    obtain ⟨lo, hi⟩ := fz
    refine ⟨_, _, by rw [heapW_get, h4], h2, ?_⟩
    simp only [ORel]
    refine ⟨C, e, lo, hi, rfl, h3, fun h => by simp at h, by simp; omega, fun _ i _ hi => ?_⟩
    have hlt : i < C.size := by omega
    refine ⟨absW w C[i], C[i], ?_, by simp [hlt], absW_rel w _⟩
    simp [hlt]
  · rw [heapW_get] at hx
    rw [objW_ro hx] at hr
    simp at hr
  · rw [heapW_get] at hx
    rw [objW_ro hx] at hr
    simp at hr
  · rw [heapW_get] at h
    have hr : rowOf w b = some l.length := by
      unfold objW at h
      unfold rowOf
      split at h
      · rename_i C e fz hC
        simp only [Option.some.injEq, AObj.cells.injEq] at h
        simp [← h.1]
      · simp at h
    exact ⟨_, plW_some hr, rfl, rfl⟩
end Go.Abs.S
/- Symbolic runs of the abstract machine, part 4: slices that read as lists; growing them, writing into them; what is left as it was. Plain Lean. -/
namespace Go.Abs.S
open Go.Abs

theorem up_same (T : Env) (i : Nat) (v : AVal) : up T i v i = v := by simp [up]
theorem up_ne (T : Env) (i j : Nat) (v : AVal) (h : j ≠ i) : up T i v j = T j := by
  have : Nat.beq j i = false := by rw [beq_dec]; exact decide_eq_false h
  simp [up, this]

/-- no block ahead of n has turned -/
structure Ext (n : Nat) (H H' : AHeap) : Prop where
  next : H.next ≤ H'.next
  old : ∀ b, b < n → H'.get b = H.get b
theorem Ext.refl (n : Nat) (H : AHeap) : Ext n H H := ⟨Nat.le_refl _, fun _ _ => rfl⟩
theorem Ext.trans {n : Nat} {H H' H'' : AHeap} (h : Ext n H H') (k : Ext n H' H'') : Ext n H H'' := ⟨Nat.le_trans h.next k.next, fun b hb => (k.old b hb).trans (h.old b hb)⟩
theorem Ext.less {n m : Nat} {H H' : AHeap} (h : Ext n H H') (hm : m ≤ n) : Ext m H H' := ⟨h.next, fun b hb => h.old b (by omega)⟩
theorem Ext.push {n : Nat} {H H' : AHeap} (h : Ext n H H') (hn : n ≤ H'.next) (o : AObj) : Ext n H (H'.push o) :=
  ⟨Nat.le_trans h.next (by simp [AHeap.push]), fun b hb => by rw [AHeap.get_push, if_neg (by omega), h.old b hb]⟩
theorem Ext.set {n : Nat} {H H' : AHeap} (h : Ext n H H') {b : Nat} (hn : n ≤ b) (o : AObj) : Ext n H (H'.set b o) :=
  ⟨h.next, fun c hc => by rw [AHeap.get_set, if_neg (by omega), h.old c hc]⟩
theorem push_next (H : AHeap) (o : AObj) : (H.push o).next = H.next + 1 := rfl
theorem set_next (H : AHeap) (b : Nat) (o : AObj) : (H.set b o).next = H.next := rfl

def nilS : AVal := .slice none 0 (.known 0)
/-- the place of a slice's cell -/
def cellP (s : AVal) (i : Nat) : AVal := match s with
  | .slice (some a) _ _ => .ptr (some ⟨a.b, a.lim, a.o + i * 1⟩)
  | _ => undefA
/-- a slice of cells reads as l; it lies ahead of n -/
def Cel (n : Nat) (H : AHeap) (s : AVal) (l : List AVal) : Prop :=
  (s = nilS ∧ l = []) ∨ ∃ a r, s = .slice (some a) l.length r ∧ a.b < n ∧ rdCells H a l.length = some l
theorem rd_congr {H H' : AHeap} {a : Ad} (h : H'.get a.b = H.get a.b) (n : Nat) : rdCells H' a n = rdCells H a n := by
  unfold rdCells; rw [h]
theorem Cel.ext {n : Nat} {H H' : AHeap} {s : AVal} {l : List AVal} (h : Cel n H s l) (e : Ext n H H') : Cel n H' s l := by
  rcases h with h | ⟨a, r, h1, h2, h3⟩
  · exact .inl h
  · exact .inr ⟨a, r, h1, h2, by rw [rd_congr (e.old _ h2)]; exact h3⟩
theorem Cel.more {n m : Nat} {H : AHeap} {s : AVal} {l : List AVal} (h : Cel n H s l) (hm : n ≤ m) : Cel m H s l := by
  rcases h with h | ⟨a, r, h1, h2, h3⟩
  · exact .inl h
  · exact .inr ⟨a, r, h1, by omega, h3⟩
theorem Cel.len {n : Nat} {H : AHeap} {s : AVal} {l : List AVal} (h : Cel n H s l) : aLenK false s = some (.int .i64 l.length) := by
  rcases h with ⟨rfl, rfl⟩ | ⟨a, r, rfl, _⟩ <;> rfl
theorem rd_at {H : AHeap} {a : Ad} {n i : Nat} {xs : List AVal} (h : rdCells H a n = some xs) (hi : i < n) : ∃ x, xs[i]? = some x ∧ rdCells H ⟨a.b, a.lim, a.o + i⟩ 1 = some [x] := by
  obtain ⟨l, low, ro, h1, h2, h3, h4, rfl⟩ := rd_spec h
  have hlt : a.o + i < l.length := by omega
  refine ⟨l[a.o + i], ?_, ?_⟩
  · rw [List.getElem?_take_of_lt hi, List.getElem?_drop, List.getElem?_eq_getElem hlt]
  · unfold rdCells
    simp only [h1, Nat.ble_eq_true_of_le h2, Nat.ble_eq_true_of_le h3, Nat.ble_eq_true_of_le (show a.o + i + 1 ≤ a.lim by omega), Bool.and_self, cond_true]
    rw [List.drop_eq_getElem_cons hlt]
    rfl
theorem Cel.idx {n : Nat} {H : AHeap} {s : AVal} {l : List AVal} (h : Cel n H s l) (k : IntKind) {i : Nat} (hi : i < l.length) : aIdxA 1 s (.int k (i : Int)) = some (cellP s i) := by
  rcases h with ⟨_, rfl⟩ | ⟨a, r, rfl, _⟩
  · simp at hi
  · show (bif Nat.blt i l.length then _ else none) = _
    have : Nat.blt i l.length = true := by simpa [Nat.blt_eq] using hi
    rw [this]; rfl
theorem Cel.load {n : Nat} {H : AHeap} {s : AVal} {l : List AVal} (h : Cel n H s l) {i : Nat} {x : AVal} (hi : l[i]? = some x) : oLoad false 1 H (cellP s i) = some x := by
  have hlt := (List.getElem?_eq_some_iff.1 hi).1
  rcases h with ⟨_, rfl⟩ | ⟨a, r, rfl, _, h3⟩
  · simp at hi
  · obtain ⟨y, h4, h5⟩ := rd_at h3 hlt
    rw [hi] at h4
    simp only [Option.some.injEq] at h4
    subst h4
    simp only [oLoad, cellP, Nat.mul_one, h5, cond_false]

/-- a row of its own: block b, from n on; it may be written -/
def Own (n : Nat) (H : AHeap) (s : AVal) (l : List AVal) : Prop :=
  ∃ b r low, s = .slice (some ⟨b, l.length, 0⟩) l.length r ∧ n ≤ b ∧ b < H.next ∧ H.get b = some (.cells l low false) ∧ low ≤ l.length
/-- the same, and it may grow; or nil -/
def App (n : Nat) (H : AHeap) (s : AVal) (l : List AVal) : Prop :=
  (s = nilS ∧ l = []) ∨ ∃ b low, s = .slice (some ⟨b, l.length, 0⟩) l.length (.open_ 1) ∧ n ≤ b ∧ b < H.next ∧ H.get b = some (.cells l low false) ∧ low ≤ l.length
theorem App.nil (n : Nat) (H : AHeap) : App n H nilS [] := .inl ⟨rfl, rfl⟩
theorem rd_whole {H : AHeap} {b low : Nat} {l : List AVal} {ro : Bool} (h : H.get b = some (.cells l low ro)) (hl : low ≤ l.length) : rdCells H ⟨b, l.length, 0⟩ l.length = some l := by
  unfold rdCells
  simp only [h, Nat.ble_eq_true_of_le hl, Nat.ble_eq_true_of_le (Nat.le_refl _), Nat.zero_add, Bool.and_self, cond_true, List.drop_zero, List.take_length]
theorem App.cel {n : Nat} {H : AHeap} {s : AVal} {l : List AVal} (h : App n H s l) : Cel H.next H s l := by
  rcases h with h | ⟨b, low, h1, h2, h3, h4, h5⟩
  · exact .inl h
  · exact .inr ⟨_, _, h1, h3, rd_whole h4 h5⟩
theorem Own.cel {n : Nat} {H : AHeap} {s : AVal} {l : List AVal} (h : Own n H s l) : Cel H.next H s l := by
  obtain ⟨b, r, low, h1, h2, h3, h4, h5⟩ := h
  exact .inr ⟨_, _, h1, h3, rd_whole h4 h5⟩
theorem App.ext {n : Nat} {H H' : AHeap} {s : AVal} {l : List AVal} (h : App n H s l) (e : Ext H.next H H') : App n H' s l := by
  rcases h with h | ⟨b, low, h1, h2, h3, h4, h5⟩
  · exact .inl h
  · exact .inr ⟨b, low, h1, h2, Nat.lt_of_lt_of_le h3 e.next, by rw [e.old b h3]; exact h4, h5⟩
theorem Own.ext {n : Nat} {H H' : AHeap} {s : AVal} {l : List AVal} (h : Own n H s l) (e : Ext H.next H H') : Own n H' s l := by
  obtain ⟨b, r, low, h1, h2, h3, h4, h5⟩ := h
  exact ⟨b, r, low, h1, h2, Nat.lt_of_lt_of_le h3 e.next, by rw [e.old b h3]; exact h4, h5⟩
theorem cells_one {x : AVal} (h : x.one = true) : x.cells = [x] := by cases x <;> first | rfl | (simp [AVal.one] at h)
/-- one element, ready to be appended -/
def oneS (H : AHeap) : AVal := .slice (some ⟨H.next, 1, 0⟩) 1 (.known 1)
theorem build1 (z : AVal) (H : AHeap) {x : AVal} (h : x.one = true) : aBuildSl 1 [z] H [(0, 1, x)] = some (oneS H, H.push (.cells [x] 0 false)) := by
  simp only [aBuildSl, rep, List.append_nil, aFill, cells_one h]
  rfl
theorem src1 (H : AHeap) (x : AVal) : aSrc 1 (H.push (.cells [x] 0 false)) (oneS H) = some (1, [x]) := by
  have := rd_whole (H := H.push (.cells [x] 0 false)) (b := H.next) (l := [x]) (low := 0) (ro := false) (by rw [AHeap.get_push, if_pos rfl]) (by simp)
  simp only [List.length_cons, List.length_nil, Nat.zero_add] at this
  simp only [aSrc, oneS, Nat.mul_one, this]
theorem App.push {n : Nat} {H : AHeap} {s : AVal} {l : List AVal} (h : App n H s l) (hn : n ≤ H.next) {x : AVal} (hx : x.one = true) {bytes : Nat} (hb : 2 * (l.length + 1) * bytes ≤ 281474976710656) (hb1 : 0 < bytes) :
    ∃ s' H', aAppend 1 bytes (H.push (.cells [x] 0 false)) s (oneS H) = some (s', H') ∧ App n H' s' (l ++ [x]) ∧ Ext n H H' := by
  have hlen : l.length + 1 ≤ 9223372036854775807 := by
    have : 2 * (l.length + 1) ≤ 2 * (l.length + 1) * bytes := Nat.le_mul_of_pos_right _ hb1
    omega
  have c1 : ∀ k, k = l.length → (Nat.blt 0 1 && (Nat.ble ((2 * (k + 1) + 0) * bytes) 281474976710656 && (Nat.ble (k + 1) 9223372036854775807 && (Nat.beq [x].length (1 * 1) && [x].all AVal.one)))) = true := by
    intro k hk
    subst hk
    simp only [Nat.add_zero, Nat.ble_eq_true_of_le hb, Nat.ble_eq_true_of_le hlen, List.all_cons, List.all_nil, hx]
    rfl
  rcases h with ⟨rfl, rfl⟩ | ⟨b, low, rfl, h2, h3, h4, h5⟩
  · refine ⟨.slice (some ⟨H.next + 1, 1, 0⟩) 1 (.open_ 1), (H.push (.cells [x] 0 false)).push (.cells [x] 0 false), ?_, .inr ⟨H.next + 1, 0, rfl, by omega, Nat.lt_succ_self _, ?_, Nat.zero_le _⟩, ((Ext.refl n H).push hn _).push (by rw [push_next]; omega) _⟩
    · simp only [aAppend, src1, nilS]
      rw [show Nat.beq 1 0 = false from rfl, cond_false, c1 0 rfl, cond_true]
      rfl
    · rw [AHeap.get_push]; exact if_pos rfl
  · have hg : (H.push (.cells [x] 0 false)).get b = some (.cells l low false) := by rw [AHeap.get_push, if_neg (by omega)]; exact h4
    have hgrow : growCells (H.push (.cells [x] 0 false)) ⟨b, l.length, 0⟩ l.length [x] = some ((H.push (.cells [x] 0 false)).set b (.cells (l ++ [x]) low false)) := by
      unfold growCells
      simp only [hg, Nat.ble_eq_true_of_le h5, Nat.ble_eq_true_of_le (Nat.le_refl _), Nat.ble_eq_true_of_le (Nat.zero_le _), Nat.beq_refl, List.length_cons, List.length_nil, Nat.zero_add, List.all_cons, List.all_nil, hx, Bool.and_self, cond_true, List.take_length]
    refine ⟨.slice (some ⟨b, l.length + 1, 0⟩) (l.length + 1) (.open_ 1), (H.push (.cells [x] 0 false)).set b (.cells (l ++ [x]) low false), ?_, .inr ⟨b, low, by simp, h2, by rw [set_next, push_next]; omega, by rw [AHeap.get_set, if_pos rfl], by simp; omega⟩, ((Ext.refl n H).push hn _).set h2 _⟩
    simp only [aAppend, src1]
    rw [show Nat.beq 1 0 = false from rfl, cond_false, c1 l.length rfl, cond_true]
    have e1 : Nat.ble (l.length + 1) l.length = false := by
      rw [ble_dec]; exact decide_eq_false (by omega)
    simp only [Nat.beq_refl, cond_true, Nat.zero_add, Nat.mul_one, e1, cond_false, hgrow, List.length_cons, List.length_nil]
theorem wr_whole {H : AHeap} {b low i : Nat} {l : List AVal} (h : H.get b = some (.cells l low false)) (hl : low ≤ l.length) (hi : i < l.length) {x : AVal} (hx : x.one = true) :
    oStore 1 H (.ptr (some ⟨b, l.length, i⟩)) x = some (H.set b (.cells (l.set i x) l.length false)) := by
  simp only [oStore, cells_one hx, List.length_cons, List.length_nil, Nat.zero_add, Nat.beq_refl, cond_true]
  unfold wrCells
  simp only [h, Nat.ble_eq_true_of_le hl, Nat.beq_refl, List.length_cons, List.length_nil, Nat.zero_add, Nat.ble_eq_true_of_le (show i + 1 ≤ l.length by omega), List.all_cons, List.all_nil, hx, Bool.and_self, cond_true]
  congr 3
  rw [List.set_eq_take_append_cons_drop, if_pos hi]
  rfl
theorem Own.store {n : Nat} {H : AHeap} {s : AVal} {l : List AVal} (h : Own n H s l) {i : Nat} (hi : i < l.length) {x : AVal} (hx : x.one = true) :
    ∃ H', oStore 1 H (cellP s i) x = some H' ∧ Own n H' s (l.set i x) ∧ Ext n H H' ∧ H'.next = H.next ∧ ∀ b, (∀ a m r, s = .slice (some a) m r → b ≠ a.b) → H'.get b = H.get b := by
  obtain ⟨b, r, low, rfl, h2, h3, h4, h5⟩ := h
  refine ⟨H.set b (.cells (l.set i x) l.length false), ?_, ⟨b, r, l.length, by simp, h2, h3, by rw [AHeap.get_set, if_pos rfl], by simp⟩, (Ext.refl n H).set h2 _, rfl, fun c hc => ?_⟩
  · simp only [cellP, Nat.mul_one, Nat.zero_add]
    exact wr_whole h4 h5 hi hx
  · rw [AHeap.get_set, if_neg (hc _ _ _ rfl)]
/-- a row that is made -/
theorem own_make {H : AHeap} {z : AVal} {bytes k n : Nat} (hn : n ≤ H.next) (hk : bytes * k ≤ 281474976710656) (hk' : k ≤ 9223372036854775807) :
    ∃ s, aMake bytes [z] H (.int .i64 (k : Int)) (.int .i64 (k : Int)) = some (s, H.push (.cells (List.replicate k z) 0 false)) ∧ s = .slice (some ⟨H.next, k, 0⟩) k (.known k) ∧ Own n (H.push (.cells (List.replicate k z) 0 false)) s (List.replicate k z) := by
  have hr : rep [z] k = List.replicate k z := by
    clear hk hk'
    induction k with
    | zero => rfl
    | succ k ih => simp only [rep, ih, List.replicate_succ]; rfl
  have hnat : natOf (.int .i64 (k : Int)) = some k := by
    show natOf (.int .i64 (Int.ofNat k)) = some k
    simp only [natOf, Nat.ble_eq_true_of_le hk', cond_true]
  refine ⟨_, ?_, rfl, ⟨H.next, .known k, 0, by simp, hn, Nat.lt_succ_self _, by rw [AHeap.get_push]; exact if_pos rfl, Nat.zero_le _⟩⟩
  simp only [aMake, hnat, Nat.ble_eq_true_of_le (Nat.le_refl _), Nat.ble_eq_true_of_le hk, Bool.and_self, cond_true, hr, List.length_replicate]
/-! rows by their block -/
def slR (b n : Nat) (r : Room) : AVal := .slice (some ⟨b, n, 0⟩) n r
def cellR (b n i : Nat) : AVal := .ptr (some ⟨b, n, i⟩)
def Row (H : AHeap) (b : Nat) (l : List AVal) : Prop := ∃ low, H.get b = some (.cells l low false) ∧ low ≤ l.length
theorem slR_one (b n : Nat) (r : Room) : (slR b n r).one = true := rfl
theorem row_len (b n : Nat) (r : Room) : aLenK false (slR b n r) = some (.int .i64 (n : Int)) := _root_.id rfl
theorem row_idx {b n : Nat} {r : Room} (k : IntKind) {i : Nat} (h : i < n) : aIdxA 1 (slR b n r) (.int k (i : Int)) = some (cellR b n i) := by
  show (bif Nat.blt i n then some (AVal.ptr (some ⟨b, n, 0 + i * 1⟩)) else none) = _
  have : Nat.blt i n = true := by simpa [Nat.blt_eq] using h
  rw [this, Nat.zero_add, Nat.mul_one]; rfl
theorem row_load {H : AHeap} {b n : Nat} {l : List AVal} (h : Row H b l) (hn : l.length = n) {i : Nat} {x : AVal} (hi : l[i]? = some x) : oLoad false 1 H (cellR b n i) = some x := by
  subst hn
  obtain ⟨low, h1, h2⟩ := h
  have hlt := (List.getElem?_eq_some_iff.1 hi).1
  obtain ⟨y, h4, h5⟩ := rd_at (rd_whole h1 h2) hlt
  rw [hi] at h4
  simp only [Option.some.injEq] at h4
  subst h4
  simp only [Nat.zero_add] at h5
  simp only [oLoad, cellR, h5, cond_false]
theorem row_store {H : AHeap} {b n : Nat} {l : List AVal} (h : Row H b l) (hn : l.length = n) {i : Nat} (hi : i < n) {x : AVal} (hx : x.one = true) :
    ∃ H', oStore 1 H (cellR b n i) x = some H' ∧ Row H' b (l.set i x) ∧ H'.next = H.next ∧ ∀ c, c ≠ b → H'.get c = H.get c := by
  subst hn
  obtain ⟨low, h1, h2⟩ := h
  exact ⟨_, wr_whole h1 h2 hi hx, ⟨l.length, by rw [AHeap.get_set, if_pos rfl], by simp⟩, rfl, fun c hc => by rw [AHeap.get_set, if_neg hc]⟩
theorem Row.same {H H' : AHeap} {b : Nat} {l : List AVal} (h : Row H b l) (e : H'.get b = H.get b) : Row H' b l := by
  obtain ⟨low, h1, h2⟩ := h; exact ⟨low, e.trans h1, h2⟩
theorem row_make {H : AHeap} {z : AVal} {bytes k : Nat} (hk : bytes * k ≤ 281474976710656) (hk' : k ≤ 9223372036854775807) :
    aMake bytes [z] H (.int .i64 (k : Int)) (.int .i64 (k : Int)) = some (slR H.next k (.known k), H.push (.cells (List.replicate k z) 0 false)) := by
  obtain ⟨s, h1, h2, _⟩ := own_make (H := H) (z := z) (Nat.le_refl _) hk hk'
  rw [h1, h2]; rfl
theorem row_push (H : AHeap) (l : List AVal) : Row (H.push (.cells l 0 false)) H.next l := ⟨0, by rw [AHeap.get_push, if_pos rfl], Nat.zero_le _⟩
theorem get_push_lt {H : AHeap} {o : AObj} {c : Nat} (h : c < H.next) : (H.push o).get c = H.get c := by rw [AHeap.get_push, if_neg (by omega)]
theorem new1 (H : AHeap) (x : AVal) : oNew H [x] = (cellR H.next 1 0, H.push (.cells [x] 0 false)) := _root_.id rfl
theorem Row.cel {H : AHeap} {b n m : Nat} {l : List AVal} {r : Room} (h : Row H b l) (hn : l.length = n) (hb : b < m) : Cel m H (slR b n r) l := by
  subst hn
  obtain ⟨low, h1, h2⟩ := h
  exact .inr ⟨_, _, rfl, hb, rd_whole h1 h2⟩
theorem row_make1 {H : AHeap} {z : AVal} {bytes k : Nat} (hk : bytes * k ≤ 281474976710656) (hk' : k ≤ 9223372036854775807) :
    ∃ H', aMake bytes [z] H (.int .i64 (k : Int)) (.int .i64 (k : Int)) = some (slR H.next k (.known k), H') ∧ Row H' H.next (List.replicate k z) ∧ H'.next = H.next + 1 ∧ ∀ c, c ≠ H.next → H'.get c = H.get c :=
  ⟨_, row_make hk hk', row_push _ _, rfl, fun c hc => by rw [AHeap.get_push, if_neg hc]⟩
theorem row_new1 (H : AHeap) (x : AVal) : ∃ H', oNew H [x] = (cellR H.next 1 0, H') ∧ Row H' H.next [x] ∧ H'.next = H.next + 1 ∧ ∀ c, c ≠ H.next → H'.get c = H.get c :=
  ⟨_, new1 H x, row_push _ _, rfl, fun c hc => by rw [AHeap.get_push, if_neg hc]⟩
theorem App.same {n : Nat} {H H' : AHeap} {s : AVal} {l : List AVal} (h : App n H s l) (hn : H.next ≤ H'.next) (e : ∀ c, n ≤ c → H'.get c = H.get c) : App n H' s l := by
  rcases h with h | ⟨b, low, h1, h2, h3, h4, h5⟩
  · exact .inl h
  · exact .inr ⟨b, low, h1, h2, by omega, by rw [e b h2]; exact h4, h5⟩
end Go.Abs.S
/- Symbolic runs of the abstract machine, part 5: the steps, as rewritings. Plain Lean. -/
namespace Go.Abs.S
open Go.Abs
section
variable {C : CS} {Q : Post} {T : Env} {H : AHeap} {K : Env → AHeap → Prop} {r : List AOper} {d : Option Nat}
theorem aw_skip : wp C .skip Q T H = Q .normal T H := _root_.id rfl
theorem aw_reg (ops : List AOper) : wp C (.reg ops) Q T H = wRegs C ops T H (Q .normal) := _root_.id rfl
theorem aw_seq (a b : ACode) : wp C (.seq a b) Q T H = wp C a (inSeq Q (wp C b Q)) T H := _root_.id rfl
open Classical in
theorem aw_cond (c : Opd) (a b : ACode) : wp C (.cond c a b) Q T H = if sX T c = .bool true then wp C a Q T H else if sX T c = .bool false then wp C b Q T H else False := by
  simp only [wp]
  by_cases h : sX T c = .bool true
  · rw [if_pos h, h]; simp
  · rw [if_neg h]
    by_cases h' : sX T c = .bool false
    · rw [if_pos h', h']; simp
    · rw [if_neg h']
      simp only [eq_iff_iff, iff_false, not_exists, not_and]
      intro v hv
      cases v
      · exact absurd hv h'
      · exact absurd hv h
theorem aw_block (id : Nat) (c : ACode) : wp C (.block id c) Q T H = wp C c (inBlk id Q) T H := _root_.id rfl
theorem aw_exit (id : Nat) : wp C (.exit id) Q T H = Q (.exit id) T H := _root_.id rfl
theorem aw_ret : wp C .ret Q T H = Q .ret T H := _root_.id rfl
theorem inSeq_normal : inSeq Q K .normal T H = K T H := _root_.id rfl
theorem inSeq_exit (i : Nat) : inSeq Q K (.exit i) T H = Q (.exit i) T H := _root_.id rfl
theorem inSeq_ret : inSeq Q K .ret T H = Q .ret T H := _root_.id rfl
theorem inBlk_exit (id i : Nat) : inBlk id Q (.exit i) T H = if i = id then Q .normal T H else Q (.exit i) T H := by
  simp only [inBlk]
  by_cases h : i = id
  · subst h; rw [if_pos rfl, Nat.beq_refl]; rfl
  · rw [if_neg h, show Nat.beq i id = false by rw [beq_dec]; exact decide_eq_false h]; rfl
theorem inBlk_normal (id : Nat) : inBlk id Q .normal T H = Q .normal T H := _root_.id rfl
theorem inBlk_ret (id : Nat) : inBlk id Q .ret T H = Q .ret T H := _root_.id rfl
theorem aw_loop {c : ACode} (I : Nat → Env → AHeap → Prop) (m : Nat) (h0 : I m T H) (h : ∀ m T H, I m T H → wp C c (inSeq Q fun T' H' => ∃ m', m' < m ∧ I m' T' H') T H) : wp C (.loop c) Q T H := ⟨I, ⟨m, h0⟩, h⟩

/-! regions -/
def OptK (o : Option AVal) (C : CS) (r : List AOper) (T : Env) (d : Option Nat) (H : AHeap) (K : Env → AHeap → Prop) : Prop := OptP o fun v => wRegs C r (upO T d v) H K
def OptH (o : Option (AVal × AHeap)) (C : CS) (r : List AOper) (T : Env) (d : Option Nat) (K : Env → AHeap → Prop) : Prop := OptP o fun p => wRegs C r (upO T d p.1) p.2 K
def OptS (o : Option AHeap) (C : CS) (r : List AOper) (T : Env) (d : Option Nat) (K : Env → AHeap → Prop) : Prop := OptP o fun H' => wRegs C r (upO T d undefA) H' K
def kont (C : CS) (r : List AOper) (T : Env) (d : Option Nat) (K : Env → AHeap → Prop) : AVal → AHeap → Prop := fun v H' => wRegs C r (upO T d v) H' K
theorem OptK_some (v : AVal) : OptK (some v) C r T d H K = wRegs C r (upO T d v) H K := OptP_some _ _
theorem OptH_some (v : AVal) (H' : AHeap) : OptH (some (v, H')) C r T d K = wRegs C r (upO T d v) H' K := OptP_some _ _
theorem OptS_some (H' : AHeap) : OptS (some H') C r T d K = wRegs C r (upO T d undefA) H' K := OptP_some _ _
theorem kont_app (v : AVal) : kont C r T d K v H = wRegs C r (upO T d v) H K := _root_.id rfl
theorem ar_nil : wRegs C [] T H K = K T H := _root_.id rfl
open Classical in
theorem ar_guard (o : AOp) (t : Nat) (b : Bool) : wRegs C (⟨d, o, some (t, b)⟩ :: r) T H K = if T t = .bool b then wRegs C (⟨d, o, none⟩ :: r) T H K else wRegs C r (upO T d undefA) H K := by
  simp only [wRegs, sG]
  by_cases h : T t = .bool b
  · rw [if_pos h, h]; cases b <;> rfl
  · rw [if_neg h]
    have : sGv b (T t) = false := by
      cases hv : T t <;> simp only [sGv]
      rename_i v
      rw [hv] at h
      cases b <;> cases v <;> simp at h ⊢
    rw [this]; rfl
theorem ar_mv (x : Opd) : wRegs C (⟨d, .mv x, none⟩ :: r) T H K = wRegs C r (upO T d (sX T x)) H K := _root_.id rfl
open Classical in
theorem ar_pick (c a b : Opd) : wRegs C (⟨d, .pick c a b, none⟩ :: r) T H K = if sX T c = .bool true then wRegs C r (upO T d (sX T a)) H K else if sX T c = .bool false then wRegs C r (upO T d (sX T b)) H K else False := by
  simp only [wRegs, sG, wOp, cond_true]
  by_cases h : sX T c = .bool true
  · rw [if_pos h, h]; simp
  · rw [if_neg h]
    by_cases h' : sX T c = .bool false
    · rw [if_pos h', h']; simp
    · rw [if_neg h']
      simp only [eq_iff_iff, iff_false, not_exists, not_and]
      intro v hv
      cases v
      · exact absurd hv h'
      · exact absurd hv h
theorem ar_new (z : List AVal) : wRegs C (⟨d, .new z, none⟩ :: r) T H K = wRegs C r (upO T d (oNew H z).1) (oNew H z).2 K := _root_.id rfl
theorem ar_box (x : Opd) : wRegs C (⟨d, .box x, none⟩ :: r) T H K = wRegs C r (upO T d (oNew H (sX T x).cells).1) (oNew H (sX T x).cells).2 K := _root_.id rfl
theorem ar_build (z : List AVal) (ps : List (Nat × Nat × Opd)) : wRegs C (⟨d, .build z ps, none⟩ :: r) T H K = OptK (aBuild z (sXP T ps)) C r T d H K := _root_.id rfl
theorem ar_buildSl (n : Nat) (z : List AVal) (ps : List (Nat × Nat × Opd)) : wRegs C (⟨d, .buildSl n z ps, none⟩ :: r) T H K = OptH (aBuildSl n z H (sXP T ps)) C r T d K := _root_.id rfl
theorem ar_load (a : Bool) (n : Nat) (x : Opd) : wRegs C (⟨d, .load a n x, none⟩ :: r) T H K = OptK (oLoad a n H (sX T x)) C r T d H K := _root_.id rfl
theorem ar_store (n : Nat) (a x : Opd) : wRegs C (⟨d, .store n a x, none⟩ :: r) T H K = OptS (oStore n H (sX T a) (sX T x)) C r T d K := _root_.id rfl
theorem ar_nilChk (x : Opd) : wRegs C (⟨d, .nilChk x, none⟩ :: r) T H K = OptK (aNilChk (sX T x)) C r T d H K := _root_.id rfl
theorem ar_bin (op : BinOp) (x y : Opd) : wRegs C (⟨d, .bin op x y, none⟩ :: r) T H K = OptK (aBin op (sX T x) (sX T y)) C r T d H K := _root_.id rfl
theorem ar_un (op : UnOp) (x : Opd) : wRegs C (⟨d, .un op x, none⟩ :: r) T H K = OptK (aUn op (sX T x)) C r T d H K := _root_.id rfl
theorem ar_conv (k : IntKind) (x : Opd) : wRegs C (⟨d, .conv k x, none⟩ :: r) T H K = OptK (aConv k (sX T x)) C r T d H K := _root_.id rfl
theorem ar_convSB (x : Opd) : wRegs C (⟨d, .convSB x, none⟩ :: r) T H K = OptH (aSB H (sX T x)) C r T d K := _root_.id rfl
theorem ar_convBS (x : Opd) : wRegs C (⟨d, .convBS x, none⟩ :: r) T H K = OptK (aBS H (sX T x)) C r T d H K := _root_.id rfl
theorem ar_mkFunc (fn : Fn) (a b : List Opd) : wRegs C (⟨d, .mkFunc fn a b, none⟩ :: r) T H K = wRegs C r (upO T d (.func fn (sXs T a) (sXs T b))) H K := _root_.id rfl
theorem ar_mkIface (t : TypeId) (x : Opd) : wRegs C (⟨d, .mkIface t x, none⟩ :: r) T H K = wRegs C r (upO T d (.iface t (sX T x))) H K := _root_.id rfl
theorem ar_mkSlice (b : Nat) (z : List AVal) (l c : Opd) : wRegs C (⟨d, .mkSlice b z l c, none⟩ :: r) T H K = OptH (aMake b z H (sX T l) (sX T c)) C r T d K := _root_.id rfl
theorem ar_sl (n : Nat) (x : Opd) (lo hi mx : Option Opd) : wRegs C (⟨d, .sl n x lo hi mx, none⟩ :: r) T H K = OptK (aSl n (sX T x) (sXO T lo) (sXO T hi) (sXO T mx)) C r T d H K := _root_.id rfl
theorem ar_slStr (x : Opd) (lo hi : Option Opd) : wRegs C (⟨d, .slStr x lo hi, none⟩ :: r) T H K = OptK (aSlStr (sX T x) (sXO T lo) (sXO T hi)) C r T d H K := _root_.id rfl
theorem ar_fieldA (o : Nat) (x : Opd) : wRegs C (⟨d, .fieldA o x, none⟩ :: r) T H K = OptK (aField o (sX T x)) C r T d H K := _root_.id rfl
theorem ar_field (a : Bool) (n o : Nat) (x : Opd) : wRegs C (⟨d, .field a n o x, none⟩ :: r) T H K = OptK (aFieldV a n o (sX T x)) C r T d H K := _root_.id rfl
theorem ar_idxA (n : Nat) (x i : Opd) : wRegs C (⟨d, .idxA n x i, none⟩ :: r) T H K = OptK (aIdxA n (sX T x) (sX T i)) C r T d H K := _root_.id rfl
theorem ar_idxArr (m n : Nat) (x i : Opd) : wRegs C (⟨d, .idxArr m n x i, none⟩ :: r) T H K = OptK (aIdxArr m n (sX T x) (sX T i)) C r T d H K := _root_.id rfl
theorem ar_idx (m n : Nat) (a : Bool) (x i : Opd) : wRegs C (⟨d, .idx m n a x i, none⟩ :: r) T H K = OptK (aIdx m n a (sX T x) (sX T i)) C r T d H K := _root_.id rfl
theorem ar_idxS (x i : Opd) : wRegs C (⟨d, .idxS x i, none⟩ :: r) T H K = OptK (aIdxS (sX T x) (sX T i)) C r T d H K := _root_.id rfl
theorem ar_extract (i : Nat) (x : Opd) : wRegs C (⟨d, .extract i x, none⟩ :: r) T H K = OptK (aExtract i (sX T x)) C r T d H K := _root_.id rfl
theorem ar_append (n b : Nat) (s x : Opd) : wRegs C (⟨d, .append n b s x, none⟩ :: r) T H K = OptH (aAppend n b H (sX T s) (sX T x)) C r T d K := _root_.id rfl
theorem ar_len (s : Bool) (x : Opd) : wRegs C (⟨d, .len s x, none⟩ :: r) T H K = OptK (aLenK s (sX T x)) C r T d H K := _root_.id rfl
theorem ar_call (f : FuncId) (args : List Opd) : wRegs C (⟨d, .call f args, none⟩ :: r) T H K = C f (sXs T args) H (kont C r T d K) := _root_.id rfl
def callvP (C : CS) (f : AVal) (args : List AVal) (H : AHeap) (K : AVal → AHeap → Prop) : Prop := ∃ g a b, f = .func (.func g) a b ∧ C g (a ++ args ++ b) H K
theorem callvP_func (g : FuncId) (a b args : List AVal) (K : AVal → AHeap → Prop) : callvP C (.func (.func g) a b) args H K = C g (a ++ args ++ b) H K := by
  simp only [callvP, AVal.func.injEq, Fn.func.injEq]
  apply propext
  constructor
  · rintro ⟨g, a, b, ⟨rfl, rfl, rfl⟩, h⟩; exact h
  · intro h; exact ⟨_, _, _, ⟨rfl, rfl, rfl⟩, h⟩
theorem ar_callv (f : Opd) (args : List Opd) : wRegs C (⟨d, .callv f args, none⟩ :: r) T H K = callvP C (sX T f) (sXs T args) H (kont C r T d K) := _root_.id rfl
theorem ar_pf (f : PF) (xs : List Opd) : wRegs C (⟨d, .pf f xs, none⟩ :: r) T H K = OptK (aPf f (sXs T xs)) C r T d H K := _root_.id rfl
theorem ar_hf (f : HF) (xs : List Opd) : wRegs C (⟨d, .hf f xs, none⟩ :: r) T H K = OptH (aHf f H (sXs T xs)) C r T d K := _root_.id rfl
theorem ar_slA (m n : Nat) (x : Opd) (lo hi mx : Option Opd) : wRegs C (⟨d, .slA m n x lo hi mx, none⟩ :: r) T H K = OptK (aSlArr m n (sX T x) (sXO T lo) (sXO T hi) (sXO T mx)) C r T d H K := _root_.id rfl
theorem upO_some (i : Nat) (v : AVal) : upO T (some i) v = up T i v := _root_.id rfl
theorem upO_none (v : AVal) : upO T none v = T := _root_.id rfl
theorem sX_t (i : Nat) : sX T (.t i) = T i := _root_.id rfl
theorem sX_c (v : AVal) : sX T (.c v) = v := _root_.id rfl
theorem sX_f (i : Nat) : sX T (.f i) = .func (.func i) [] [] := _root_.id rfl
theorem fin_ret (res : List ARes) (K : AVal → AHeap → Prop) : fin res K .ret T H = OptP (wRes T H res) fun l => K (aresV l) H := _root_.id rfl
theorem fin_normal (res : List ARes) (K : AVal → AHeap → Prop) : fin res K .normal T H = OptP (wRes T H res) fun l => K (aresV l) H := _root_.id rfl
theorem fin_t (i : Nat) (K : AVal → AHeap → Prop) : fin [.t i] K .ret T H = K (T i) H := by
  simp only [fin, wRes, OptP_some]; rfl
theorem fin_t2 (i j : Nat) (K : AVal → AHeap → Prop) : fin [.t i, .t j] K .ret T H = K (.tuple [T i, T j]) H := by
  simp only [fin, wRes, OptP_some]; rfl
theorem fin_t3 (i j k : Nat) (K : AVal → AHeap → Prop) : fin [.t i, .t j, .t k] K .ret T H = K (.tuple [T i, T j, T k]) H := by
  simp only [fin, wRes, OptP_some]; rfl
/-! regions that draw their order, where nothing has to be looked at again -/
def CMono (C : CS) : Prop := ∀ f a H (K K' : AVal → AHeap → Prop), (∀ v H, K v H → K' v H) → C f a H K → C f a H K'
theorem calls_mono (P : Program) (N : ANat) : CMono (ACalls P N) := fun _ _ _ _ _ h hc => hc.mono h
theorem wOp_mono (hC : CMono C) {K K' : AVal → AHeap → Prop} (h : ∀ v H, K v H → K' v H) {o : AOp} (hw : wOp C T H K o) : wOp C T H K' o := by
  cases o
  case call f args => exact hC _ _ _ _ _ h hw
  case callv f args => obtain ⟨g, a, b, h1, h2⟩ := hw; exact ⟨g, a, b, h1, hC _ _ _ _ _ h h2⟩
  case pick c a b => obtain ⟨v, h1, h2⟩ := hw; exact ⟨v, h1, h _ _ h2⟩
  case bad => exact hw
  all_goals first
    | exact h _ _ hw
    | exact OptP.mono hw fun v hv => h _ _ hv
theorem wTr_regs (hC : CMono C) : ∀ (l : List AOper) {T : Env} {H : AHeap} {K : List (AVal × AHeap) → Env → AHeap → Prop} {K' : Env → AHeap → Prop}, (∀ ss T H, K' T H → K ss T H) → wRegs C l T H K' → wTr C l T H K := by
  intro l
  induction l with
  | nil => intro T H K K' h hw; exact h _ _ _ hw
  | cons o l ih =>
    intro T H K K' h hw
    simp only [wRegs, wTr] at hw ⊢
    cases hg : sG T o.guard with
    | false => rw [hg] at hw; exact ih (fun ss T H => h _ T H) hw
    | true =>
      rw [hg] at hw
      simp only [cond_true] at hw ⊢
      exact wOp_mono hC (fun v H' hw => ih (fun ss T H => h _ T H) hw) hw
def allNil : List (List Nat) → Bool
  | [] => true
  | [] :: r => allNil r
  | _ :: _ => false
theorem ck_nil {hs : List AHeap} : ∀ (l : List AOper) (ps : List (List Nat)) (ss : List (AVal × AHeap)) (T : Env), allNil ps = true → wCk hs l ps ss T
  | [], _, _, _, _ => trivial
  | o :: l, [], _, _, _ => trivial
  | o :: l, [] :: ps, [], _, _ => trivial
  | o :: l, [] :: ps, (v, Hv) :: ss, T, h => ⟨fun p hp => by simp at hp, ck_nil l ps ss _ h⟩
  | o :: l, (q :: p) :: ps, _, _, h => by simp [allNil] at h
def noNew : List AOper → Bool
  | [] => true
  | o :: r => match newOf o.op with
    | some _ => false
    | none => noNew r
theorem claims_noNew : ∀ (l : List AOper), noNew l = true → ∀ (b : Nat) (H : AHeap), claims b l = l ∧ reserves H l = H
  | [], _, b, H => ⟨rfl, rfl⟩
  | o :: r, h, b, H => by
    cases hz : newOf o.op with
    | some p => simp [noNew, hz] at h
    | none =>
      simp only [noNew, hz] at h
      exact ⟨by simp only [claims, hz, (claims_noNew r h b H).1], by simp only [reserves, hz, (claims_noNew r h b H).2]⟩
theorem regs_wTr (hC : CMono C) : ∀ (l : List AOper) {T : Env} {H : AHeap} {K : List (AVal × AHeap) → Env → AHeap → Prop} {K' : Env → AHeap → Prop}, (∀ ss T H, K ss T H → K' T H) → wTr C l T H K → wRegs C l T H K' := by
  intro l
  induction l with
  | nil => intro T H K K' h hw; exact h _ _ _ hw
  | cons o l ih =>
    intro T H K K' h hw
    simp only [wRegs, wTr] at hw ⊢
    cases hg : sG T o.guard with
    | false => rw [hg] at hw; exact ih (fun ss T H => h _ T H) hw
    | true =>
      rw [hg] at hw
      simp only [cond_true] at hw ⊢
      exact wOp_mono hC (fun v H' hw => ih (fun ss T H => h _ T H) hw) hw
theorem wTr_mono (hC : CMono C) : ∀ (l : List AOper) {T : Env} {H : AHeap} {K K' : List (AVal × AHeap) → Env → AHeap → Prop}, (∀ ss T H, K ss T H → K' ss T H) → wTr C l T H K → wTr C l T H K' := by
  intro l
  induction l with
  | nil => intro T H K K' h hw; exact h _ _ _ hw
  | cons o l ih =>
    intro T H K K' h hw
    simp only [wTr] at hw ⊢
    cases hg : sG T o.guard with
    | false => rw [hg] at hw; exact ih (fun ss T H => h _ T H) hw
    | true =>
      rw [hg] at hw
      simp only [cond_true] at hw ⊢
      exact wOp_mono hC (fun v H' hw => ih (fun ss T H => h _ T H) hw) hw
theorem wRegs_mono (hC : CMono C) : ∀ (l : List AOper) {T : Env} {H : AHeap} {K K' : Env → AHeap → Prop}, (∀ T H, K T H → K' T H) → wRegs C l T H K → wRegs C l T H K' := by
  intro l
  induction l with
  | nil => intro T H K K' h hw; exact h _ _ hw
  | cons o l ih =>
    intro T H K K' h hw
    simp only [wRegs] at hw ⊢
    cases hg : sG T o.guard with
    | false => rw [hg] at hw; exact ih h hw
    | true =>
      rw [hg] at hw
      simp only [cond_true] at hw ⊢
      exact wOp_mono hC (fun v H' hw => ih h hw) hw
theorem inSeq_mono {Q Q' : Post} {K K' : Env → AHeap → Prop} (h : ∀ e T H, Q e T H → Q' e T H) (hk : ∀ T H, K T H → K' T H) (e : AEx) (T : Env) (H : AHeap) (hq : inSeq Q K e T H) : inSeq Q' K' e T H := by
  cases e with
  | normal => exact hk _ _ hq
  | exit i => exact h _ _ _ hq
  | ret => exact h _ _ _ hq
theorem wp_mono' (hC : CMono C) : ∀ (c : ACode) {Q Q' : Post} {T : Env} {H : AHeap}, (∀ e T H, Q e T H → Q' e T H) → wp C c Q T H → wp C c Q' T H := by
  intro c
  induction c with
  | skip => intro Q Q' T H h hw; exact h _ _ _ hw
  | reg l => intro Q Q' T H h hw; exact wRegs_mono hC l (h .normal) hw
  | draw l chk => intro Q Q' T H h hw; exact wTr_mono hC _ (fun ss T' H' hk => ⟨hk.1, h _ _ _ hk.2⟩) hw
  | seq a b iha ihb => intro Q Q' T H h hw; exact iha (inSeq_mono h fun T H hk => ihb h hk) hw
  | cond c a b iha ihb =>
    intro Q Q' T H h hw
    obtain ⟨v, h1, h2⟩ := hw
    refine ⟨v, h1, ?_⟩
    cases v with
    | true => exact iha h h2
    | false => exact ihb h h2
  | block id c ih =>
    intro Q Q' T H h hw
    refine ih (fun e T H hk => ?_) hw
    cases e with
    | exit j =>
      simp only [inBlk] at hk ⊢
      cases hb : Nat.beq j id with
      | true => rw [hb] at hk; exact h _ _ _ hk
      | false => rw [hb] at hk; exact h _ _ _ hk
    | normal => exact h _ _ _ hk
    | ret => exact h _ _ _ hk
  | loop c ih =>
    intro Q Q' T H h hw
    obtain ⟨I, hm, hI⟩ := hw
    exact ⟨I, hm, fun m T H hi => ih (inSeq_mono h fun _ _ hk => hk) (hI m T H hi)⟩
  | exit id => intro Q Q' T H h hw; exact h _ _ _ hw
  | ret => intro Q Q' T H h hw; exact h _ _ _ hw
/-- regions that draw their order, as if they did not, where that is all the same -/
def norm : ACode → ACode
  | .draw l chk => bif allNil chk && noNew l then .reg l else .draw l chk
  | .seq a b => .seq (norm a) (norm b)
  | .cond c a b => .cond c (norm a) (norm b)
  | .block id c => .block id (norm c)
  | .loop c => .loop (norm c)
  | c => c
theorem wp_norm (hC : CMono C) : ∀ (c : ACode) {Q : Post} {T : Env} {H : AHeap}, wp C (norm c) Q T H → wp C c Q T H := by
  intro c
  induction c with
  | skip => intro Q T H hw; exact hw
  | reg l => intro Q T H hw; exact hw
  | draw l chk =>
    intro Q T H hw
    simp only [norm] at hw
    cases hb : allNil chk && noNew l with
    | false => rw [hb] at hw; exact hw
    | true =>
      rw [hb] at hw
      simp only [Bool.and_eq_true] at hb
      simp only [wp, wDraw, (claims_noNew l hb.2 H.next H).1, (claims_noNew l hb.2 H.next H).2]
      exact wTr_regs hC l (K := fun ss T' H' => wCk (H :: ss.map (·.2)) l chk ss T ∧ Q .normal T' H') (fun ss T' H' hk => ⟨ck_nil l chk ss T hb.1, hk⟩) hw
  | seq a b iha ihb => intro Q T H hw; exact wp_mono' hC a (inSeq_mono (fun _ _ _ h => h) fun T H hk => ihb hk) (iha hw)
  | cond c a b iha ihb =>
    intro Q T H hw
    obtain ⟨v, h1, h2⟩ := hw
    refine ⟨v, h1, ?_⟩
    cases v with
    | true => exact iha h2
    | false => exact ihb h2
  | block id c ih => intro Q T H hw; exact ih hw
  | loop c ih =>
    intro Q T H hw
    obtain ⟨I, hm, hI⟩ := hw
    exact ⟨I, hm, fun m T H hi => ih (hI m T H hi)⟩
  | exit id => intro Q T H hw; exact hw
  | ret => intro Q T H hw; exact hw
/-- a function, its regions so turned -/
def cN (P : Program) (f : FuncId) : Option AFn := match cFn P f with
  | some c => some ⟨c.nt, norm c.body, c.res⟩
  | none => none
theorem acalls_ofN {P : Program} {N : ANat} {f : FuncId} {c : AFn} {args : List AVal} {H : AHeap} {K : AVal → AHeap → Prop} (hn : N.is f = false) (hc : cN P f = some c) (hl : Nat.ble args.length c.nt = true) (h : wp (ACalls P N) c.body (fin c.res K) (argE args) H) : ACalls P N f args H K := by
  unfold cN at hc
  cases hf : cFn P f with
  | none => rw [hf] at hc; simp at hc
  | some c' =>
    rw [hf] at hc
    simp only [Option.some.injEq] at hc
    subst hc
    exact acalls_of hn hf hl (wp_norm (calls_mono P N) _ h)
/-- such a region, where something has to be looked at again: it has told ss -/
theorem aw_drawC {l : List AOper} {chk : List (List Nat)} (h2 : noNew l = true) (h : wTr C l T H fun ss T' H' => wCk (H :: ss.map (·.2)) l chk ss T ∧ Q .normal T' H') : wp C (.draw l chk) Q T H := by
  simp only [wp, wDraw, (claims_noNew l h2 H.next H).1, (claims_noNew l h2 H.next H).2]
  exact h
end
theorem argE_0 (a : AVal) (r : List AVal) : argE (a :: r) 0 = a := _root_.id rfl
theorem argE_1 (a b : AVal) (r : List AVal) : argE (a :: b :: r) 1 = b := _root_.id rfl
theorem argE_2 (a b c : AVal) (r : List AVal) : argE (a :: b :: c :: r) 2 = c := _root_.id rfl
theorem argE_3 (a b c d : AVal) (r : List AVal) : argE (a :: b :: c :: d :: r) 3 = d := _root_.id rfl
theorem argE_4 (a b c d e : AVal) (r : List AVal) : argE (a :: b :: c :: d :: e :: r) 4 = e := _root_.id rfl
/-! numbers -/
theorem bin_lss (k : IntKind) (a b : Int) : aBin .lss (.int k a) (.int k b) = some (.bool (decide (a < b))) := by
  simp [aBin, isShift, aIntF_eq, aInt]
theorem bin_leq (k : IntKind) (a b : Int) : aBin .leq (.int k a) (.int k b) = some (.bool (decide (a ≤ b))) := by
  simp [aBin, isShift, aIntF_eq, aInt]
theorem bin_gtr (k : IntKind) (a b : Int) : aBin .gtr (.int k a) (.int k b) = some (.bool (decide (b < a))) := by
  simp [aBin, isShift, aIntF_eq, aInt]
theorem bin_geq (k : IntKind) (a b : Int) : aBin .geq (.int k a) (.int k b) = some (.bool (decide (b ≤ a))) := by
  simp [aBin, isShift, aIntF_eq, aInt]
theorem bin_eql (k : IntKind) (a b : Int) : aBin .eql (.int k a) (.int k b) = some (.bool (decide (a = b))) := by
  simp only [aBin, isShift, aIntF_eq, aInt, cond_false, if_true]
  by_cases h : a = b <;> simp [h]
theorem bin_neq (k : IntKind) (a b : Int) : aBin .neq (.int k a) (.int k b) = some (.bool (!decide (a = b))) := by
  simp only [aBin, isShift, aIntF_eq, aInt, cond_false, if_true]
  by_cases h : a = b <;> simp [h, bne]
theorem bin_add (k : IntKind) (a b : Int) : aBin .add (.int k a) (.int k b) = some (.int k (k.wrap (a + b))) := by
  simp [aBin, isShift, aIntF_eq, aInt]
theorem bin_sub (k : IntKind) (a b : Int) : aBin .sub (.int k a) (.int k b) = some (.int k (k.wrap (a - b))) := by
  simp [aBin, isShift, aIntF_eq, aInt]
theorem bin_mul (k : IntKind) (a b : Int) : aBin .mul (.int k a) (.int k b) = some (.int k (k.wrap (a * b))) := by
  simp [aBin, isShift, aIntF_eq, aInt]
theorem bin_rem (k : IntKind) (a b : Int) (h : b ≠ 0) : aBin .rem (.int k a) (.int k b) = some (.int k (a.tmod b)) := by
  simp [aBin, isShift, aIntF_eq, aInt, h]
theorem bin_remN (a b : Nat) (h : 0 < b) : aBin .rem (.int .i64 (a : Int)) (.int .i64 (b : Int)) = some (.int .i64 ((a % b : Nat) : Int)) := by
  rw [bin_rem _ _ _ (by omega)]; rfl
theorem wrapN (a b : Nat) (h : a + b ≤ 9223372036854775807) : IntKind.i64.wrap ((a : Int) + (b : Int)) = ((a + b : Nat) : Int) := by
  rw [IntKind.wrap_i64]; omega
theorem wrap1 (a : Nat) (h : a + 1 ≤ 9223372036854775807) : IntKind.i64.wrap ((a : Int) + 1) = ((a + 1 : Nat) : Int) := by
  rw [IntKind.wrap_i64]; omega
theorem isSome_of_lt {α : Type} {l : List α} {i : Nat} (h : i < l.length) : ∃ x, l[i]? = some x := ⟨_, List.getElem?_eq_getElem h⟩
def ints (l : List Int) : List AVal := l.map fun n => .int .i64 n
theorem ints_len (l : List Int) : (ints l).length = l.length := by simp [ints]
theorem ints_get {l : List Int} {i : Nat} {n : Int} (h : l[i]? = some n) : (ints l)[i]? = some (.int .i64 n) := by simp [ints, h]
theorem ints_one (l : List Int) : ∀ x ∈ ints l, x.one = true := by intro x hx; simp only [ints, List.mem_map] at hx; obtain ⟨n, _, rfl⟩ := hx; rfl
theorem ints_snoc (l : List Int) (n : Int) : ints (l ++ [n]) = ints l ++ [.int .i64 n] := by simp [ints]
theorem ints_set (l : List Int) (i : Nat) (n : Int) : ints (l.set i n) = (ints l).set i (.int .i64 n) := by simp [ints]
theorem wrap64 {a : Int} (h1 : -9223372036854775808 ≤ a) (h2 : a ≤ 9223372036854775807) : IntKind.i64.wrap a = a := by
  rw [IntKind.wrap_i64]; omega
end Go.Abs.S
/- What makes new memory at most keeps the relation. Plain Lean. -/
namespace Go.Abs
section
variable {P : Program} {Prot : Gh} {w0 : World} {ρ : Pl} {H : AHeap} {w : World}
theorem Rel.keep (R : Rel Prot w0 ρ H w) {w' : World} (hb : RowKit.Below w.heap.size w w') : Rel Prot w0 ρ H w' := by
  refine ⟨hb.os.trans R.os, hb.tape.trans R.tape, hb.output.trans R.output, Nat.le_trans R.size hb.size, fun c hc => ?_, fun b l L h => ?_, fun b l L h => ?_, R.free, R.inj, R.dead, R.glob⟩
  · obtain ⟨h1, h2⟩ := R.prot c hc
    exact ⟨h1, (hb.block c (Nat.lt_of_lt_of_le h1 R.size)).trans h2⟩
  · obtain ⟨h1, h2⟩ := R.dom b l L h
    exact ⟨h1, Nat.lt_of_lt_of_le h2 hb.size⟩
  · obtain ⟨x, o, h1, h2, h3⟩ := R.obj b l L h
    exact ⟨x, o, h1, (hb.block _ (R.dom b l L h).2).trans h2, h3⟩
end
end Go.Abs
/- Symbolic runs of the abstract machine, part 6: regions that draw their order and where something has to be looked at again, step by step; a function that is known to tell 'true'. Printed by program in part. Plain Lean. -/
namespace Go.Abs.S
open Go.Abs
section
variable {C : CS} {T : Env} {H : AHeap} {r : List AOper} {d : Option Nat}
abbrev KT := List (AVal × AHeap) → Env → AHeap → Prop
variable {K : KT}
def consK (v : AVal) (H : AHeap) (K : KT) : KT := fun ss => K ((v, H) :: ss)
theorem consK_app (v : AVal) (H' : AHeap) (ss : List (AVal × AHeap)) : consK v H' K ss T H = K ((v, H') :: ss) T H := _root_.id rfl
def OptKT (o : Option AVal) (C : CS) (r : List AOper) (T : Env) (d : Option Nat) (H : AHeap) (K : KT) : Prop := OptP o fun v => wTr C r (upO T d v) H (consK v H K)
def OptHT (o : Option (AVal × AHeap)) (C : CS) (r : List AOper) (T : Env) (d : Option Nat) (K : KT) : Prop := OptP o fun p => wTr C r (upO T d p.1) p.2 (consK p.1 p.2 K)
def OptST (o : Option AHeap) (C : CS) (r : List AOper) (T : Env) (d : Option Nat) (K : KT) : Prop := OptP o fun H' => wTr C r (upO T d undefA) H' (consK undefA H' K)
def kontT (C : CS) (r : List AOper) (T : Env) (d : Option Nat) (K : KT) : AVal → AHeap → Prop := fun v H' => wTr C r (upO T d v) H' (consK v H' K)
theorem OptKT_some (v : AVal) : OptKT (some v) C r T d H K = wTr C r (upO T d v) H (consK v H K) := OptP_some _ _
theorem OptHT_some (v : AVal) (H' : AHeap) : OptHT (some (v, H')) C r T d K = wTr C r (upO T d v) H' (consK v H' K) := OptP_some _ _
theorem OptST_some (H' : AHeap) : OptST (some H') C r T d K = wTr C r (upO T d undefA) H' (consK undefA H' K) := OptP_some _ _
theorem kontT_app (v : AVal) : kontT C r T d K v H = wTr C r (upO T d v) H (consK v H K) := _root_.id rfl
theorem tr_nil : wTr C [] T H K = K [] T H := _root_.id rfl
open Classical in
theorem tr_guard (o : AOp) (t : Nat) (b : Bool) : wTr C (⟨d, o, some (t, b)⟩ :: r) T H K = if T t = .bool b then wTr C (⟨d, o, none⟩ :: r) T H K else wTr C r (upO T d undefA) H (consK undefA H K) := by
  simp only [wTr, sG]
  by_cases h : T t = .bool b
  · rw [if_pos h, h]; cases b <;> rfl
  · rw [if_neg h]
    have : sGv b (T t) = false := by
      cases hv : T t <;> simp only [sGv]
      rename_i v
      rw [hv] at h
      cases b <;> cases v <;> simp at h ⊢
    rw [this]; rfl
open Classical in
theorem tr_pick (c a b : Opd) : wTr C (⟨d, .pick c a b, none⟩ :: r) T H K = if sX T c = .bool true then wTr C r (upO T d (sX T a)) H (consK (sX T a) H K) else if sX T c = .bool false then wTr C r (upO T d (sX T b)) H (consK (sX T b) H K) else False := by
  simp only [wTr, sG, wOp, cond_true]
  by_cases h : sX T c = .bool true
  · rw [if_pos h, h]; simp; rfl
  · rw [if_neg h]
    by_cases h' : sX T c = .bool false
    · rw [if_pos h', h']; simp; rfl
    · rw [if_neg h']
      simp only [eq_iff_iff, iff_false, not_exists, not_and]
      intro v hv
      cases v
      · exact absurd hv h'
      · exact absurd hv h
theorem tr_mv (x : Opd) : wTr C (⟨d, .mv x, none⟩ :: r) T H K = wTr C r (upO T d (sX T x)) H (consK (sX T x) H K) := _root_.id rfl
theorem tr_new (z : List AVal) : wTr C (⟨d, .new z, none⟩ :: r) T H K = wTr C r (upO T d (oNew H z).1) (oNew H z).2 (consK (oNew H z).1 (oNew H z).2 K) := _root_.id rfl
theorem tr_box (x : Opd) : wTr C (⟨d, .box x, none⟩ :: r) T H K = wTr C r (upO T d (oNew H (sX T x).cells).1) (oNew H (sX T x).cells).2 (consK (oNew H (sX T x).cells).1 (oNew H (sX T x).cells).2 K) := _root_.id rfl
theorem tr_build (z : List AVal) (ps : List (Nat × Nat × Opd)) : wTr C (⟨d, .build z ps, none⟩ :: r) T H K = OptKT (aBuild z (sXP T ps)) C r T d H K := _root_.id rfl
theorem tr_buildSl (n : Nat) (z : List AVal) (ps : List (Nat × Nat × Opd)) : wTr C (⟨d, .buildSl n z ps, none⟩ :: r) T H K = OptHT (aBuildSl n z H (sXP T ps)) C r T d K := _root_.id rfl
theorem tr_load (a : Bool) (n : Nat) (x : Opd) : wTr C (⟨d, .load a n x, none⟩ :: r) T H K = OptKT (oLoad a n H (sX T x)) C r T d H K := _root_.id rfl
theorem tr_store (n : Nat) (a x : Opd) : wTr C (⟨d, .store n a x, none⟩ :: r) T H K = OptST (oStore n H (sX T a) (sX T x)) C r T d K := _root_.id rfl
theorem tr_nilChk (x : Opd) : wTr C (⟨d, .nilChk x, none⟩ :: r) T H K = OptKT (aNilChk (sX T x)) C r T d H K := _root_.id rfl
theorem tr_bin (op : BinOp) (x y : Opd) : wTr C (⟨d, .bin op x y, none⟩ :: r) T H K = OptKT (aBin op (sX T x) (sX T y)) C r T d H K := _root_.id rfl
theorem tr_un (op : UnOp) (x : Opd) : wTr C (⟨d, .un op x, none⟩ :: r) T H K = OptKT (aUn op (sX T x)) C r T d H K := _root_.id rfl
theorem tr_conv (k : IntKind) (x : Opd) : wTr C (⟨d, .conv k x, none⟩ :: r) T H K = OptKT (aConv k (sX T x)) C r T d H K := _root_.id rfl
theorem tr_convSB (x : Opd) : wTr C (⟨d, .convSB x, none⟩ :: r) T H K = OptHT (aSB H (sX T x)) C r T d K := _root_.id rfl
theorem tr_convBS (x : Opd) : wTr C (⟨d, .convBS x, none⟩ :: r) T H K = OptKT (aBS H (sX T x)) C r T d H K := _root_.id rfl
theorem tr_mkFunc (fn : Fn) (a b : List Opd) : wTr C (⟨d, .mkFunc fn a b, none⟩ :: r) T H K = wTr C r (upO T d (.func fn (sXs T a) (sXs T b))) H (consK (.func fn (sXs T a) (sXs T b)) H K) := _root_.id rfl
theorem tr_mkIface (t : TypeId) (x : Opd) : wTr C (⟨d, .mkIface t x, none⟩ :: r) T H K = wTr C r (upO T d (.iface t (sX T x))) H (consK (.iface t (sX T x)) H K) := _root_.id rfl
theorem tr_mkSlice (b : Nat) (z : List AVal) (l c : Opd) : wTr C (⟨d, .mkSlice b z l c, none⟩ :: r) T H K = OptHT (aMake b z H (sX T l) (sX T c)) C r T d K := _root_.id rfl
theorem tr_sl (n : Nat) (x : Opd) (lo hi mx : Option Opd) : wTr C (⟨d, .sl n x lo hi mx, none⟩ :: r) T H K = OptKT (aSl n (sX T x) (sXO T lo) (sXO T hi) (sXO T mx)) C r T d H K := _root_.id rfl
theorem tr_slStr (x : Opd) (lo hi : Option Opd) : wTr C (⟨d, .slStr x lo hi, none⟩ :: r) T H K = OptKT (aSlStr (sX T x) (sXO T lo) (sXO T hi)) C r T d H K := _root_.id rfl
theorem tr_fieldA (o : Nat) (x : Opd) : wTr C (⟨d, .fieldA o x, none⟩ :: r) T H K = OptKT (aField o (sX T x)) C r T d H K := _root_.id rfl
theorem tr_field (a : Bool) (n o : Nat) (x : Opd) : wTr C (⟨d, .field a n o x, none⟩ :: r) T H K = OptKT (aFieldV a n o (sX T x)) C r T d H K := _root_.id rfl
theorem tr_idxA (n : Nat) (x i : Opd) : wTr C (⟨d, .idxA n x i, none⟩ :: r) T H K = OptKT (aIdxA n (sX T x) (sX T i)) C r T d H K := _root_.id rfl
theorem tr_idxArr (m n : Nat) (x i : Opd) : wTr C (⟨d, .idxArr m n x i, none⟩ :: r) T H K = OptKT (aIdxArr m n (sX T x) (sX T i)) C r T d H K := _root_.id rfl
theorem tr_idx (m n : Nat) (a : Bool) (x i : Opd) : wTr C (⟨d, .idx m n a x i, none⟩ :: r) T H K = OptKT (aIdx m n a (sX T x) (sX T i)) C r T d H K := _root_.id rfl
theorem tr_idxS (x i : Opd) : wTr C (⟨d, .idxS x i, none⟩ :: r) T H K = OptKT (aIdxS (sX T x) (sX T i)) C r T d H K := _root_.id rfl
theorem tr_extract (i : Nat) (x : Opd) : wTr C (⟨d, .extract i x, none⟩ :: r) T H K = OptKT (aExtract i (sX T x)) C r T d H K := _root_.id rfl
theorem tr_append (n b : Nat) (s x : Opd) : wTr C (⟨d, .append n b s x, none⟩ :: r) T H K = OptHT (aAppend n b H (sX T s) (sX T x)) C r T d K := _root_.id rfl
theorem tr_len (s : Bool) (x : Opd) : wTr C (⟨d, .len s x, none⟩ :: r) T H K = OptKT (aLenK s (sX T x)) C r T d H K := _root_.id rfl
theorem tr_call (f : FuncId) (args : List Opd) : wTr C (⟨d, .call f args, none⟩ :: r) T H K = C f (sXs T args) H (kontT C r T d K) := _root_.id rfl
theorem tr_callv (f : Opd) (args : List Opd) : wTr C (⟨d, .callv f args, none⟩ :: r) T H K = callvP C (sX T f) (sXs T args) H (kontT C r T d K) := _root_.id rfl
theorem tr_pf (f : PF) (xs : List Opd) : wTr C (⟨d, .pf f xs, none⟩ :: r) T H K = OptKT (aPf f (sXs T xs)) C r T d H K := _root_.id rfl
theorem tr_hf (f : HF) (xs : List Opd) : wTr C (⟨d, .hf f xs, none⟩ :: r) T H K = OptHT (aHf f H (sXs T xs)) C r T d K := _root_.id rfl
theorem tr_slA (m n : Nat) (x : Opd) (lo hi mx : Option Opd) : wTr C (⟨d, .slA m n x lo hi mx, none⟩ :: r) T H K = OptKT (aSlArr m n (sX T x) (sXO T lo) (sXO T hi) (sXO T mx)) C r T d H K := _root_.id rfl
/-! looking again -/
theorem ck_nil' (hs : List AHeap) (o : AOper) (l : List AOper) (ps : List (List Nat)) (v : AVal) (Hv : AHeap) (ss : List (AVal × AHeap)) : wCk hs (o :: l) ([] :: ps) ((v, Hv) :: ss) T = wCk hs l ps ss (upO T o.dst v) := by
  simp [wCk]
def ckP (hs : List AHeap) (ps : List Nat) (T : Env) (o : AOper) (v : AVal) : Prop := ∀ p ∈ ps, ∃ Hp, hs[p]? = some Hp ∧ (sG T o.guard = true → ∃ u, wLd T Hp o.op = some u ∧ aeq u v = true)
theorem ck_cons (hs : List AHeap) (o : AOper) (l : List AOper) (p : Nat) (q : List Nat) (ps : List (List Nat)) (v : AVal) (Hv : AHeap) (ss : List (AVal × AHeap)) : wCk hs (o :: l) ((p :: q) :: ps) ((v, Hv) :: ss) T = (ckP hs (p :: q) T o v ∧ wCk hs l ps ss (upO T o.dst v)) := by
  simp [wCk, ckP]
theorem ck_end (hs : List AHeap) (ps : List (List Nat)) (ss : List (AVal × AHeap)) : wCk hs [] ps ss T = True := by
  cases ps <;> simp [wCk]
theorem ckP_nil (hs : List AHeap) (o : AOper) (v : AVal) : ckP hs [] T o v = True := by simp [ckP]
theorem ckP_load (hs : List AHeap) (p : Nat) (q : List Nat) (a : Bool) (n : Nat) (x : Opd) (g : Option (Nat × Bool)) (v : AVal) : ckP hs (p :: q) T ⟨d, .load a n x, g⟩ v = ((∃ Hp, hs[p]? = some Hp ∧ (sG T g = true → ∃ u, oLoad a n Hp (sX T x) = some u ∧ aeq u v = true)) ∧ ckP hs q T ⟨d, .load a n x, g⟩ v) := by
  simp [ckP, wLd]
theorem aeq_int (k : IntKind) (a : Int) : aeq (.int k a) (.int k a) = true := by simp [aeq, eqF_eq]
theorem aeq_bool (a : Bool) : aeq (.bool a) (.bool a) = true := by simp [aeq]
theorem aeq_str (a : List UInt8) : aeq (.str a) (.str a) = true := by simp [aeq]
end
/-! a function that tells 'true', whatever the world -/
def natB (f : FuncId) : ANat := ⟨fun g => Nat.beq g f, fun g args H => bif Nat.beq g f then (match args with | [] => some (.bool true, H) | _ => none) else none⟩
theorem natB_ok {P : Program} {f : FuncId} (hb : hasBody P f = true) (h : ∀ w, Calls P f #[] w fun e w' => e = .returned (.bool true) ∧ RowKit.Below w.heap.size w w') : NatOK P (natB f) := by
  refine ⟨fun g hg => ?_, fun g args H v H' hr Prot w0 ρ w vs R hv => ?_⟩
  · obtain rfl : g = f := Nat.eq_of_beq_eq_true hg
    exact hb
  · simp only [natB] at hr
    cases hg : Nat.beq g f with
    | false => rw [hg] at hr; simp at hr
    | true =>
      rw [hg] at hr
      obtain rfl : g = f := Nat.eq_of_beq_eq_true hg
      simp only [cond_true] at hr
      split at hr
      · simp only [Option.some.injEq, Prod.mk.injEq] at hr
        obtain ⟨rfl, rfl⟩ := hr
        simp only [VRels] at hv
        obtain rfl : vs = #[] := Array.toList_inj.1 (by simpa using hv)
        exact (h w).mono fun e w' ⟨he, hk⟩ => ⟨ρ, _, Pl.le_refl _, he, R.keep hk, by simp only [VRel]⟩
      · simp at hr
theorem natB_is {f g : Nat} (h : f ≠ g) : (natB f).is g = false := by
  show Nat.beq g f = false
  rw [beq_dec]; exact decide_eq_false fun e => h e.symm
theorem natB_call {P : Program} {f : FuncId} {H : AHeap} {K : AVal → AHeap → Prop} (h : K (.bool true) H) : ACalls P (natB f) f [] H K :=
  acalls_nat (by show Nat.beq f f = true; exact Nat.beq_refl f) (by simp [natB]) h
end Go.Abs.S
/- Symbolic runs of the abstract machine, part 7: slices that came in. Plain Lean. -/
namespace Go.Abs.S
open Go.Abs
/-- a slice that came in: room that is known -/
def ArgS (n : Nat) (H : AHeap) (s : AVal) (l : List AVal) : Prop :=
  (s = nilS ∧ l = []) ∨ ∃ a cap, s = .slice (some a) l.length (.known cap) ∧ l.length ≤ cap ∧ a.b < n ∧ rdCells H a l.length = some l
theorem ArgS.cel {n : Nat} {H : AHeap} {s : AVal} {l : List AVal} (h : ArgS n H s l) : Cel n H s l := by
  rcases h with h | ⟨a, c, h1, h2, h3, h4⟩
  · exact .inl h
  · exact .inr ⟨a, _, h1, h3, h4⟩
theorem ArgS.ext {n : Nat} {H H' : AHeap} {s : AVal} {l : List AVal} (h : ArgS n H s l) (e : Ext n H H') : ArgS n H' s l := by
  rcases h with h | ⟨a, c, h1, h2, h3, h4⟩
  · exact .inl h
  · exact .inr ⟨a, c, h1, h2, h3, by rw [rd_congr (e.old _ h3)]; exact h4⟩
theorem rd_pre {H : AHeap} {a : Ad} {n k : Nat} {xs : List AVal} (h : rdCells H a n = some xs) (hk : k ≤ n) : rdCells H a k = some (xs.take k) := by
  obtain ⟨l, low, ro, h1, h2, h3, h4, rfl⟩ := rd_spec h
  unfold rdCells
  simp only [h1, Nat.ble_eq_true_of_le h2, Nat.ble_eq_true_of_le h3, Nat.ble_eq_true_of_le (show a.o + k ≤ a.lim by omega), Bool.and_self, cond_true]
  rw [List.take_take, Nat.min_eq_left hk]
theorem ArgS.take {n : Nat} {H : AHeap} {s : AVal} {l : List AVal} (h : ArgS n H s l) {k : Nat} (hk : k ≤ l.length) : ∃ s', aSl 1 s none (some (.int .i64 (k : Int))) none = some s' ∧ ArgS n H s' (l.take k) := by
  have hbd : ∀ c, k ≤ c → aBnd l.length c none (some (.int .i64 (k : Int))) none = some (0, k, none) := by
    intro c hc
    show (match bdO (some (AVal.int .i64 (Int.ofNat k))) c l.length with | some h => (match bdO none h 0 with | some l => some (l, h, none) | none => none) | none => none) = _
    simp only [bdO, bd, Nat.ble_eq_true_of_le hc, cond_true]
  rcases h with ⟨rfl, rfl⟩ | ⟨a, c, rfl, h2, h3, h4⟩
  · obtain rfl : k = 0 := by simpa using hk
    exact ⟨nilS, rfl, .inl ⟨rfl, rfl⟩⟩
  · have hlt : (l.take k).length = k := by simp; omega
    have hr := rd_pre h4 hk
    simp only [aSl, hbd c (by omega), Option.getD_none, Nat.sub_zero, Nat.zero_mul, Nat.add_zero]
    cases Nat.beq c 0 with
    | true => exact ⟨_, rfl, .inr ⟨a, c, by rw [hlt], by omega, h3, by rw [hlt]; exact hr⟩⟩
    | false => exact ⟨_, rfl, .inr ⟨a, c, by rw [hlt], by omega, h3, by rw [hlt]; exact hr⟩⟩
theorem row_newL (H : AHeap) (l : List AVal) {n : Nat} (hn : l.length = n) : ∃ H', oNew H l = (cellR H.next n 0, H') ∧ Row H' H.next l ∧ H'.next = H.next + 1 ∧ ∀ c, c ≠ H.next → H'.get c = H.get c := by
  subst hn
  exact ⟨_, rfl, row_push _ _, rfl, fun c hc => by rw [AHeap.get_push, if_neg hc]⟩
theorem cells_agg (l : List AVal) : (AVal.agg l).cells = l := _root_.id rfl
theorem ext_0 (x : AVal) (r : List AVal) : aExtract 0 (.tuple (x :: r)) = some x := _root_.id rfl
theorem ext_1 (x y : AVal) (r : List AVal) : aExtract 1 (.tuple (x :: y :: r)) = some y := _root_.id rfl
theorem ext_2 (x y z : AVal) (r : List AVal) : aExtract 2 (.tuple (x :: y :: z :: r)) = some z := _root_.id rfl
theorem arr_idx {b n i : Nat} (h : i < n) (k : IntKind) : aIdxArr n 1 (cellR b n 0) (.int k (i : Int)) = some (cellR b n i) := by
  show (bif Nat.blt i n then some (AVal.ptr (some ⟨b, n, 0 + i * 1⟩)) else none) = _
  have : Nat.blt i n = true := by simpa [Nat.blt_eq] using h
  rw [this, Nat.zero_add, Nat.mul_one]; rfl
theorem Ext.of_new {H H' : AHeap} {b : Nat} (hn : H'.next = H.next + 1) (h : ∀ c, c ≠ b → H'.get c = H.get c) {n : Nat} (hb : n ≤ b) : Ext n H H' := ⟨by omega, fun c hc => h c (by omega)⟩
/-! what came in, out of the world -/
theorem rd_world {w : World} {c n off len : Nat} (hr : rowOf w c = some n) (hb : off + len ≤ n) {l : List AVal} (hl : l.length = len)
    (h : ∀ i, i < len → ∃ v, w.cell? ⟨c, off + i, none⟩ = some v ∧ l[i]? = some (absW w v)) : rdCells (heapW w) ⟨c, n, off⟩ len = some l := by
  obtain ⟨C, e, fz, h1, h2, h3⟩ := objW_some hr
  unfold rdCells
  rw [heapW_get, h3]
  simp only [List.length_map, Array.length_toList, h2, Nat.ble_eq_true_of_le (Nat.zero_le _), Nat.ble_eq_true_of_le (Nat.le_refl _), Nat.ble_eq_true_of_le hb, Bool.and_self, cond_true, Option.some.injEq]
  apply List.ext_getElem?
  intro i
  by_cases hi : i < len
  · obtain ⟨v, q1, q2⟩ := h i hi
    rw [q2, List.getElem?_take_of_lt hi, List.getElem?_drop, List.getElem?_map, Array.getElem?_toList]
    rw [cell?_of h1] at q1
    rw [q1]; rfl
  · rw [List.getElem?_eq_none (by simp; omega), List.getElem?_eq_none (by omega)]
end Go.Abs.S
/- Symbolic runs of the abstract machine, part 8: lists of numbers that came in, out of the world. Plain Lean. -/
namespace Go.Abs.S
open Go.Abs Go.WideShapes Go.ChangeShapes
theorem rowAt_off {p : Program} {fits : TypeId → Bool} {d : Nat} {e : TypeId} {count off n : Nat} (h : rowAt p fits d e count off n = true) : off ≤ count * p.cellsOf e := by
  cases d with
  | zero => simp [rowAt] at h
  | succ d =>
    unfold rowAt at h
    simp only at h
    split at h
    · simp at h
    · rename_i hs
      have hdiv := Nat.div_add_mod off (p.cellsOf e)
      have hmod := Nat.mod_lt off (Nat.pos_of_ne_zero hs)
      have key : off / p.cellsOf e ≤ count → (off % p.cellsOf e = 0 ∨ off / p.cellsOf e < count) → off ≤ count * p.cellsOf e := by
        intro h1 h2
        rcases h2 with h2 | h2
        · have := Nat.mul_le_mul_right (p.cellsOf e) h1
          rw [Nat.mul_comm] at hdiv
          omega
        · have := Nat.mul_le_mul_right (p.cellsOf e) (Nat.succ_le_of_lt h2)
          rw [Nat.succ_mul] at this
          rw [Nat.mul_comm] at hdiv
          omega
      simp only [Bool.or_eq_true, Bool.and_eq_true, decide_eq_true_eq, beq_iff_eq] at h
      rcases h with ⟨⟨h1, h2⟩, _⟩ | ⟨h1, _⟩
      · exact key (by omega) (.inl h1)
      · exact key (by omega) (.inr h1)
theorem liesAt_off {p : Program} : ∀ {d : Nat} {e : TypeId} {count off : Nat} {u : TypeId} {n : Nat}, liesAt p d e count off u n = true → off ≤ count * p.cellsOf e := by
  intro d
  induction d with
  | zero => intro e count off u n h; simp [liesAt] at h
  | succ d ih =>
    intro e count off u n h
    unfold liesAt at h
    simp only [Bool.or_eq_true] at h
    rcases h with h | h
    · exact rowAt_off h
    · split at h
      · exact ih h
      · simp at h
/-- where a slice that came in lies -/
theorem okWide_room {P : Program} {w : World} {r : Reach} {base : Nat} {t e : TypeId} {a : Addr} {len cap : Nat} (ht : P.underlying t = some (.slice e)) (h : Value.okWide P w r base t (.slice (some a) len cap)) :
    a.spot = none ∧ len ≤ cap ∧ ∃ n, rowOf w a.block = some n ∧ a.off ≤ n := by
  simp only [Value.okWide, ht, Cell.okWide, Cell.ok] at h
  obtain ⟨h1, _, _, h2, row, cells, h3, h4⟩ := h
  refine ⟨h2, h1, cells, ?_, Nat.le_trans (liesAt_off h4) (Nat.div_mul_le_self _ _)⟩
  unfold World.shape? at h3
  unfold rowOf
  split at h3
  · rename_i c el fz hc
    simp only [Option.some.injEq, Prod.mk.injEq] at h3
    rw [hc]
    simp only [h3.2]
  · simp at h3
theorem cells_slice (v : Value) {a : Option Addr} {len cap : Nat} (h : v = .slice a len cap) : v.cells.toList = [.slice a len cap] := by subst h; rfl
variable {H : Type} {enc : TypeId × Value → H}
theorem arg_ints {P : Program} {W : World} {base : Nat} {t e : TypeId} {v : Value} {d : DataW H} {p : List MemPlace} (ht : P.underlying t = some (.slice e)) (he : P.underlying e = some (.int .i64)) (hc : P.cellsOf e = 1)
    (hok : Value.okWide P W .any base t v) (h : DataW.Trod enc P W 0 (fun _ => true) true t v d p) :
    ∃ l : List Int, ArgS (heapW W).next (heapW W) (absW W v) (ints l) ∧ ((d = .nil ∧ l = []) ∨ ∃ el sp, d = .slice el sp ∧ el.length = l.length) := by
  obtain ⟨oa, len, cap, rfl⟩ := okWide_slice ht hok
  obtain ⟨fuel, hf⟩ := h
  rw [cells_slice _ rfl] at hf
  rcases open_ints ht he hc hf with ⟨h1, h2⟩ | ⟨a, len', cap', zs, h1, _, h3, h4, h5, h6, h7, _⟩
  · simp only [List.cons.injEq, Value.slice.injEq, and_true] at h1
    obtain ⟨rfl, rfl, rfl⟩ := h1
    simp only [Prod.mk.injEq] at h2
    exact ⟨[], .inl ⟨by simp [absW, nilS], rfl⟩, .inl ⟨h2.1, rfl⟩⟩
  · simp only [List.cons.injEq, Value.slice.injEq, and_true] at h1
    obtain ⟨rfl, rfl, rfl⟩ := h1
    simp only [if_true] at h5
    obtain ⟨q1, q2, n, q3, q4⟩ := okWide_room ht hok
    obtain ⟨c, off, spot⟩ := a
    simp only at q1 q3 q4
    subst q1
    simp only [Prod.mk.injEq] at h6
    have hlt : (zs.take len).length = len := by simp; omega
    have hcell : ∀ i, i < len → W.cell? ⟨c, off + i, none⟩ = some (.int .i64 (zs.getD i 0)) := fun i hi => by
      have := h7 i (by omega)
      rwa [add_none] at this
    have hb : off + len ≤ n := by
      by_cases h0 : len = 0
      · omega
      · obtain ⟨C, e', fz, g1, g2, _⟩ := objW_some q3
        have := hcell (len - 1) (by omega)
        rw [cell?_of g1] at this
        have := (Array.getElem?_eq_some_iff.1 this).1
        omega
    refine ⟨zs.take len, .inr ⟨⟨c, n, off⟩, cap, ?_, by rw [ints_len, hlt]; exact q2, ?_, ?_⟩, .inr ⟨_, _, h6.1, by simp [lits]⟩⟩
    · rw [ints_len, hlt]
      simp only [absW, q2, if_true, q3]
    · obtain ⟨C, e', fz, g1, _, _⟩ := objW_some q3
      exact (Array.getElem?_eq_some_iff.1 g1).1
    · rw [ints_len, hlt]
      refine rd_world q3 hb (by rw [ints_len, hlt]) fun i hi => ⟨_, hcell i hi, ?_⟩
      simp only [absW]
      refine ints_get ?_
      rw [List.getElem?_take_of_lt hi]
      have hz : i < zs.length := by omega
      rw [List.getElem?_eq_getElem hz]
      simp [List.getD, hz]
/-- how long it is at most -/
theorem arg_sized {P : Program} {ts : List TypeId} {ds : List (DataW H)} (h : (DataW.weightsEach P ts ds).all (· ≤ reachBytes) = true) {j : Nat} {t e : TypeId} {d : DataW H} {l : List Int} (ht : ts[j]? = some t) (hd : ds[j]? = some d) (hu : P.underlying t = some (.slice e))
    (hb : P.bytesOf e = 8) (hl : (d = .nil ∧ l = []) ∨ ∃ el sp, d = .slice el sp ∧ el.length = l.length) : l.length * 8 ≤ 140737488351232 := by
  rcases hl with ⟨_, rfl⟩ | ⟨el, sp, rfl, hl⟩
  · simp
  · have := sized_slice h ht hd hu
    rw [hb] at this
    have e : reachBytes = 140737488351232 := by decide
    omega
end Go.Abs.S
/- Symbolic runs of the abstract machine, part 9: two rows that grow side by side; a list behind a list. Plain Lean. -/
namespace Go.Abs.S
open Go.Abs
def Dis (s t : AVal) : Prop := ∀ a m r b m' r', s = .slice (some a) m r → t = .slice (some b) m' r' → a.b ≠ b.b
theorem Dis.symm {s t : AVal} (h : Dis s t) : Dis t s := fun a m r b m' r' h1 h2 e => h b m' r' a m r h2 h1 e.symm
theorem dis_nil (t : AVal) : Dis nilS t := by intro a m r b m' r' h; simp [nilS] at h
theorem App.push2 {n : Nat} {H : AHeap} {s t : AVal} {l m : List AVal} (h : App n H s l) (k : App n H t m) (hd : Dis s t) (hn : n ≤ H.next) {x : AVal} (hx : x.one = true) {bytes : Nat} (hb : 2 * (l.length + 1) * bytes ≤ 281474976710656) (hb1 : 0 < bytes) :
    ∃ s' H', aAppend 1 bytes (H.push (.cells [x] 0 false)) s (oneS H) = some (s', H') ∧ App n H' s' (l ++ [x]) ∧ App n H' t m ∧ Dis s' t ∧ Ext n H H' := by
  have hlen : l.length + 1 ≤ 9223372036854775807 := by
    have : 2 * (l.length + 1) ≤ 2 * (l.length + 1) * bytes := Nat.le_mul_of_pos_right _ hb1
    omega
  have c1 : ∀ k, k = l.length → (Nat.blt 0 1 && (Nat.ble ((2 * (k + 1) + 0) * bytes) 281474976710656 && (Nat.ble (k + 1) 9223372036854775807 && (Nat.beq [x].length (1 * 1) && [x].all AVal.one)))) = true := by
    intro k hk
    subst hk
    simp only [Nat.add_zero, Nat.ble_eq_true_of_le hb, Nat.ble_eq_true_of_le hlen, List.all_cons, List.all_nil, hx]
    rfl
  rcases h with ⟨rfl, rfl⟩ | ⟨b, low, rfl, h2, h3, h4, h5⟩
  · have E : Ext H.next H ((H.push (.cells [x] 0 false)).push (.cells [x] 0 false)) := ((Ext.refl H.next H).push (Nat.le_refl _) _).push (by rw [push_next]; omega) _
    refine ⟨.slice (some ⟨H.next + 1, 1, 0⟩) 1 (.open_ 1), (H.push (.cells [x] 0 false)).push (.cells [x] 0 false), ?_, .inr ⟨H.next + 1, 0, rfl, by omega, Nat.lt_succ_self _, ?_, Nat.zero_le _⟩, k.ext E, ?_, ((Ext.refl n H).push hn _).push (by rw [push_next]; omega) _⟩
    · simp only [aAppend, src1, nilS]
      rw [show Nat.beq 1 0 = false from rfl, cond_false, c1 0 rfl, cond_true]
      rfl
    · rw [AHeap.get_push]; exact if_pos rfl
    · intro a m1 r1 b1 m2 r2 e1 e2
      simp only [AVal.slice.injEq, Option.some.injEq] at e1
      rcases k with ⟨rfl, _⟩ | ⟨b', _, rfl, _, k3, _⟩
      · simp [nilS] at e2
      · simp only [AVal.slice.injEq, Option.some.injEq] at e2
        rw [← e1.1, ← e2.1]
        simp only
        omega
  · have hg : (H.push (.cells [x] 0 false)).get b = some (.cells l low false) := by rw [AHeap.get_push, if_neg (by omega)]; exact h4
    have hgrow : growCells (H.push (.cells [x] 0 false)) ⟨b, l.length, 0⟩ l.length [x] = some ((H.push (.cells [x] 0 false)).set b (.cells (l ++ [x]) low false)) := by
      unfold growCells
      simp only [hg, Nat.ble_eq_true_of_le h5, Nat.ble_eq_true_of_le (Nat.le_refl _), Nat.ble_eq_true_of_le (Nat.zero_le _), Nat.beq_refl, List.length_cons, List.length_nil, Nat.zero_add, List.all_cons, List.all_nil, hx, Bool.and_self, cond_true, List.take_length]
    refine ⟨.slice (some ⟨b, l.length + 1, 0⟩) (l.length + 1) (.open_ 1), (H.push (.cells [x] 0 false)).set b (.cells (l ++ [x]) low false), ?_, .inr ⟨b, low, by simp, h2, by rw [set_next, push_next]; omega, by rw [AHeap.get_set, if_pos rfl], by simp; omega⟩, ?_, ?_, ((Ext.refl n H).push hn _).set h2 _⟩
    · simp only [aAppend, src1]
      rw [show Nat.beq 1 0 = false from rfl, cond_false, c1 l.length rfl, cond_true]
      have e1 : Nat.ble (l.length + 1) l.length = false := by
        rw [ble_dec]; exact decide_eq_false (by omega)
      simp only [Nat.beq_refl, cond_true, Nat.zero_add, Nat.mul_one, e1, cond_false, hgrow, List.length_cons, List.length_nil]
    · rcases k with k | ⟨b', low', rfl, k2, k3, k4, k5⟩
      · exact .inl k
      · have hbb := hd _ _ _ _ _ _ rfl rfl
        simp only at hbb
        exact .inr ⟨b', low', rfl, k2, by rw [set_next, push_next]; omega, by rw [AHeap.get_set, if_neg (fun e => hbb e.symm), AHeap.get_push, if_neg (by omega)]; exact k4, k5⟩
    · intro a m1 r1 b1 m2 r2 e1 e2
      simp only [AVal.slice.injEq, Option.some.injEq] at e1
      have := hd _ _ _ _ _ _ rfl e2
      rw [← e1.1]; exact this
/-! a list behind a list -/
theorem Cel.src {n : Nat} {H : AHeap} {s : AVal} {l : List AVal} (h : Cel n H s l) : aSrc 1 H s = some (l.length, l) := by
  rcases h with ⟨rfl, rfl⟩ | ⟨a, r, rfl, _, h⟩
  · rfl
  · simp only [aSrc, Nat.mul_one, h]
theorem build0 (z : AVal) (H : AHeap) : aBuildSl 0 [z] H [] = some (slR H.next 0 (.known 0), H.push (.cells [] 0 false)) := _root_.id rfl
theorem ap_known {n : Nat} {H : AHeap} {b : Nat} {t : AVal} {xs : List AVal} (hb : Row H b []) (h : Cel n H t xs) (hx : xs ≠ []) (ho : ∀ x ∈ xs, x.one = true) {bytes : Nat} (hbd : 2 * xs.length * bytes ≤ 281474976710656) (hb1 : 0 < bytes) :
    aAppend 1 bytes H (slR b 0 (.known 0)) t = some (slR H.next xs.length (.open_ 1), H.push (.cells xs 0 false)) := by
  have hl : 0 < xs.length := List.length_pos_iff.2 hx
  have hlen : xs.length ≤ 9223372036854775807 := by
    have : 2 * xs.length ≤ 2 * xs.length * bytes := Nat.le_mul_of_pos_right _ hb1
    omega
  obtain ⟨low, h1, h2⟩ := hb
  have hlow : low = 0 := by simpa using h2
  subst hlow
  have hr : rdCells H ⟨b, 0, 0⟩ 0 = some [] := rd_whole (l := []) h1 h2
  have hall : xs.all AVal.one = true := List.all_eq_true.2 ho
  have e0 : Nat.beq xs.length 0 = false := by rw [beq_dec]; exact decide_eq_false (by omega)
  have e1 : Nat.ble (0 + xs.length) 0 = false := by rw [ble_dec]; exact decide_eq_false (by omega)
  simp only [aAppend, h.src, e0, cond_false, slR, Nat.zero_add, Nat.add_zero, Nat.mul_one, Nat.ble_eq_true_of_le hbd, Nat.ble_eq_true_of_le hlen, Nat.beq_refl, hall, Bool.and_self, show Nat.blt 0 1 = true from rfl, cond_true, Nat.zero_mul, hr, List.nil_append]
  rw [Nat.zero_add] at e1
  rw [e1]
  rfl
theorem ap_open {n : Nat} {H : AHeap} {b k : Nat} {t : AVal} {l xs : List AVal} (hb : Row H b l) (hk : l.length = k) (h : Cel n H t xs) (hx : xs ≠ []) (ho : ∀ x ∈ xs, x.one = true) {bytes : Nat} (hbd : 2 * (k + xs.length) * bytes ≤ 281474976710656) (hb1 : 0 < bytes) :
    ∃ H', aAppend 1 bytes H (slR b k (.open_ 1)) t = some (slR b (k + xs.length) (.open_ 1), H') ∧ Row H' b (l ++ xs) ∧ H'.next = H.next ∧ ∀ c, c ≠ b → H'.get c = H.get c := by
  subst hk
  have hl : 0 < xs.length := List.length_pos_iff.2 hx
  have hlen : l.length + xs.length ≤ 9223372036854775807 := by
    have : 2 * (l.length + xs.length) ≤ 2 * (l.length + xs.length) * bytes := Nat.le_mul_of_pos_right _ hb1
    omega
  obtain ⟨low, h1, h2⟩ := hb
  have hall : xs.all AVal.one = true := List.all_eq_true.2 ho
  have e0 : Nat.beq xs.length 0 = false := by rw [beq_dec]; exact decide_eq_false (by omega)
  have e1 : Nat.ble (l.length + xs.length) l.length = false := by rw [ble_dec]; exact decide_eq_false (by omega)
  have hgrow : growCells H ⟨b, l.length, 0⟩ l.length xs = some (H.set b (.cells (l ++ xs) low false)) := by
    unfold growCells
    simp only [h1, Nat.ble_eq_true_of_le h2, Nat.ble_eq_true_of_le (Nat.le_refl _), Nat.ble_eq_true_of_le (Nat.zero_le _), Nat.ble_eq_true_of_le (show l.length + 1 ≤ l.length + xs.length by omega), Nat.beq_refl, hall, Bool.and_self, cond_true, List.take_length]
  refine ⟨H.set b (.cells (l ++ xs) low false), ?_, ⟨low, by rw [AHeap.get_set, if_pos rfl], by simp; omega⟩, rfl, fun c hc => by rw [AHeap.get_set, if_neg hc]⟩
  simp only [aAppend, h.src, e0, cond_false, slR, Nat.zero_add, Nat.add_zero, Nat.mul_one, Nat.ble_eq_true_of_le hbd, Nat.ble_eq_true_of_le hlen, Nat.beq_refl, hall, Bool.and_self, show Nat.blt 0 1 = true from rfl, cond_true, e1, hgrow]
/-- ways that leave a block meet again behind it -/
theorem aw_cut {C : CS} {c : ACode} {id : Nat} {Q : Post} {T : Env} {H : AHeap} (F : Env → AHeap → Prop) (hC : CMono C) (h : wp C c (inBlk id (inSeq Q F)) T H) (k : ∀ T H, F T H → Q .normal T H) : wp C c (inBlk id Q) T H := by
  refine wp_mono' hC c (fun e T H hq => ?_) h
  cases e with
  | normal => exact k _ _ hq
  | ret => exact hq
  | exit j =>
    simp only [inBlk] at hq ⊢
    cases hb : Nat.beq j id with
    | true => rw [hb] at hq; exact k _ _ hq
    | false => rw [hb] at hq; exact hq
end Go.Abs.S
/- Symbolic runs of the abstract machine, part 10: strings, bytes, small numbers. Plain Lean. -/
namespace Go.Abs.S
open Go.Abs
theorem str_len (s : List UInt8) : aLenK true (.str s) = some (.int .i64 (s.length : Int)) := _root_.id rfl
theorem str_idx {s : List UInt8} {i : Nat} {b : UInt8} (h : s[i]? = some b) (k : IntKind) : aIdxS (.str s) (.int k (i : Int)) = some (.int .u8 (b.toNat : Int)) := by
  show (match (s[i]? : Option UInt8) with | some b => some (AVal.int .u8 b.toNat) | none => none) = _
  rw [h]
theorem bd_nat {y n : Nat} (h : n ≤ y) : bd (.int .i64 (n : Int)) y = some n := by
  show (bif Nat.ble n y then some n else none) = _
  rw [Nat.ble_eq_true_of_le h]; rfl
theorem str_sl {s : List UInt8} {l h : Nat} (h1 : l ≤ h) (h2 : h ≤ s.length) : aSlStr (.str s) (some (.int .i64 (l : Int))) (some (.int .i64 (h : Int))) = some (.str ((s.drop l).take (h - l))) := by
  simp only [aSlStr, aBnd, bdO, bd_nat h2, bd_nat h1]
theorem str_slL {s : List UInt8} {l : Nat} (h1 : l ≤ s.length) : aSlStr (.str s) (some (.int .i64 (l : Int))) none = some (.str (s.drop l)) := by
  simp only [aSlStr, aBnd, bdO, bd_nat h1]
  rw [List.take_of_length_le (by simp)]
theorem str_slH {s : List UInt8} {h : Nat} (h2 : h ≤ s.length) : aSlStr (.str s) none (some (.int .i64 (h : Int))) = some (.str (s.take h)) := by
  simp only [aSlStr, aBnd, bdO, bd_nat h2, List.drop_zero, Nat.sub_zero]
theorem str_eql (x y : List UInt8) : aBin .eql (.str x) (.str y) = some (.bool (decide (x = y))) := by
  simp only [aBin, aStr]
  by_cases h : x = y <;> simp [h]
theorem str_neq (x y : List UInt8) : aBin .neq (.str x) (.str y) = some (.bool (!decide (x = y))) := by
  simp only [aBin, aStr]
  by_cases h : x = y <;> simp [h]
theorem str_add {x y : List UInt8} (h : x.length + y.length ≤ 9223372036854775807) : aBin .add (.str x) (.str y) = some (.str (x ++ y)) := by
  simp only [aBin, aStr, Nat.ble_eq_true_of_le h, cond_true]
theorem conv_in (k k' : IntKind) (n : Int) : aConv k (.int k' n) = some (.int k (k.wrap n)) := by
  simp only [aConv, wrF_eq]
theorem un_not (b : Bool) : aUn .not (.bool b) = some (.bool (!b)) := _root_.id rfl
theorem bin_quo (k : IntKind) (a b : Int) (h : b ≠ 0) : aBin .quo (.int k a) (.int k b) = some (.int k (k.wrap (a.tdiv b))) := by
  simp [aBin, isShift, aIntF_eq, aInt, h]
theorem bin_shl (k k' : IntKind) (a : Int) (b : Nat) : aBin .shl (.int k a) (.int k' (b : Int)) = some (.int k (k.wrap (a * 2 ^ (min b k.bits)))) := by
  simp only [aBin, isShift, cond_true, aShiftF_eq, aShift]
  rw [if_neg (by omega)]; rfl
theorem bin_shr (k k' : IntKind) (a : Int) (b : Nat) : aBin .shr (.int k a) (.int k' (b : Int)) = some (.int k (a.fdiv (2 ^ (min b k.bits)))) := by
  simp only [aBin, isShift, cond_true, aShiftF_eq, aShift]
  rw [if_neg (by omega)]; rfl
theorem undef_bool (b : Bool) : (undefA = AVal.bool b) = False := by simp [undefA]
theorem wrapU8 {a : Int} (h1 : 0 ≤ a) (h2 : a ≤ 255) : IntKind.u8.wrap a = a := IntWalk.u8_in _ ⟨h1, h2⟩
end Go.Abs.S
/- Symbolic runs of the abstract machine, part 11: bits of numbers that are not below 0; rows of bytes. Plain Lean. -/
namespace Go.Abs.S
open Go.Abs
theorem ofInt_nat (n m : Nat) : (BitVec.ofInt m (n : Int)).toNat = n % 2 ^ m := by
  rw [BitVec.toNat_ofInt]
  omega
theorem wrapI {a : Nat} (h : a < 2 ^ 63) : IntKind.i64.wrap (a : Int) = a := by
  rw [IntKind.wrap_i64]; omega
theorem bin_orN {a b : Nat} (ha : a < 2 ^ 63) (hb : b < 2 ^ 63) : aBin .or (.int .i64 (a : Int)) (.int .i64 (b : Int)) = some (.int .i64 ((a ||| b : Nat) : Int)) := by
  have e : (BitVec.ofInt IntKind.i64.bits (a : Int) ||| BitVec.ofInt IntKind.i64.bits (b : Int)).toNat = a ||| b := by
    rw [BitVec.toNat_or, ofInt_nat, ofInt_nat]
    have h1 : a % 2 ^ IntKind.i64.bits = a := Nat.mod_eq_of_lt (by simp only [IntKind.bits]; omega)
    have h2 : b % 2 ^ IntKind.i64.bits = b := Nat.mod_eq_of_lt (by simp only [IntKind.bits]; omega)
    rw [h1, h2]
  simp only [aBin, isShift, cond_false, if_true, aIntF_eq, aInt, e]
  rw [wrapI (Nat.or_lt_two_pow ha hb)]
theorem bin_andN {a b : Nat} (ha : a < 2 ^ 63) (hb : b < 2 ^ 63) : aBin .and (.int .i64 (a : Int)) (.int .i64 (b : Int)) = some (.int .i64 ((a &&& b : Nat) : Int)) := by
  have e : (BitVec.ofInt IntKind.i64.bits (a : Int) &&& BitVec.ofInt IntKind.i64.bits (b : Int)).toNat = a &&& b := by
    rw [BitVec.toNat_and, ofInt_nat, ofInt_nat]
    have h1 : a % 2 ^ IntKind.i64.bits = a := Nat.mod_eq_of_lt (by simp only [IntKind.bits]; omega)
    have h2 : b % 2 ^ IntKind.i64.bits = b := Nat.mod_eq_of_lt (by simp only [IntKind.bits]; omega)
    rw [h1, h2]
  simp only [aBin, isShift, cond_false, if_true, aIntF_eq, aInt, e]
  rw [wrapI (Nat.and_lt_two_pow _ hb)]
theorem bin_shlN {k' : IntKind} {a b : Nat} (hb : b ≤ 63) (h : a * 2 ^ b < 2 ^ 63) : aBin .shl (.int .i64 (a : Int)) (.int k' (b : Int)) = some (.int .i64 ((a * 2 ^ b : Nat) : Int)) := by
  rw [bin_shl]
  have e : min b IntKind.i64.bits = b := by simp only [IntKind.bits]; omega
  rw [e]
  have e2 : (a : Int) * 2 ^ b = ((a * 2 ^ b : Nat) : Int) := by simp
  rw [e2, wrapI h]
theorem or_low (n a : Nat) {b : Nat} (h : b < 2 ^ n) : a * 2 ^ n ||| b = a * 2 ^ n + b := by
  rw [Nat.mul_comm, Nat.two_pow_add_eq_or_of_lt h]
theorem pf_min (a b : Int) : aPf (.mm false) [.int .i64 a, .int .i64 b] = some (.int .i64 (if b < a then b else a)) := by
  simp only [aPf, aMMs, aMM, aMM1, ltF_eq, cond_false]
  by_cases h : b < a <;> simp [h]
/-! rows of bytes -/
def u8s (l : List Nat) : List AVal := l.map fun n : Nat => .int .u8 (n : Int)
theorem u8s_len (l : List Nat) : (u8s l).length = l.length := by simp [u8s]
theorem u8s_get {l : List Nat} {i : Nat} {n : Nat} (h : l[i]? = some n) : (u8s l)[i]? = some (.int .u8 (n : Int)) := by simp [u8s, h]
theorem u8s_set (l : List Nat) (i n : Nat) : u8s (l.set i n) = (u8s l).set i (.int .u8 (n : Int)) := by simp [u8s]
end Go.Abs.S
