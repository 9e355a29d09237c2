/- Symbolic runs of the abstract machine, part 2: what must hold ahead is enough. Plain Lean. -/
import Derived.Test.YtndeemjhengoiaaS1
namespace Go.Abs.S
open Go.Abs

/-! ### every function that compiles -/
def tabN (P : Program) : Nat → Tr AFn
  | 0 => .e
  | n + 1 => match cFn P n with
    | some c => (tabN P n).set n c
    | none => tabN P n
def tabP (P : Program) : Tr AFn := tabN P P.funcs.size
theorem tabN_get (P : Program) : ∀ (n f : Nat), (tabN P n).get f = if f < n then cFn P f else none
  | 0, f => by rw [if_neg (by omega)]; cases f <;> rfl
  | n + 1, f => by
    simp only [tabN]
    cases hc : cFn P n with
    | none =>
      simp only [tabN_get P n f]
      by_cases h : f < n
      · rw [if_pos h, if_pos (by omega)]
      · by_cases e : f = n
        · subst e; rw [if_neg h, if_pos (by omega), hc]
        · rw [if_neg h, if_neg (by omega)]
    | some c =>
      simp only [Tr.get_set, tabN_get P n f]
      by_cases e : f = n
      · subst e; rw [if_pos rfl, if_pos (by omega), hc]
      · rw [if_neg e]
        by_cases h : f < n
        · rw [if_pos h, if_pos (by omega)]
        · rw [if_neg h, if_neg (by omega)]
theorem tabP_ok (P : Program) : TabOK P (tabP P) := by
  intro f fn h
  rw [tabP, tabN_get] at h
  split at h
  · exact h
  · simp at h
theorem tabP_get {P : Program} {f : FuncId} {c : AFn} (h : cFn P f = some c) : (tabP P).get f = some c := by
  have hf : f < P.funcs.size := by
    unfold cFn at h
    split at h
    · rename_i fn hfn; exact (Array.getElem?_eq_some_iff.1 hfn).1
    · simp at h
  rw [tabP, tabN_get, if_pos hf, h]

/-- a call tells, with enough fuel -/
def ACalls (P : Program) (N : ANat) (f : FuncId) (args : List AVal) (H : AHeap) (K : AVal → AHeap → Prop) : Prop :=
  ∃ n v H', acall N (tabP P) n f args H = some (v, H') ∧ K v H'
theorem ACalls.mono {P : Program} {N : ANat} {f : FuncId} {args : List AVal} {H : AHeap} {K K' : AVal → AHeap → Prop} (h : ACalls P N f args H K) (hk : ∀ v H', K v H' → K' v H') : ACalls P N f args H K' := by
  obtain ⟨n, v, H', h1, h2⟩ := h; exact ⟨n, v, H', h1, hk _ _ h2⟩

section
variable {P : Program} {N : ANat}
theorem acall_tb {n : Nat} {f : FuncId} {args : List AVal} {H : AHeap} {r} (h : acall N (tabP P) n f args H = some r) : tbA N (tabP P) f = true := by
  cases n with
  | zero => simp [acall] at h
  | succ n =>
    rw [acall] at h
    unfold tbA
    cases hn : N.is f with
    | true => rfl
    | false =>
      rw [hn] at h
      simp only [cond_false] at h ⊢
      cases ht : (tabP P).get f with
      | none => rw [ht] at h; simp at h
      | some c => rfl

theorem wOp_sound {T : Tr AVal} {H : AHeap} {o : AOp} {K : AVal → AHeap → Prop} (h : wOp (ACalls P N) (en T) H K o) :
    (∃ v H', aop (tbA N (tabP P)) T H o = some (.val v, H') ∧ K v H') ∨ (∃ f args H' n v H'', aop (tbA N (tabP P)) T H o = some (.enter f args, H') ∧ acall N (tabP P) n f args H' = some (v, H'') ∧ K v H'') := by
  cases o
  case call f args =>
    right
    simp only [wOp, sXs_en] at h
    obtain ⟨n, v, H', h1, h2⟩ := h
    exact ⟨f, _, H, n, v, H', by simp only [aop, acall_tb h1, cond_true], h1, h2⟩
  case callv f args =>
    right
    simp only [wOp, sX_en, sXs_en] at h
    obtain ⟨g, a, b, hf, n, v, H', h1, h2⟩ := h
    exact ⟨g, _, H, n, v, H', by simp only [aop, hf, acall_tb h1, cond_true], h1, h2⟩
  case pick c a b =>
    simp only [wOp, sX_en] at h
    obtain ⟨b', h1, h2⟩ := h
    exact .inl ⟨_, _, by simp only [aop, h1], h2⟩
  case bad => simp [wOp] at h
  all_goals
    left
    simp only [wOp, sX_en, sXs_en, sXO_en, sXP_en, OptP] at h
    first
      | exact ⟨_, _, rfl, h⟩
      | (obtain ⟨v, h1, h2⟩ := h
         refine ⟨_, _, ?_, h2⟩
         simp only [aop, h1]
         try rfl)

theorem wStep_sound {T : Tr AVal} {H : AHeap} {o : AOper} {K : AVal → AHeap → Prop} (h : wOp (ACalls P N) (en T) H K o.op) (hg : gOK T o.guard = true) :
    ∃ n v H', astep (tbA N (tabP P)) (acall N (tabP P) n) o T H = some (v, H') ∧ K v H' := by
  rcases wOp_sound h with ⟨v, H', h1, h2⟩ | ⟨f, args, H', n, v, H'', h1, h2, h3⟩
  · exact ⟨0, v, H', by simp only [astep, hg, cond_true, h1], h2⟩
  · exact ⟨n, v, H'', by simp only [astep, hg, cond_true, h1, h2], h3⟩
theorem aregs_cons (tb : FuncId → Bool) (c) (o : AOper) (l : List AOper) (T : Tr AVal) (H : AHeap) : aregs tb c (o :: l) T H = match astep tb c o T H with | some (v, H') => aregs tb c l (aput T o.dst v) H' | none => none := by
  simp only [aregs, astep]
  cases gOK T o.guard with
  | false => rfl
  | true =>
    simp only [cond_true]
    cases aop tb T H o.op with
    | none => rfl
    | some p => obtain ⟨nx, H'⟩ := p; cases nx <;> rfl
theorem wRegs_sound : ∀ (l : List AOper) {T : Tr AVal} {H : AHeap} {K : Env → AHeap → Prop}, wRegs (ACalls P N) l (en T) H K →
    ∃ n T' H', aregs (tbA N (tabP P)) (acall N (tabP P) n) l T H = some (T', H') ∧ K (en T') H'
  | [], T, H, K, h => ⟨0, T, H, rfl, h⟩
  | o :: l, T, H, K, h => by
    simp only [wRegs, sG_en] at h
    have : ∃ n v H', astep (tbA N (tabP P)) (acall N (tabP P) n) o T H = some (v, H') ∧ wRegs (ACalls P N) l (upO (en T) o.dst v) H' K := by
      cases hg : gOK T o.guard with
      | true => rw [hg] at h; exact wStep_sound h hg
      | false => rw [hg] at h; exact ⟨0, undefA, H, by simp only [astep, hg, cond_false], h⟩
    obtain ⟨n, v, H', h1, h2⟩ := this
    rw [← en_put] at h2
    obtain ⟨m, T2, H2, h3, h4⟩ := wRegs_sound l h2
    refine ⟨max n m, T2, H2, ?_, h4⟩
    rw [aregs_cons, astep_mono (acall_mono (Nat.le_max_left n m)) h1]
    exact aregs_mono (acall_mono (Nat.le_max_right n m)) l h3
theorem wTr_sound : ∀ (l : List AOper) {T : Tr AVal} {H : AHeap} {K : List (AVal × AHeap) → Env → AHeap → Prop}, wTr (ACalls P N) l (en T) H K → ∀ j,
    ∃ n ss, atrace (tbA N (tabP P)) (acall N (tabP P) n) l T H = some ss ∧ K ss (en (tsel (fun _ => true) j l ss T)) (hAt H ss l.length)
  | [], T, H, K, h, j => ⟨0, [], rfl, h⟩
  | o :: l, T, H, K, h, j => by
    simp only [wTr, sG_en] at h
    have : ∃ n v H', astep (tbA N (tabP P)) (acall N (tabP P) n) o T H = some (v, H') ∧ wTr (ACalls P N) l (upO (en T) o.dst v) H' fun ss => K ((v, H') :: ss) := by
      cases hg : gOK T o.guard with
      | true => rw [hg] at h; exact wStep_sound h hg
      | false => rw [hg] at h; exact ⟨0, undefA, H, by simp only [astep, hg, cond_false], h⟩
    obtain ⟨n, v, H', h1, h2⟩ := this
    rw [← en_put] at h2
    obtain ⟨m, ss, h3, h4⟩ := wTr_sound l h2 (j + 1)
    refine ⟨max n m, (v, H') :: ss, ?_, ?_⟩
    · simp only [atrace, astep_mono (acall_mono (Nat.le_max_left n m)) h1, atrace_mono (acall_mono (Nat.le_max_right n m)) l h3]
    · have hl := (trace_at l _ H' ss 0 h3).1
      have e : hAt H' ss l.length = hAt H ((v, H') :: ss) (o :: l).length := by
        simp only [List.length_cons]
        cases hr : l.length with
        | zero => rfl
        | succ q =>
          simp only [hAt, List.getElem?_cons_succ]
          rw [List.getElem?_eq_getElem (by omega)]
      rw [← e]
      exact h4
theorem wCk_sound {tb : FuncId → Bool} {hs : List AHeap} : ∀ (l : List AOper) (chk : List (List Nat)) (ss : List (AVal × AHeap)) (T : Tr AVal), wCk hs l chk ss (en T) → chkRun tb hs l chk ss T = true
  | [], _, _, _, _ => rfl
  | o :: l, [], _, _, _ => rfl
  | o :: l, p :: ps, [], _, _ => rfl
  | o :: l, p :: ps, (v, Hv) :: ss, T, h => by
    simp only [wCk] at h
    obtain ⟨h1, h2⟩ := h
    simp only [chkRun, Bool.and_eq_true]
    refine ⟨List.all_eq_true.2 fun q hq => ?_, wCk_sound l ps ss _ (by rw [en_put]; exact h2)⟩
    obtain ⟨Hp, e1, e2⟩ := h1 q hq
    rw [e1]
    simp only
    cases hg : gOK T o.guard with
    | false => rfl
    | true =>
      obtain ⟨u, u1, u2⟩ := e2 (by rw [sG_en]; exact hg)
      simp only [cond_true]
      cases ho : o.op <;> rw [ho] at u1 <;> simp only [wLd, reduceCtorEq, sX_en] at u1
      · simp only [aop, u1, vv]; exact u2
      · simp only [aop, u1, vv]; exact u2
theorem inSeq_sound {Q : Post} {K : Env → AHeap → Prop} {e : AEx} {T : Env} {H : AHeap} (h : inSeq Q K e T H) : (e = .normal ∧ K T H) ∨ (e ≠ .normal ∧ Q e T H) := by
  cases e with
  | normal => exact .inl ⟨rfl, h⟩
  | exit i => exact .inr ⟨by simp, h⟩
  | ret => exact .inr ⟨by simp, h⟩
theorem wp_sound : ∀ (c : ACode) (Q : Post) (T : Tr AVal) (H : AHeap), wp (ACalls P N) c Q (en T) H →
    ∃ n e T' H', aexec (tbA N (tabP P)) (acall N (tabP P) n) n c T H = some (e, T', H') ∧ Q e (en T') H' := by
  intro c
  induction c with
  | skip => intro Q T H h; exact ⟨0, _, _, _, rfl, h⟩
  | reg l =>
    intro Q T H h
    obtain ⟨n, T', H', h1, h2⟩ := wRegs_sound l h
    exact ⟨n, .normal, T', H', by simp only [aexec, h1], h2⟩
  | draw l chk =>
    intro Q T H h
    simp only [wp, wDraw] at h
    obtain ⟨n, ss, h1, h2, h3⟩ := wTr_sound (claims H.next l) h 0
    exact ⟨n, .normal, _, _, by simp only [aexec, adraw, h1, wCk_sound (claims H.next l) chk ss T h2, cond_true], h3⟩
  | seq a b iha ihb =>
    intro Q T H h
    obtain ⟨n, e, T1, H1, h1, h2⟩ := iha _ T H h
    rcases inSeq_sound h2 with ⟨rfl, h2⟩ | ⟨hne, h2⟩
    · obtain ⟨m, e2, T2, H2, h3, h4⟩ := ihb _ T1 H1 h2
      refine ⟨max n m, e2, T2, H2, ?_, h4⟩
      simp only [aexec, aexec_mono (acall_mono (Nat.le_max_left n m)) (Nat.le_max_left n m) a _ _ _ h1]
      exact aexec_mono (acall_mono (Nat.le_max_right n m)) (Nat.le_max_right n m) b _ _ _ h3
    · refine ⟨n, e, T1, H1, ?_, h2⟩
      cases e with
      | normal => exact absurd rfl hne
      | exit i => simp only [aexec, h1]
      | ret => simp only [aexec, h1]
  | cond c a b iha ihb =>
    intro Q T H h
    simp only [wp, sX_en] at h
    obtain ⟨v, hv, h⟩ := h
    cases v with
    | true =>
      obtain ⟨n, e, T1, H1, h1, h2⟩ := iha _ T H h
      exact ⟨n, e, T1, H1, by simp only [aexec, hv, h1], h2⟩
    | false =>
      obtain ⟨n, e, T1, H1, h1, h2⟩ := ihb _ T H h
      exact ⟨n, e, T1, H1, by simp only [aexec, hv, h1], h2⟩
  | block id c ih =>
    intro Q T H h
    obtain ⟨n, e, T1, H1, h1, h2⟩ := ih _ T H h
    cases e with
    | exit j =>
      simp only [inBlk] at h2
      cases hb : Nat.beq j id with
      | true => rw [hb] at h2; exact ⟨n, .normal, T1, H1, by simp only [aexec, h1, hb, cond_true], h2⟩
      | false => rw [hb] at h2; exact ⟨n, .exit j, T1, H1, by simp only [aexec, h1, hb, cond_false], h2⟩
    | normal => exact ⟨n, .normal, T1, H1, by simp only [aexec, h1], h2⟩
    | ret => exact ⟨n, .ret, T1, H1, by simp only [aexec, h1], h2⟩
  | loop c ih =>
    intro Q T H h
    simp only [wp] at h
    obtain ⟨I, ⟨m, hm⟩, hI⟩ := h
    have key : ∀ (m : Nat) (T : Tr AVal) (H : AHeap), I m (en T) H → ∃ n e T' H', aexec (tbA N (tabP P)) (acall N (tabP P) n) n (.loop c) T H = some (e, T', H') ∧ Q e (en T') H' := by
      intro m
      induction m using Nat.strongRecOn with
      | ind m ihm =>
        intro T H hi
        obtain ⟨n, e, T1, H1, h1, h2⟩ := ih _ T H (hI m _ _ hi)
        rcases inSeq_sound h2 with ⟨rfl, m', hm', h2⟩ | ⟨hne, h2⟩
        · obtain ⟨k, e2, T2, H2, h3, h4⟩ := ihm m' hm' T1 H1 h2
          refine ⟨max n k + 1, e2, T2, H2, ?_, h4⟩
          simp only [aexec, aloop]
          rw [aexec_mono (acall_mono (show n ≤ max n k + 1 by omega)) (show n ≤ max n k + 1 by omega) c _ _ _ h1]
          simp only [aexec] at h3
          exact aloop_mono (fun T H r hr => aexec_mono (acall_mono (show k ≤ max n k + 1 by omega)) (show k ≤ max n k + 1 by omega) c T H r hr) k (max n k) T1 H1 _ (Nat.le_max_right n k) h3
        · refine ⟨n + 1, e, T1, H1, ?_, h2⟩
          simp only [aexec, aloop]
          rw [aexec_mono (acall_mono (Nat.le_succ n)) (Nat.le_succ n) c _ _ _ h1]
          cases e with
          | normal => exact absurd rfl hne
          | exit i => rfl
          | ret => rfl
    exact key m T H hm
  | exit id => intro Q T H h; exact ⟨0, _, _, _, rfl, h⟩
  | ret => intro Q T H h; exact ⟨0, _, _, _, rfl, h⟩

/-! ### functions -/
def argE (args : List AVal) : Env := fun i => match args[i]? with
  | some v => v
  | none => undefA
theorem putArgs_en : ∀ (args : List AVal) (i : Nat) (T : Tr AVal), en (putArgs args i T) = fun j => if i ≤ j then (match args[j - i]? with | some v => v | none => en T j) else en T j
  | [], i, T => by funext j; simp [putArgs]
  | x :: r, i, T => by
    rw [putArgs, putArgs_en r (i + 1), en_set]
    funext j
    by_cases h : i + 1 ≤ j
    · rw [if_pos h, if_pos (by omega), show j - i = (j - (i + 1)) + 1 by omega]
      simp only [List.getElem?_cons_succ]
      split
      · rfl
      · have hb : Nat.beq j i = false := by rw [beq_dec]; exact decide_eq_false (by omega)
        simp only [up, hb, cond_false]
    · rw [if_neg h]
      by_cases e : i = j
      · subst e
        simp [up]
      · rw [if_neg (by omega)]
        have hb : Nat.beq j i = false := by rw [beq_dec]; exact decide_eq_false (by omega)
        simp only [up, hb, cond_false]
theorem putArgs_e (args : List AVal) : en (putArgs args 0 .e) = argE args := by
  rw [putArgs_en]
  funext j
  simp only [Nat.zero_le, if_true, Nat.sub_zero, argE]
  split
  · rfl
  · rfl
def wRes (T : Env) (H : AHeap) : List ARes → Option (List AVal)
  | [] => some []
  | .t i :: r => match wRes T H r with
    | some l => some (T i :: l)
    | none => none
  | .cell g n i :: r => match oLoad g n H (T i), wRes T H r with
    | some x, some l => some (x :: l)
    | _, _ => none
theorem wRes_en (T : Tr AVal) (H : AHeap) : ∀ l : List ARes, wRes (en T) H l = ares T H l
  | [] => rfl
  | .t i :: r => by simp only [wRes, ares, wRes_en T H r]; rfl
  | .cell g n i :: r => by simp only [wRes, ares, wRes_en T H r]; rfl
def fin (res : List ARes) (K : AVal → AHeap → Prop) : Post := fun e T H => match e with
  | .exit _ => False
  | _ => OptP (wRes T H res) fun l => K (aresV l) H
theorem acalls_of {f : FuncId} {c : AFn} {args : List AVal} {H : AHeap} {K : AVal → AHeap → Prop} (hn : N.is f = false) (hc : cFn P f = some c) (hl : Nat.ble args.length c.nt = true) (h : wp (ACalls P N) c.body (fin c.res K) (argE args) H) : ACalls P N f args H K := by
  rw [← putArgs_e] at h
  obtain ⟨n, e, T', H', h1, h2⟩ := wp_sound _ _ _ _ h
  have : ∃ l, ares T' H' c.res = some l ∧ K (aresV l) H' ∧ ∀ i, e ≠ .exit i := by
    cases e with
    | exit i => exact h2.elim
    | normal => obtain ⟨l, q1, q2⟩ := h2; rw [wRes_en] at q1; exact ⟨l, q1, q2, fun i => by simp⟩
    | ret => obtain ⟨l, q1, q2⟩ := h2; rw [wRes_en] at q1; exact ⟨l, q1, q2, fun i => by simp⟩
  obtain ⟨l, q1, q2, q3⟩ := this
  refine ⟨n + 1, aresV l, H', ?_, q2⟩
  rw [acall, hn, tabP_get hc]
  simp only [cond_false, hl, cond_true, h1]
  cases e with
  | exit i => exact absurd rfl (q3 i)
  | normal => simp only [q1]
  | ret => simp only [q1]
theorem acalls_nat {f : FuncId} {args : List AVal} {H H' : AHeap} {v : AVal} {K : AVal → AHeap → Prop} (hn : N.is f = true) (hr : N.run f args H = some (v, H')) (hk : K v H') : ACalls P N f args H K :=
  ⟨1, v, H', by rw [acall, hn]; exact hr, hk⟩
/-- from a symbolic run to the model's -/
theorem ACalls.calls (hfol : P.follows .mixedOrders = true) (hN : NatOK P N) {f : FuncId} {args : List AVal} {H : AHeap} {K : AVal → AHeap → Prop} (h : ACalls P N f args H K)
    {Prot : Gh} {w0 w : World} {ρ : Pl} {vs : Array Value} (R : Rel Prot w0 ρ H w) (hv : VRels ρ args vs.toList) :
    Calls P f vs w fun e w' => ∃ ρ' v H' u, ρ.le ρ' ∧ e = .returned u ∧ K v H' ∧ Rel Prot w0 ρ' H' w' ∧ VRel ρ' v u := by
  obtain ⟨n, v, H', h1, h2⟩ := h
  refine (acall_ok hfol hN (tabP_ok P) n _ _ _ _ _ h1 _ _ _ _ _ R hv).mono fun e w' hx => ?_
  obtain ⟨ρ', u, q1, rfl, q2, q3⟩ := hx
  exact ⟨ρ', v, H', u, q1, rfl, h2, q2, q3⟩
end
end Go.Abs.S
