/- The abstract machine, part 11: code, calls; its run is the model's. -/
import Derived.Test.YtndeemjhengoiaaD5
import Derived.LoopN
namespace Go.Abs

inductive ACode where
  | skip
  | reg (ops : List AOper)
  | draw (ops : List AOper) (chk : List (List Nat))
  | seq (a b : ACode)
  | cond (c : Opd) (a b : ACode)
  | block (id : Nat) (c : ACode)
  | loop (c : ACode)
  | exit (id : Nat)
  | ret

inductive AEx where
  | normal
  | exit (id : Nat)
  | ret

inductive ARes where
  | t (i : Nat)
  | cell (agg : Bool) (size : Nat) (i : Nat)

structure AFn where
  nt : Nat
  body : ACode
  res : List ARes

section
variable (tb : FuncId → Bool) (call : FuncId → List AVal → AHeap → Option (AVal × AHeap))
def aregs : List AOper → Tr AVal → AHeap → Option (Tr AVal × AHeap)
  | [], T, H => some (T, H)
  | o :: r, T, H => bif gOK T o.guard then
      match aop tb T H o.op with
      | some (.val v, H') => aregs r (aput T o.dst v) H'
      | some (.enter f args, H') => match call f args H' with
        | some (v, H'') => aregs r (aput T o.dst v) H''
        | none => none
      | none => none
    else aregs r (aput T o.dst undefA) H

def aloop (body : Tr AVal → AHeap → Option (AEx × Tr AVal × AHeap)) : Nat → Tr AVal → AHeap → Option (AEx × Tr AVal × AHeap)
  | 0, _, _ => none
  | n + 1, T, H => match body T H with
    | some (.normal, T', H') => aloop body n T' H'
    | some (e, T', H') => some (e, T', H')
    | none => none

def adraw (ops : List AOper) (chk : List (List Nat)) (T : Tr AVal) (H : AHeap) : Option (AEx × Tr AVal × AHeap) :=
  match atrace tb call ops T H with
  | some ss => bif chkRun tb (H :: ss.map (·.2)) ops chk ss T then some (.normal, tsel (fun _ => true) 0 ops ss T, hAt H ss ops.length) else none
  | none => none
def aexec (k : Nat) : ACode → Tr AVal → AHeap → Option (AEx × Tr AVal × AHeap)
  | .skip, T, H => some (.normal, T, H)
  | .reg ops, T, H => match aregs tb call ops T H with
    | some (T', H') => some (.normal, T', H')
    | none => none
  | .draw ops chk, T, H => adraw tb call (claims H.next ops) chk T (reserves H ops)
  | .seq a b, T, H => match aexec k a T H with
    | some (.normal, T', H') => aexec k b T' H'
    | some (e, T', H') => some (e, T', H')
    | none => none
  | .cond c a b, T, H => match ev T c with
    | .bool true => aexec k a T H
    | .bool false => aexec k b T H
    | _ => none
  | .block id c, T, H => match aexec k c T H with
    | some (.exit j, T', H') => bif Nat.beq j id then some (.normal, T', H') else some (.exit j, T', H')
    | some (e, T', H') => some (e, T', H')
    | none => none
  | .loop c, T, H => aloop (aexec k c) k T H
  | .exit id, T, H => some (.exit id, T, H)
  | .ret, T, H => some (.ret, T, H)
end

def ares (T : Tr AVal) (H : AHeap) : List ARes → Option (List AVal)
  | [] => some []
  | .t i :: r => match ares T H r with
    | some l => some (ev T (.t i) :: l)
    | none => none
  | .cell g n i :: r => match oLoad g n H (ev T (.t i)), ares T H r with
    | some x, some l => some (x :: l)
    | _, _ => none
def aresV : List AVal → AVal
  | [x] => x
  | l => .tuple l
def putArgs : List AVal → Nat → Tr AVal → Tr AVal
  | [], _, T => T
  | x :: r, i, T => putArgs r (i + 1) (T.set i x)

/-- functions that are not compiled: what they tell is given -/
structure ANat where
  is : FuncId → Bool
  run : FuncId → List AVal → AHeap → Option (AVal × AHeap)
def tbA (N : ANat) (A : Tr AFn) : FuncId → Bool := fun f => bif N.is f then true else match A.get f with | some _ => true | none => false
def acall (N : ANat) (tab : Tr AFn) : Nat → FuncId → List AVal → AHeap → Option (AVal × AHeap)
  | 0, _, _, _ => none
  | n + 1, f, args, H => bif N.is f then N.run f args H else match tab.get f with
    | some fn => bif Nat.ble args.length fn.nt then
        match aexec (tbA N tab) (acall N tab n) n fn.body (putArgs args 0 .e) H with
        | some (.exit _, _, _) => none
        | some (_, T, H') => match ares T H' fn.res with
          | some l => some (aresV l, H')
          | none => none
        | none => none
      else none
    | none => none

/-! ### compiling -/
section
variable (P : Program)
/-- what is not known is never done -/
def stuckC : ACode := .reg [⟨none, .bad, none⟩]
def cCode (n : Nat) : Code → Option ACode
  | .skip => some .skip
  | .region _ ops false => match cOpers P n ops ops.toList with
    | some l => some (.reg l)
    | none => none
  | .region _ ops true => match cOpers P n ops ops.toList with
    | some l => bif okMask (ops.toList.map bindE) (masksGo [] (ops.toList.map bindE)) && okPairs (claims 0 l) (masksGo [] (ops.toList.map bindE)) then
        some (.draw l ((List.range l.length).map (chkOf (claims 0 l) (masksGo [] (ops.toList.map bindE))))) else some stuckC
    | none => none
  | .seq a b => match cCode n a, cCode n b with
    | some a, some b => some (.seq a b)
    | _, _ => none
  | .cond c a b => match cOpd c, cCode n a, cCode n b with
    | some c, some a, some b => some (.cond c a b)
    | _, _, _ => none
  | .block id c => match cCode n c with
    | some c => some (.block id c)
    | none => none
  | .loop c => match cCode n c with
    | some c => some (.loop c)
    | none => none
  | .exit id => some (.exit id)
  | .ret => some .ret
  | _ => some stuckC
def cRes : List ResultVar → Option (List ARes)
  | [] => some []
  | .tmp t :: r => match cRes r with
    | some l => some (.t t :: l)
    | none => none
  | .cell a t :: r => match tyOf P t, cRes r with
    | some (g, n), some l => some (.cell g n a :: l)
    | _, _ => none
def cFn (f : FuncId) : Option AFn :=
  match P.funcs[f]? with
  | some fn => match fn.body with
    | some c => bif fn.name == "runtime.NumGoroutine" then none else
      match cCode P fn.ntmps c, cRes P fn.results.toList with
      | some b, some r => some ⟨fn.ntmps, b, r⟩
      | _, _ => none
    | none => none
  | none => none
end

/-! ### the run -/
section
variable {P : Program} {Prot : Gh} {w0 : World} {ρ : Pl} {H H' : AHeap} {w : World}

def SimQ (Prot : Gh) (w0 : World) (ρ : Pl) (n : Nat) (e : AEx) (T : Tr AVal) (H : AHeap) : Exit → Act → World → Prop := fun e' a w =>
  (match e with | .normal => e' = .normal | .exit id => e' = .exit id | .ret => e' = .ret) ∧ ∃ ρ', ρ.le ρ' ∧ Rel Prot w0 ρ' H w ∧ TmpsRel ρ' n T a.tmps ∧ a.defers = []

theorem regs_sim {tb : FuncId → Bool} (htb : ∀ f, tb f = true → hasBody P f = true) {call : FuncId → List AVal → AHeap → Option (AVal × AHeap)} (hcall : CallOK P call) {n : Nat} {ops : Array Oper} {Q : Exit → Act → World → Prop} :
    ∀ (rest : List Oper) (i : Nat) (l : List AOper), (∀ j, rest[j]? = ops[i + j]?) → cOpers P n ops rest = some l → ∀ (ρ0 ρ : Pl) (T T' : Tr AVal) (H H' : AHeap) (a : Act) (w : World), ρ0.le ρ →
      Rel Prot w0 ρ H w → TmpsRel ρ n T a.tmps → a.defers = [] → aregs tb call l T H = some (T', H') →
      (∀ a' w', (∃ ρ', ρ0.le ρ' ∧ Rel Prot w0 ρ' H' w' ∧ TmpsRel ρ' n T' a'.tmps ∧ a'.defers = []) → Q .normal a' w') → wpOps P ops Q (List.range' i rest.length) a w := by
  intro rest
  induction rest with
  | nil =>
    intro i l _ hc ρ0 ρ T T' H H' a w hle R ht hd h hQ
    simp only [cOpers, Option.some.injEq] at hc
    subst hc
    simp only [aregs, Option.some.injEq, Prod.mk.injEq] at h
    obtain ⟨rfl, rfl⟩ := h
    exact hQ a w ⟨ρ, hle, R, ht, hd⟩
  | cons o rest ih =>
    intro i l hi hc ρ0 ρ T T' H H' a w hle R ht hd h hQ
    simp only [cOpers] at hc
    split at hc
    · rename_i ao l' ha hl
      simp only [Option.some.injEq] at hc
      subst hc
      have ho : ops[i]? = some o := by have := hi 0; simpa using this.symm
      have hnext : ∀ j, rest[j]? = ops[i + 1 + j]? := fun j => by have := hi (j + 1); simp only [List.getElem?_cons_succ] at this; rw [this]; congr 1; omega
      unfold cOper at ha
      split at ha
      · rename_i ax g hop hg
        cases hdst : okDst n o.dst with
        | false => rw [hdst] at ha; simp at ha
        | true =>
          rw [hdst] at ha
          simp only [cond_true, Option.some.injEq] at ha
          subst ha
          simp only [List.length_cons, List.range'_succ, wpOps, ho]
          simp only [aregs] at h
          rw [guard_ok ht hg]
          cases hgo : gOK T g with
          | false =>
            rw [hgo] at h
            simp only [cond_false] at h
            simp only [Bool.false_eq_true, if_false]
            refine ih (i + 1) l' hnext hl ρ0 ρ _ _ _ _ _ _ hle R (put_rel ht hdst undef_rel) ?_ h hQ
            cases hx : o.dst <;> simpa [Act.put] using hd
          | true =>
            rw [hgo] at h
            simp only [cond_true] at h
            simp only [if_true]
            left
            split at h
            · rename_i v H1 hv
              obtain ⟨ρ1, w1, nx, q1, q2, q3, q4⟩ := op_sim htb R ht o hop hv
              simp only [Oper.wp, q2]
              have hd' : ∀ u, (a.put o.dst u).defers = [] := fun u => by cases hx : o.dst <;> simpa [Act.put] using hd
              cases nx <;> simp only [NxRel] at q4
              case value u => exact ih (i + 1) l' hnext hl ρ0 ρ1 _ _ _ _ _ _ (Pl.le_trans hle q1) q3 (put_rel (ht.mono q1) hdst q4) (hd' _) h hQ
              case skip => exact ih (i + 1) l' hnext hl ρ0 ρ1 _ _ _ _ _ _ (Pl.le_trans hle q1) q3 (put_rel (ht.mono q1) hdst q4) (hd' _) h hQ
            · rename_i f args H1 hv
              split at h
              · rename_i v H2 hcl
                obtain ⟨ρ1, w1, nx, q1, q2, q3, q4⟩ := op_sim htb R ht o hop hv
                simp only [Oper.wp, q2]
                have hd' : ∀ u, (a.put o.dst u).defers = [] := fun u => by cases hx : o.dst <;> simpa [Act.put] using hd
                cases nx <;> simp only [NxRel] at q4
                case enter g vs =>
                  obtain ⟨rfl, q5⟩ := q4
                  simp only [Oper.upon]
                  refine (hcall _ _ _ _ _ hcl Prot w0 ρ1 w1 vs q3 q5).mono fun e w' hr => ?_
                  obtain ⟨ρ2, u, r1, rfl, r3, r4⟩ := hr
                  exact ih (i + 1) l' hnext hl ρ0 ρ2 _ _ _ _ _ _ (Pl.le_trans hle (Pl.le_trans q1 r1)) r3 (put_rel ((ht.mono q1).mono r1) hdst r4) (hd' _) h hQ
              · simp at h
            · simp at h
      · simp at ha
    · simp at hc

theorem SimQ.weaken {ρ ρ' : Pl} {n : Nat} {e : AEx} {T : Tr AVal} {H : AHeap} (h : ρ.le ρ') {e' : Exit} {a : Act} {w : World} (q : SimQ Prot w0 ρ' n e T H e' a w) : SimQ Prot w0 ρ n e T H e' a w := by
  obtain ⟨h1, ρ2, h2, h3⟩ := q
  exact ⟨h1, ρ2, Pl.le_trans h h2, h3⟩

theorem stuck_none {tb : FuncId → Bool} {call : FuncId → List AVal → AHeap → Option (AVal × AHeap)} {k : Nat} {T : Tr AVal} {H : AHeap} : aexec tb call k stuckC T H = none := rfl
theorem code_sim (hfol : P.follows .mixedOrders = true) {tb : FuncId → Bool} (htb : ∀ f, tb f = true → hasBody P f = true) {call : FuncId → List AVal → AHeap → Option (AVal × AHeap)} (hcall : CallOK P call) {n k : Nat} :
    ∀ (c : Code) (ac : ACode), cCode P n c = some ac → ∀ (ρ : Pl) (T T' : Tr AVal) (H H' : AHeap) (e : AEx) (a : Act) (w : World),
      Rel Prot w0 ρ H w → TmpsRel ρ n T a.tmps → a.defers = [] → aexec tb call k ac T H = some (e, T', H') → c.wp P (SimQ Prot w0 ρ n e T' H') a w := by
  intro c
  induction c with
  | skip =>
    intro ac hc ρ T T' H H' e a w R ht hd h
    simp only [cCode, Option.some.injEq] at hc; subst hc
    simp only [aexec, Option.some.injEq, Prod.mk.injEq] at h
    obtain ⟨rfl, rfl, rfl⟩ := h
    exact wp_skip ⟨rfl, ρ, Pl.le_refl _, R, ht, hd⟩
  | region id ops draw =>
    intro ac hc ρ T T' H H' e a w R ht hd h
    cases draw with
    | true =>
      simp only [cCode] at hc
      split at hc
      · rename_i l hl
        cases hck : (okMask (ops.toList.map bindE) (masksGo [] (ops.toList.map bindE)) && okPairs (claims 0 l) (masksGo [] (ops.toList.map bindE))) with
        | false =>
          rw [hck] at hc
          simp only [cond_false, Option.some.injEq] at hc; subst hc
          simp [stuck_none] at h
        | true =>
          rw [hck] at hc
          simp only [cond_true, Option.some.injEq] at hc; subst hc
          simp only [Bool.and_eq_true] at hck
          have hnc := opers_noClaim hl
          have hlk := claims_like l H.next 0
          have hok : okPairs (claims H.next l) (masksGo [] (ops.toList.map bindE)) = true := by rw [okPairs_like hlk]; exact hck.2
          have hlen : (claims H.next l).length = ops.toList.length := (claims_at hl H.next).1
          have hll : l.length = (claims H.next l).length := by rw [hlen]; exact (opers_at hl).1
          have hchk : (List.range l.length).map (chkOf (claims 0 l) (masksGo [] (ops.toList.map bindE))) = (List.range (claims H.next l).length).map (chkOf (claims H.next l) (masksGo [] (ops.toList.map bindE))) := by
            rw [hll]
            exact List.map_congr_left fun j _ => (chkOf_like hlk _ j).symm
          have hbase : ∀ d, Prot.dead d → d < H.next := fun d hd => (R.dead d hd).1
          have R := reserves_rel (pr := Prot.prot) l Prot.dead H hnc R
          simp only [aexec, adraw] at h
          rw [hchk] at h
          generalize hcl : claims H.next l = m at *
          generalize hrv : reserves H l = K at *
          split at h
          · rename_i ss hss
            cases hr : chkRun tb (K :: ss.map (·.2)) m ((List.range m.length).map (chkOf m (masksGo [] (ops.toList.map bindE)))) ss T with
            | false => rw [hr] at h; simp at h
            | true =>
              rw [hr] at h
              simp only [cond_true, Option.some.injEq, Prod.mk.injEq] at h
              obtain ⟨rfl, rfl, rfl⟩ := h
              refine wp_region_any hfol ?_
              have hN : m.length = ops.size := by simpa using hlen
              have hrep : ∀ i, (Array.replicate ops.size false).getD i false = false := fun i => by
                rw [Array.getD_eq_getD_getElem?, Array.getElem?_replicate]; split <;> rfl
              have hm0 : (fun i => (Array.replicate ops.size false).getD i false) = fun _ => false := funext hrep
              have hst : stage (fun i => (Array.replicate ops.size false).getD i false) 0 m = stage (fun _ => false) 0 m := stage_congr m 0 fun c o _ _ => by simp only [hrep]
              have hH : hAt K ss (stage (fun _ => false) 0 m) = K := by
                obtain ⟨q1, q2, q3, q4⟩ := stage_spec (fun _ => false) m 0
                have := heap_between hss (stage (fun _ => false) 0 m) 0 (by omega) fun c o _ hlt ho => by
                  cases hx : isChain o.op with
                  | false => rfl
                  | true => have := q3 c o ho hx (by omega); simp at this
                rw [Nat.zero_add] at this
                rw [this]; rfl
              refine draw_any (Prot := Prot) (w0 := w0) htb hcall (base := H.next) hlen (by rw [← hcl]; exact (claims_at hl H.next).2) hbase (by rw [← hcl]; exact claims_inj l H.next hnc) hck.1 hok hss hr (ρ0 := ρ) (fun a' w' hx => ⟨rfl, hx⟩) ops.size _ a _ (by simp) ?_ (fun j _ hj => by rw [hrep] at hj; simp at hj) ⟨ρ, Pl.le_refl _, ?_, ?_, hd⟩
              · rw [hm0]
                have : ∀ k, unl (fun _ => false) k = k := by
                  intro k
                  induction k with
                  | zero => rfl
                  | succ k ih => simp only [unl, ih, cond_false]
                exact this _
              · rw [hst, hH, hm0]; exact R.drew
              · refine ht.congr fun t => ?_
                rw [hm0]
                have : ∀ (l : List AOper) (ss : List (AVal × AHeap)) (k : Nat) (T : Tr AVal), tsel (fun _ => false) k l ss T = T := by
                  intro l
                  induction l with
                  | nil => intro ss k T; cases ss <;> rfl
                  | cons o r ih => intro ss k T; cases ss with
                    | nil => rfl
                    | cons s ss => obtain ⟨x, y⟩ := s; simp only [tsel, cond_false, ih]
                rw [this]
          · simp at h
      · simp at hc
    | false =>
      simp only [cCode] at hc
      split at hc
      · rename_i l hl
        simp only [Option.some.injEq] at hc; subst hc
        simp only [aexec] at h
        split at h
        · rename_i T1 H1 h1
          simp only [Option.some.injEq, Prod.mk.injEq] at h
          obtain ⟨rfl, rfl, rfl⟩ := h
          refine wp_region ?_
          have := regs_sim (Prot := Prot) (w0 := w0) htb hcall (Q := SimQ Prot w0 ρ n .normal T1 H1) ops.toList 0 l (fun j => by simp) hl ρ ρ T T1 H H1 a w (Pl.le_refl _) R ht hd h1 (fun a' w' h => ⟨rfl, h⟩)
          rw [List.range_eq_range']
          simpa using this
        · simp at h
      · simp at hc
  | seq x y ihx ihy =>
    intro ac hc ρ T T' H H' e a w R ht hd h
    simp only [cCode] at hc
    split at hc
    · rename_i ax ay hx hy
      simp only [Option.some.injEq] at hc; subst hc
      simp only [aexec] at h
      split at h
      · rename_i T1 H1 h1
        refine wp_seq (wp_mono (ihx _ hx ρ T T1 H H1 .normal a w R ht hd h1) ?_)
        rintro e1 a1 w1 ⟨he, ρ1, hl, R1, ht1, hd1⟩
        simp only at he
        subst he
        exact wp_mono (ihy _ hy ρ1 T1 T' H1 H' e a1 w1 R1 ht1 hd1 h) fun _ _ _ q => q.weaken hl
      · rename_i e1 T1 H1 hne h1
        simp only [Option.some.injEq, Prod.mk.injEq] at h
        obtain ⟨rfl, rfl, rfl⟩ := h
        refine wp_seq (wp_mono (ihx _ hx ρ T T1 H H1 e1 a w R ht hd h1) ?_)
        rintro e2 a1 w1 q
        cases e1 with
        | normal => exact (hne rfl).elim
        | exit id => have := q.1; simp only at this; subst this; exact q
        | ret => have := q.1; simp only at this; subst this; exact q
      · simp at h
    · simp at hc
  | cond c x y ihx ihy =>
    intro ac hc ρ T T' H H' e a w R ht hd h
    simp only [cCode] at hc
    split at hc
    · rename_i c' ax ay hcc hx hy
      simp only [Option.some.injEq] at hc; subst hc
      simp only [aexec] at h
      have hv := opd_ok ht hcc
      split at h
      · rename_i hb
        rw [hb] at hv
        simp only [VRel] at hv
        exact wp_cond_true hv (ihx _ hx ρ T T' H H' e a w R ht hd h)
      · rename_i hb
        rw [hb] at hv
        simp only [VRel] at hv
        exact wp_cond_false hv (ihy _ hy ρ T T' H H' e a w R ht hd h)
      · simp at h
    · simp at hc
  | block id c ih =>
    intro ac hc ρ T T' H H' e a w R ht hd h
    simp only [cCode] at hc
    split at hc
    · rename_i ax hx
      simp only [Option.some.injEq] at hc; subst hc
      simp only [aexec] at h
      split at h
      · rename_i j T1 H1 h1
        refine wp_block (wp_mono (ih _ hx ρ T T1 H H1 (.exit j) a w R ht hd h1) ?_)
        rintro e1 a1 w1 q
        have he := q.1
        simp only at he
        subst he
        cases hb : Nat.beq j id with
        | true =>
          rw [hb] at h
          simp only [cond_true, Option.some.injEq, Prod.mk.injEq] at h
          obtain ⟨rfl, rfl, rfl⟩ := h
          have := Nat.eq_of_beq_eq_true hb
          simp only [Exit.inBlock, this, if_true]
          exact ⟨rfl, q.2⟩
        | false =>
          rw [hb] at h
          simp only [cond_false, Option.some.injEq, Prod.mk.injEq] at h
          obtain ⟨rfl, rfl, rfl⟩ := h
          have : ¬ j = id := fun e => by rw [e, Nat.beq_refl] at hb; simp at hb
          simp only [Exit.inBlock, this, if_false]
          exact q
      · rename_i e1 T1 H1 hne h1
        simp only [Option.some.injEq, Prod.mk.injEq] at h
        obtain ⟨rfl, rfl, rfl⟩ := h
        refine wp_block (wp_mono (ih _ hx ρ T T1 H H1 e1 a w R ht hd h1) ?_)
        rintro e2 a1 w1 q
        cases e1 with
        | normal => have := q.1; simp only at this; subst this; exact q
        | exit j => exact (hne _ rfl).elim
        | ret => have := q.1; simp only at this; subst this; exact q
      · simp at h
    · simp at hc
  | loop c ih =>
    intro ac hc ρ T T' H H' e a w R ht hd h
    simp only [cCode] at hc
    split at hc
    · rename_i ax hx
      simp only [Option.some.injEq] at hc; subst hc
      simp only [aexec] at h
      refine wp_loop_rounds k ?_
      have key : ∀ (m : Nat) (T : Tr AVal) (H : AHeap) (ρ1 : Pl) (a : Act) (w : World), ρ.le ρ1 → Rel Prot w0 ρ1 H w → TmpsRel ρ1 n T a.tmps → a.defers = [] →
          aloop (aexec tb call k ax) m T H = some (e, T', H') → Code.rounds P c (SimQ Prot w0 ρ n e T' H') m a w := by
        intro m
        induction m with
        | zero => intro T H ρ1 a w _ _ _ _ h; simp [aloop] at h
        | succ m ihm =>
          intro T H ρ1 a w hl R ht hd h
          rw [rounds_succ]
          simp only [aloop] at h
          split at h
          · rename_i T1 H1 h1
            refine wp_mono (ih _ hx ρ1 T T1 H H1 .normal a w R ht hd h1) ?_
            rintro e1 a1 w1 ⟨he, ρ2, hl2, R1, ht1, hd1⟩
            simp only at he
            subst he
            exact ihm T1 H1 ρ2 a1 w1 (Pl.le_trans hl hl2) R1 ht1 hd1 h
          · rename_i e1 T1 H1 hne h1
            simp only [Option.some.injEq, Prod.mk.injEq] at h
            obtain ⟨rfl, rfl, rfl⟩ := h
            refine wp_mono (ih _ hx ρ1 T T1 H H1 e1 a w R ht hd h1) ?_
            rintro e2 a1 w1 q
            have q' := q.weaken hl
            cases e1 with
            | normal => exact (hne rfl).elim
            | exit id => have := q.1; simp only at this; subst this; exact q'
            | ret => have := q.1; simp only at this; subst this; exact q'
          · simp at h
      exact key k T H ρ a w (Pl.le_refl _) R ht hd h
    · simp at hc
  | exit id =>
    intro ac hc ρ T T' H H' e a w R ht hd h
    simp only [cCode, Option.some.injEq] at hc; subst hc
    simp only [aexec, Option.some.injEq, Prod.mk.injEq] at h
    obtain ⟨rfl, rfl, rfl⟩ := h
    exact wp_exit ⟨rfl, ρ, Pl.le_refl _, R, ht, hd⟩
  | ret =>
    intro ac hc ρ T T' H H' e a w R ht hd h
    simp only [cCode, Option.some.injEq] at hc; subst hc
    simp only [aexec, Option.some.injEq, Prod.mk.injEq] at h
    obtain ⟨rfl, rfl, rfl⟩ := h
    exact wp_ret ⟨rfl, ρ, Pl.le_refl _, R, ht, hd⟩
  | _ =>
    intro ac hc ρ T T' H H' e a w R ht hd h
    simp only [cCode, Option.some.injEq] at hc; subst hc
    simp [stuck_none] at h

theorem res_sim {n : Nat} (R : Rel Prot w0 ρ H w) {T : Tr AVal} {tmps : Array Value} (ht : TmpsRel ρ n T tmps) : ∀ {rs : List ResultVar} {l : List ARes}, cRes P rs = some l → ∀ {xs : List AVal}, ares T H l = some xs →
    ∃ vs : List Value, (rs.mapM (fun r => match r with
      | .tmp t => Pure.pure (tmps.getD t undef)
      | .cell a t => do loadVar t (← asAddr (tmps.getD a undef))) : Sem (List Value)).run P w = .ok vs w ∧ VRels ρ xs vs := by
  intro rs
  induction rs with
  | nil =>
    intro l hc xs h
    simp only [cRes, Option.some.injEq] at hc; subst hc
    simp only [ares, Option.some.injEq] at h; subst h
    exact ⟨[], rfl, by simp [VRels]⟩
  | cons r rs ih =>
    intro l hc xs h
    cases r with
    | tmp t =>
      simp only [cRes] at hc
      split at hc
      · rename_i l' hl
        simp only [Option.some.injEq] at hc; subst hc
        simp only [ares] at h
        split at h
        · rename_i ys hy
          simp only [Option.some.injEq] at h; subst h
          obtain ⟨vs, h1, h2⟩ := ih hl hy
          refine ⟨tmps.getD t undef :: vs, ?_, by simp only [VRels]; exact ⟨_, _, rfl, ht.at_ t, h2⟩⟩
          simp only [List.mapM_cons, Sem.run_bind, Sem.run_pure, Result.andThen_ok, h1]
        · simp at h
      · simp at hc
    | cell a t =>
      simp only [cRes] at hc
      split at hc
      · rename_i g k l' hk hl
        simp only [Option.some.injEq] at hc; subst hc
        simp only [ares] at h
        split at h
        · rename_i x ys hx hy
          simp only [Option.some.injEq] at h; subst h
          obtain ⟨vs, h1, h2⟩ := ih hl hy
          obtain ⟨u, u1, u2⟩ := load_ok (P := P) R (ty_of hk) (ht.at_ a) hx
          have hp : ∃ ad, tmps.getD a undef = .pointer (some ad) := by
            have hat := ht.at_ a
            unfold oLoad at hx
            split at hx
            · rename_i ad heq
              rw [heq] at hat
              simp only [VRel] at hat
              obtain ⟨L, _, _, e⟩ := hat
              exact ⟨_, e⟩
            · simp at hx
          obtain ⟨ad, had⟩ := hp
          refine ⟨u :: vs, ?_, by simp only [VRels]; exact ⟨_, _, rfl, u2, h2⟩⟩
          have : (loadVar t ad).run P w = .ok u w := by
            rw [had] at u1
            simpa [Instr.loadAt, Instr.sureAddr] using u1
          have hA : (asAddr (tmps.getD a undef)).run P w = .ok ad w := by rw [had]; rfl
          simp only [List.mapM_cons, Sem.run_bind, hA, Sem.run_pure, Result.andThen_ok, this, h1]
        · simp at h
      · simp at hc

theorem results_sim {n : Nat} (R : Rel Prot w0 ρ H w) {T : Tr AVal} {tmps : Array Value} (ht : TmpsRel ρ n T tmps) {fn : Func} {l : List ARes} (hc : cRes P fn.results.toList = some l) {xs : List AVal} (h : ares T H l = some xs) :
    ∃ v, (results fn tmps).run P w = .ok v w ∧ VRel ρ (aresV xs) v := by
  obtain ⟨vs, h1, h2⟩ := res_sim (P := P) R ht hc h
  have hl := VRels.len h2
  have hm : (fn.results.mapM (fun r => match r with
      | .tmp t => Pure.pure (tmps.getD t undef)
      | .cell a t => do loadVar t (← asAddr (tmps.getD a undef))) : Sem (Array Value)).run P w = .ok vs.toArray w := by
    rw [Array.mapM_eq_mapM_toList]
    simp only [Sem.run_map, h1, Result.andThen_ok]
  refine ⟨if h : vs.toArray.size = 1 then vs.toArray[0] else .tuple vs.toArray, ?_, ?_⟩
  · have e : results fn tmps = (fn.results.mapM (fun r => match r with
      | .tmp t => Pure.pure (tmps.getD t undef)
      | .cell a t => do loadVar t (← asAddr (tmps.getD a undef))) : Sem (Array Value)) >>= fun vs => Pure.pure (if h : vs.size = 1 then vs[0] else .tuple vs) := rfl
    rw [e, Sem.run_bind, hm]
    rfl
  · match xs, vs, h2, hl with
    | [x], [v], h2, _ =>
      simp only [VRels] at h2
      obtain ⟨v', r, e, h3, _⟩ := h2
      simp only [List.cons.injEq] at e
      obtain ⟨rfl, rfl⟩ := e
      exact h3
    | [], [], h2, _ => simp only [aresV, VRel]; exact ⟨_, rfl, h2⟩
    | x :: y :: xs, v :: u :: vs, h2, _ => simp only [aresV, VRel]; exact ⟨_, rfl, h2⟩

theorem args_sim : ∀ (args : List AVal) (vs : List Value) (i : Nat) (T : Tr AVal), VRels ρ args vs → (∀ t, i ≤ t → T.get t = none) →
    ∀ t, ev (putArgs args i T) (.t t) = if t < i then ev T (.t t) else match args[t - i]? with | some x => x | none => undefA := by
  intro args
  induction args with
  | nil =>
    intro vs i T _ hn t
    simp only [putArgs]
    split
    · rfl
    · rename_i h
      simp [ev, hn t (by omega)]
  | cons x r ih =>
    intro vs i T hv hn t
    simp only [VRels] at hv
    obtain ⟨v, vs', rfl, h1, h2⟩ := hv
    simp only [putArgs]
    rw [ih vs' (i + 1) (T.set i x) h2 (fun t ht => by rw [Tr.get_set, if_neg (by omega)]; exact hn t (by omega)) t]
    by_cases c1 : t < i
    · rw [if_pos (by omega), if_pos c1]
      simp only [ev, Tr.get_set]
      rw [if_neg (by omega)]
    · by_cases c2 : t = i
      · subst c2
        rw [if_pos (by omega), if_neg c1]
        simp [ev, Tr.get_set]
      · rw [if_neg (by omega), if_neg c1, show t - i = (t - (i + 1)) + 1 by omega]
        simp

theorem start_sim {args : List AVal} {vs : Array Value} (hv : VRels ρ args vs.toList) {n : Nat} (hn : args.length ≤ n) : TmpsRel ρ n (putArgs args 0 .e) (vs ++ Array.replicate (n - vs.size) undef) := by
  have hl := VRels.len hv
  simp only [Array.length_toList] at hl
  refine ⟨by simp; omega, fun t => ?_⟩
  rw [args_sim args vs.toList 0 .e hv (fun _ _ => rfl) t]
  rw [if_neg (by omega), Nat.sub_zero]
  by_cases ht : t < args.length
  · have hx : args[t]? = some args[t] := List.getElem?_eq_getElem ht
    obtain ⟨v, h1, h2⟩ := hv.nth _ _ hx
    rw [hx]
    rw [Array.getElem?_toList] at h1
    have : (vs ++ Array.replicate (n - vs.size) undef).getD t undef = v := by
      rw [Array.getD_eq_getD_getElem?, Array.getElem?_append_left (by omega), h1]; rfl
    rw [this]
    exact h2
  · have hx : args[t]? = none := List.getElem?_eq_none (by omega)
    rw [hx]
    have : (vs ++ Array.replicate (n - vs.size) undef).getD t undef = undef := by
      rw [Array.getD_eq_getD_getElem?, Array.getElem?_append_right (by omega)]
      by_cases h : t - vs.size < n - vs.size
      · simp [h]
      · simp [h]
    rw [this]
    exact undef_rel

/-- the table holds what the program's functions compile to -/
def TabOK (P : Program) (tab : Tr AFn) : Prop := ∀ f fn, tab.get f = some fn → cFn P f = some fn

theorem cFn_spec {f : FuncId} {fn : AFn} (h : cFn P f = some fn) : ∃ fc code, P.funcs[f]? = some fc ∧ fc.body = some code ∧ (fc.name == "runtime.NumGoroutine") = false ∧ fc.ntmps = fn.nt ∧ cCode P fn.nt code = some fn.body ∧ cRes P fc.results.toList = some fn.res := by
  unfold cFn at h
  split at h
  · rename_i fc hf
    split at h
    · rename_i c hb
      cases hn : (fc.name == "runtime.NumGoroutine") with
      | true => rw [hn] at h; simp at h
      | false =>
        rw [hn] at h
        simp only [cond_false] at h
        split at h
        · rename_i b r h1 h2
          simp only [Option.some.injEq] at h
          subst h
          exact ⟨fc, c, hf, hb, hn, rfl, h1, h2⟩
        · simp at h
    · simp at h
  · simp at h

structure NatOK (P : Program) (N : ANat) : Prop where
  body : ∀ f, N.is f = true → hasBody P f = true
  run : CallOK P N.run
theorem acall_ok (hfol : P.follows .mixedOrders = true) {N : ANat} (hN : NatOK P N) {tab : Tr AFn} (hT : TabOK P tab) : ∀ n, CallOK P (acall N tab n) := by
  have htb : ∀ f, tbA N tab f = true → hasBody P f = true := by
    intro f h
    unfold tbA at h
    cases hi : N.is f with
    | true => exact hN.body f hi
    | false =>
    rw [hi] at h
    simp only [cond_false] at h
    split at h
    · rename_i fn hf
      obtain ⟨fc, code, h1, h2, h3, _⟩ := cFn_spec (hT _ _ hf)
      simp [hasBody, h1, h2, h3]
    · simp at h
  intro n
  induction n with
  | zero => intro f args H v H' h; simp [acall] at h
  | succ n ih =>
    intro f args H v H' h Prot w0 ρ w vs R hv
    simp only [acall] at h
    cases hi : N.is f with
    | true => rw [hi] at h; exact hN.run f args H v H' h Prot w0 ρ w vs R hv
    | false =>
    rw [hi] at h
    simp only [cond_false] at h
    split at h
    · rename_i fn hf
      obtain ⟨fc, code, h1, h2, h3, h4, h5, h6⟩ := cFn_spec (hT _ _ hf)
      cases hb : Nat.ble args.length fn.nt with
      | false => rw [hb] at h; simp at h
      | true =>
        rw [hb] at h
        simp only [cond_true] at h
        have hn := Nat.le_of_ble_eq_true hb
        have hst := start_sim (ρ := ρ) hv hn
        split at h
        · simp at h
        · rename_i e T H1 hne hx
          split at h
          · rename_i xs hxs
            simp only [Option.some.injEq, Prod.mk.injEq] at h
            obtain ⟨rfl, rfl⟩ := h
            refine calls_of_wp h1 h2 ?_
            rw [h4]
            refine wp_mono (code_sim hfol (Prot := Prot) (w0 := w0) htb ih _ _ h5 ρ _ T H H1 e _ w R hst rfl hx) ?_
            rintro e' a' w' ⟨he, ρ', hl, R', ht', hd'⟩
            obtain ⟨u, r1, r2⟩ := results_sim (P := P) R' ht' h6 hxs
            have key : a'.defers = [] ∧ ∃ v, (results fc a'.tmps).run P w' = .ok v w' ∧ ∃ ρ' u, ρ.le ρ' ∧ Ending.returned v = .returned u ∧ Rel Prot w0 ρ' H1 w' ∧ VRel ρ' (aresV xs) u :=
              ⟨hd', u, r1, ρ', u, hl, rfl, R', r2⟩
            cases e with
            | normal => simp only at he; subst he; exact key
            | exit id => exact (hne _ rfl).elim
            | ret => simp only at he; subst he; exact key
          · simp at h
        · simp at h
    · simp at h
def noNat : ANat := ⟨fun _ => false, fun _ _ _ => none⟩
theorem noNat_ok : NatOK P noNat := ⟨fun f h => by simp [noNat] at h, fun f args H v H' h => by simp [noNat] at h⟩
end
end Go.Abs
