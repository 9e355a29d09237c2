/- The abstract machine, part 10: one operation of it is one of the model's. -/
import Derived.Test.YtndeemjhengoiaaA9
namespace Go.Abs
section
variable {P : Program} {Prot : Gh} {w0 : World} {ρ : Pl} {H H' : AHeap} {w : World}

theorem eqGuard_ok {op : BinOp} {t : TypeId} {x y : Operand} {u v : Value} {p q r : AVal} (hx : VRel ρ p u) (hy : VRel ρ q v) (h : aBin op p q = some r) : (eqGuard op t x y u v).run P w = .ok () w := by
  unfold aBin at h
  split at h
  · simp only [VRel] at hx hy
    subst hx hy
    cases op <;> rfl
  · simp only [VRel] at hx hy
    subst hx hy
    cases op <;> rfl
  · simp at h

theorem asBool_ok {b : Bool} {v : Value} (h : VRel ρ (.bool b) v) : (asBool v).run P w = .ok b w := by
  simp only [VRel] at h; subst h; rfl

theorem callFunc_ok {f : FuncId} (h : hasBody P f = true) (args : Array Value) : (callFunc f args).run P w = .ok (.enter f args) w := by
  unfold hasBody at h
  split at h
  · rename_i fn hf
    simp only [Bool.and_eq_true, Bool.not_eq_true'] at h
    have h1 : fn.body.isNone = false := by
      cases hb : fn.body with
      | none => rw [hb] at h; simp at h
      | some b => rfl
    simp only [callFunc, Sem.run_bind, run_program, Result.andThen_ok, hf, h.2, Bool.false_eq_true, if_false, h1]
    rfl
  · simp at h

theorem tail_of {t : TypeId} (h : isTail P t = true) : Tail P t := by
  unfold isTail at h
  split at h
  · rename_i e he; exact .inl ⟨e, he⟩
  · rename_i he; exact .inr he
  · simp at h

theorem one_arr {l : List Value} {α : Type} {x : α} {arr : Array α} (h : arr.toList = [x]) : arr = #[x] := Array.toList_inj.1 (by simpa using h)
theorem two_arr {α : Type} {x y : α} {arr : Array α} (h : arr.toList = [x, y]) : arr = #[x, y] := Array.toList_inj.1 (by simpa using h)

theorem opds_two {x y : Opd} {l : List Operand} (h : cOpds l = some [x, y]) : ∃ p q, l = [p, q] ∧ cOpd p = some x ∧ cOpd q = some y := by
  cases l with
  | nil => simp [cOpds] at h
  | cons p l =>
    cases l with
    | nil =>
      simp only [cOpds] at h
      split at h
      · rename_i a b h1 h2
        simp only [Option.some.injEq, List.cons.injEq] at h h2
        rw [← h2] at h
        simp at h
      · simp at h
    | cons q l =>
      cases l with
      | nil =>
        simp only [cOpds] at h
        split at h
        · rename_i a b h1 h2
          split at h2
          · rename_i c d h3 h4
            simp only [Option.some.injEq] at h4 h2
            subst h4
            subst h2
            simp only [Option.some.injEq, List.cons.injEq, and_true] at h
            obtain ⟨rfl, rfl⟩ := h
            exact ⟨p, q, rfl, h1, h3⟩
          · simp at h2
        · simp at h
      | cons r l =>
        simp only [cOpds] at h
        split at h
        · rename_i a b h1 h2
          split at h2
          · rename_i c d h3 h4
            split at h4
            · rename_i e f h5 h6
              simp only [Option.some.injEq] at h4 h2
              subst h4
              subst h2
              simp at h
            · simp at h4
          · simp at h2
        · simp at h
theorem opds_one {x : Opd} {l : List Operand} (h : cOpds l = some [x]) : ∃ p, l = [p] ∧ cOpd p = some x := by
  cases l with
  | nil => simp [cOpds] at h
  | cons p l =>
    cases l with
    | nil =>
      simp only [cOpds] at h
      split at h
      · rename_i a b h1 h2
        simp only [Option.some.injEq, List.cons.injEq] at h h2
        subst h2
        obtain ⟨rfl, _⟩ := h
        exact ⟨p, rfl, h1⟩
      · simp at h
    | cons q l =>
      simp only [cOpds] at h
      split at h
      · rename_i a b h1 h2
        split at h2
        · rename_i c d h3 h4
          simp only [Option.some.injEq] at h2
          subst h2
          simp at h
        · simp at h2
      · simp at h

theorem call_sim {tb : FuncId → Bool} (htb : ∀ f, tb f = true → hasBody P f = true) (R : Rel Prot w0 ρ H w) {n : Nat} {T : Tr AVal} {a : Act} (ht : TmpsRel ρ n T a.tmps) (o : Oper) (c : Call) {ao : AOp} (hc : cCall P c = some ao)
    {nx : Nx} (h : aop tb T H ao = some (nx, H')) : OpSim P Prot w0 ρ w (execOp a.eval { o with op := .call c }) nx H' := by
  obtain ⟨callee, args, argTypes⟩ := c
  unfold cCall at hc
  split at hc
  · -- a function
    rename_i f heq
    simp only at heq
    subst heq
    split at hc
    · rename_i l hl
      simp only [Option.some.injEq] at hc
      subst hc
      simp only [aop] at h
      cases hb : tb f with
      | false => rw [hb] at h; simp at h
      | true =>
        rw [hb] at h
        simp only [cond_true, Option.some.injEq, Prod.mk.injEq] at h
        obtain ⟨rfl, rfl⟩ := h
        refine ⟨ρ, w, .enter f (args.map a.eval), Pl.le_refl _, ?_, R, rfl, ?_⟩
        · have := callFunc_ok (P := P) (w := w) (htb f hb) (args.map a.eval)
          simp [execOp, resolve, Act.eval, Deferred.ofValue, invoke, this]
        · simpa using opds_ok ht hl
    · simp at hc
  · rename_i x _ heq
    simp only at heq
    subst heq
    split at hc
    · rename_i y l hy hl
      simp only [Option.some.injEq] at hc
      subst hc
      simp only [aop] at h
      split at h
      · rename_i f fs cs hev
        cases hb : tb f with
        | false => rw [hb] at h; simp at h
        | true =>
          rw [hb] at h
          simp only [cond_true, Option.some.injEq, Prod.mk.injEq] at h
          obtain ⟨rfl, rfl⟩ := h
          have hv := opd_ok ht hy
          rw [hev] at hv
          simp only [VRel] at hv
          obtain ⟨fv, cv, hfv, h1, h2⟩ := hv
          refine ⟨ρ, w, .enter f (fv ++ args.map a.eval ++ cv), Pl.le_refl _, ?_, R, rfl, ?_⟩
          · have := callFunc_ok (P := P) (w := w) (htb f hb) (fv ++ args.map a.eval ++ cv)
            simp only [Array.append_assoc] at this
            simp [execOp, resolve, hfv, Deferred.ofValue, invoke, this]
          · simpa using VRels.append (VRels.append h1 (opds_ok ht hl)) h2
      · simp at h
    · simp at hc
  · -- append
    rename_i heq
    simp only at heq
    subst heq
    split at hc
    · rename_i sT xT s x hT hO
      simp only at hT hO
      obtain ⟨p, q, hpq, hp, hq⟩ := opds_two hO
      have ha := two_arr hT
      have hb := two_arr hpq
      subst ha hb
      split at hc
      · rename_i e he
        split at hc
        · rename_i g m m' b h1 h2
          cases hg : (Nat.beq m m' && isTail P xT) with
          | false => rw [hg] at hc; simp at hc
          | true =>
            rw [hg] at hc
            simp only [Bool.and_eq_true] at hg
            simp only [cond_true, Option.some.injEq] at hc
            subst hc
            have := Nat.eq_of_beq_eq_true hg.1
            subst this
            simp only [aop] at h
            obtain ⟨y, hy, rfl⟩ := vh_spec h
            have := OpSim.good (append_ok (P := P) (t := o.type) R he (ty_of h1) (elem_of h2) (tail_of hg.2) (opd_ok ht hp) (opd_ok ht hq) hy)
            simpa [execOp, resolve, invoke, builtin] using this
        · simp at hc
      · simp at hc
    · simp at hc
  · -- len
    rename_i heq
    simp only at heq
    subst heq
    split at hc
    · rename_i T1 x hT hO
      simp only at hT hO
      obtain ⟨p, hpq, hp⟩ := opds_one hO
      have ha : argTypes = #[T1] := Array.toList_inj.1 (by simpa using hT)
      have hb : args = #[p] := Array.toList_inj.1 (by simpa using hpq)
      subst ha hb
      split at hc
      · rename_i e he
        simp only [Option.some.injEq] at hc
        subst hc
        simp only [aop] at h
        obtain ⟨y, hy, rfl, rfl⟩ := vv_spec h
        have hx := opd_ok ht hp
        unfold aLenK at hy
        split at hy
        · simp at hy
        · rename_i a1 n1 r1 hev
          simp only [cond_false, Option.some.injEq] at hy
          have := OpSim.val R (len_ok (P := P) (w := w) (t := o.type) (.inl ⟨e, he⟩) hx (by rw [hev]; simp only [aLen, Option.some.injEq]; exact hy) (.inr ⟨a1, n1, r1, e, hev, he⟩))
          simpa [execOp, resolve, invoke, builtin] using this
        · simp at hy
      · rename_i he
        simp only [Option.some.injEq] at hc
        subst hc
        simp only [aop] at h
        obtain ⟨y, hy, rfl, rfl⟩ := vv_spec h
        have hx := opd_ok ht hp
        unfold aLenK at hy
        split at hy
        · rename_i s1 hev
          simp only [cond_true, Option.some.injEq] at hy
          have := OpSim.val R (len_ok (P := P) (w := w) (t := o.type) (.inr he) hx (by rw [hev]; simp only [aLen, Option.some.injEq]; exact hy) (.inl ⟨s1, hev, he⟩))
          simpa [execOp, resolve, invoke, builtin] using this
        · simp at hy
        · simp at hy
      · simp at hc
    · simp at hc
  · simp at hc

theorem op_sim0 {tb : FuncId → Bool} (htb : ∀ f, tb f = true → hasBody P f = true) (R : Rel Prot w0 ρ H w) {n : Nat} {T : Tr AVal} {a : Act} (ht : TmpsRel ρ n T a.tmps) (o : Oper) {ao : AOp} (hc : cOp0 P o.op = some ao)
    {nx : Nx} (h : aop tb T H ao = some (nx, H')) : OpSim P Prot w0 ρ w (execOp a.eval o) nx H' := by
  obtain ⟨dst, op, type, pos, after, guard⟩ := o
  simp only at hc
  cases op <;> simp only [cOp0, reduceCtorEq] at hc
  case move x =>
    split at hc
    · rename_i y hy
      simp only [Option.some.injEq] at hc; subst hc
      simp only [aop, Option.some.injEq, Prod.mk.injEq] at h
      obtain ⟨rfl, rfl⟩ := h
      exact ⟨ρ, w, _, Pl.le_refl _, rfl, R, opd_ok ht hy⟩
    · simp at hc
  case assign x =>
    split at hc
    · rename_i y hy
      simp only [Option.some.injEq] at hc; subst hc
      simp only [aop, Option.some.injEq, Prod.mk.injEq] at h
      obtain ⟨rfl, rfl⟩ := h
      exact ⟨ρ, w, _, Pl.le_refl _, rfl, R, opd_ok ht hy⟩
    · simp at hc
  case pick c x y =>
    split at hc
    · rename_i c' x' y' h1 h2 h3
      simp only [Option.some.injEq] at hc; subst hc
      simp only [aop] at h
      split at h
      · rename_i b hb
        simp only [Option.some.injEq, Prod.mk.injEq] at h
        obtain ⟨rfl, rfl⟩ := h
        have hcv := opd_ok ht h1
        rw [hb] at hcv
        refine ⟨ρ, w, .value (if b then a.eval x else a.eval y), Pl.le_refl _, ?_, R, ?_⟩
        · simp only [execOp, Sem.run_bind, asBool_ok hcv, Result.andThen_ok]; rfl
        · cases b
          · exact opd_ok ht h3
          · exact opd_ok ht h2
      · simp at h
    · simp at hc
  case alloc e =>
    split at hc
    · rename_i z hz
      simp only [Option.some.injEq] at hc; subst hc
      simp only [aop] at h
      obtain ⟨y, hy, rfl⟩ := vh_spec h
      simp only [Option.some.injEq] at hy
      have := OpSim.good (alloc_ok (P := P) R hz)
      rw [hy] at this
      exact this
    · simp at hc
  case box e x =>
    split at hc
    · rename_i y hy
      simp only [Option.some.injEq] at hc; subst hc
      simp only [aop] at h
      obtain ⟨z, hz, rfl⟩ := vh_spec h
      simp only [Option.some.injEq] at hz
      have := OpSim.good (new_ok (P := P) R e (opd_ok ht hy))
      rw [hz] at this
      exact this
    · simp at hc
  case build t ps =>
    split at hc
    · rename_i fs z hu hz
      split at hc
      · rename_i pl hpl
        split at hc
        · rename_i l hl
          simp only [Option.some.injEq] at hc; subst hc
          simp only [aop] at h
          obtain ⟨y, hy, rfl, rfl⟩ := vv_spec h
          have := OpSim.val R (buildStr_ok (P := P) (w := w) (qs := ps.map fun p => (p.1, a.eval p.2)) hu hpl hz (by simpa using parts_ok ht hl) hy)
          simpa [execOp] using this
        · simp at hc
      · simp at hc
    · rename_i m e z hu hz
      split at hc
      · rename_i g k hk
        split at hc
        · rename_i l hl
          simp only [Option.some.injEq] at hc; subst hc
          simp only [aop] at h
          obtain ⟨y, hy, rfl, rfl⟩ := vv_spec h
          have := OpSim.val R (buildArr_ok (P := P) (w := w) (qs := ps.map fun p => (p.1, a.eval p.2)) hu (ty_of hk) hz (by simpa using parts_ok ht hl) hy)
          simpa [execOp] using this
        · simp at hc
      · simp at hc
    · simp at hc
  case buildSlice t len ps =>
    split at hc
    · rename_i e hu
      split at hc
      · rename_i g k z hk hz
        split at hc
        · rename_i l hl
          cases hg : (Nat.beq z.length k && Nat.ble (len * k) 16777216) with
          | false => rw [hg] at hc; simp at hc
          | true =>
            rw [hg] at hc
            simp only [Bool.and_eq_true, Nat.ble_eq] at hg
            simp only [cond_true, Option.some.injEq] at hc; subst hc
            simp only [aop] at h
            obtain ⟨y, hy, rfl⟩ := vh_spec h
            have := OpSim.good (buildSl_ok (P := P) (qs := ps.map fun p => (p.1, a.eval p.2)) R hu (ty_of hk) hz (Nat.eq_of_beq_eq_true hg.1) hg.2 (by simpa using parts_ok ht hl) hy)
            simpa [execOp] using this
        · simp at hc
      · simp at hc
    · simp at hc
  case load t x =>
    split at hc
    · rename_i g k y hk hy
      simp only [Option.some.injEq] at hc; subst hc
      simp only [aop] at h
      obtain ⟨z, hz, rfl, rfl⟩ := vv_spec h
      exact OpSim.val R (load_ok (P := P) R (ty_of hk) (opd_ok ht hy) hz)
    · simp at hc
  case store t x y =>
    split at hc
    · rename_i g k x' y' hk hx hy
      simp only [Option.some.injEq] at hc; subst hc
      simp only [aop] at h
      split at h
      · rename_i H1 h1
        simp only [Option.some.injEq, Prod.mk.injEq] at h
        obtain ⟨rfl, rfl⟩ := h
        obtain ⟨w', q1, q2⟩ := store_ok (P := P) R (ty_of hk) (opd_ok ht hx) (opd_ok ht hy) h1
        refine ⟨ρ, w', .skip, Pl.le_refl _, ?_, q2, ?_⟩
        · simp only [execOp, Sem.run_bind, q1, Result.andThen_ok]; rfl
        · simp only [NxRel, undefA, VRel, undef]; exact ⟨#[], rfl, by simp [VRels]⟩
      · simp at h
    · simp at hc
  case nilCheck x =>
    split at hc
    · rename_i y hy
      simp only [Option.some.injEq] at hc; subst hc
      simp only [aop] at h
      obtain ⟨z, hz, rfl, rfl⟩ := vv_spec h
      exact nilChk_ok R (opd_ok ht hy) hz ⟨dst, .nilCheck x, type, pos, after, guard⟩ a.eval rfl
    · simp at hc
  case binOp op t x y yt =>
    split at hc
    · rename_i x' y' hx hy
      simp only [Option.some.injEq] at hc; subst hc
      simp only [aop] at h
      obtain ⟨z, hz, rfl, rfl⟩ := vv_spec h
      obtain ⟨u, h1, h2⟩ := bin_ok (P := P) (t := t) (opd_ok ht hx) (opd_ok ht hy) hz w
      refine OpSim.val R ⟨u, ?_, h2⟩
      simp only [Sem.run_bind, eqGuard_ok (opd_ok ht hx) (opd_ok ht hy) hz, Result.andThen_ok, h1]
    · simp at hc
  case unOp op t x =>
    split at hc
    · rename_i y hy
      simp only [Option.some.injEq] at hc; subst hc
      simp only [aop] at h
      obtain ⟨z, hz, rfl, rfl⟩ := vv_spec h
      exact OpSim.val R (un_ok (P := P) (opd_ok ht hy) hz w)
    · simp at hc
  case convert s d x =>
    split at hc
    · rename_i y hy
      split at hc
      · rename_i d1 k h1 h2
        simp only [Option.some.injEq] at hc; subst hc
        simp only [aop] at h
        obtain ⟨z, hz, rfl, rfl⟩ := vv_spec h
        exact OpSim.val R (conv_ok (P := P) h1 h2 (opd_ok ht hy) hz w)
      · rename_i e _ h1 h2
        split at hc
        · rename_i he
          simp only [Option.some.injEq] at hc; subst hc
          simp only [aop] at h
          obtain ⟨z, hz, rfl⟩ := vh_spec h
          exact OpSim.good (sb_ok (P := P) R h1 h2 he (opd_ok ht hy) hz)
        · simp at hc
      · rename_i e _ h1 h2
        split at hc
        · rename_i he
          simp only [Option.some.injEq] at hc; subst hc
          simp only [aop] at h
          obtain ⟨z, hz, rfl, rfl⟩ := vv_spec h
          exact OpSim.val R (bs_ok (P := P) R h1 he h2 (opd_ok ht hy) hz)
        · simp at hc
      · simp at hc
    · simp at hc
  case makeInterface t x =>
    split at hc
    · simp at hc
    · rename_i y d hno hy hu
      simp only [Option.some.injEq] at hc; subst hc
      simp only [aop, Option.some.injEq, Prod.mk.injEq] at h
      obtain ⟨rfl, rfl⟩ := h
      refine OpSim.val R ⟨.iface t (a.eval x), ?_, by simp only [VRel]; exact ⟨_, rfl, opd_ok ht (by assumption)⟩⟩
      cases d <;> first
        | exact (hno _ rfl).elim
        | (simp only [Instr.makeInterface, Sem.run_bind, run_underlying hu, Result.andThen_ok]; rfl)
    · simp at hc
  case makeFunc fn x y =>
    split at hc
    · rename_i x' y' hx hy
      simp only [Option.some.injEq] at hc; subst hc
      simp only [aop, Option.some.injEq, Prod.mk.injEq] at h
      obtain ⟨rfl, rfl⟩ := h
      refine OpSim.val R ⟨.func fn (x.map a.eval) (y.map a.eval), rfl, ?_⟩
      simp only [VRel]
      exact ⟨_, _, rfl, by simpa using opds_ok ht hx, by simpa using opds_ok ht hy⟩
    · simp at hc
  case makeSlice t l c =>
    split at hc
    · rename_i e hu
      split at hc
      · rename_i m b z l' c' h1 h2 h3 h4
        simp only [Option.some.injEq] at hc; subst hc
        simp only [aop] at h
        obtain ⟨y, hy, rfl⟩ := vh_spec h
        exact OpSim.good (make_ok (P := P) R hu (elem_of h1) h2 (opd_ok ht h3) (opd_ok ht h4) hy)
      · simp at hc
    · simp at hc
  case slice t x lo hi mx =>
    split at hc
    · rename_i x' lo' hi' hu hx hlo hhi hmx
      simp only [Option.some.injEq] at hc; subst hc
      simp only [aop] at h
      obtain ⟨y, hy, rfl, rfl⟩ := vv_spec h
      have hmn : mx = none := by
        cases mx with
        | none => rfl
        | some m => simp only [cOpdO] at hmx; split at hmx <;> simp at hmx
      subst hmn
      obtain ⟨u, q1, q2⟩ := slStr_ok (P := P) (w := w) hu (opd_ok ht hx) (opdO_ok ht hlo) (opdO_ok ht hhi) hy
      refine OpSim.val R ⟨u, ?_, q2⟩
      simp only [Instr.sliceAt, Sem.run_bind, run_underlying hu, Result.andThen_ok]
      exact q1
    · rename_i e x' lo' hi' mx' hu hx hlo hhi hmx
      split at hc
      · rename_i g k hk
        simp only [Option.some.injEq] at hc; subst hc
        simp only [aop] at h
        obtain ⟨y, hy, rfl, rfl⟩ := vv_spec h
        obtain ⟨u, q1, q2⟩ := sl_ok (P := P) (w := w) hu (ty_of hk) (opd_ok ht hx) (opdO_ok ht hlo) (opdO_ok ht hhi) (opdO_ok ht hmx) hy
        refine OpSim.val R ⟨u, ?_, q2⟩
        simp only [Instr.sliceAt, Sem.run_bind, run_underlying hu, Result.andThen_ok]
        exact q1
      · simp at hc
    · simp at hc
  case fieldAddr s x i =>
    split at hc
    · rename_i fs y hu hy
      split at hc
      · rename_i f hf
        split at hc
        · rename_i g k hk
          cases hg : Nat.beq k 0 with
          | true => rw [hg] at hc; simp at hc
          | false =>
            rw [hg] at hc
            simp only [cond_false, Option.some.injEq] at hc; subst hc
            simp only [aop] at h
            obtain ⟨z, hz, rfl, rfl⟩ := vv_spec h
            exact OpSim.val R (fieldA_ok (P := P) (w := w) hu hf (ty_of hk) (fun e => by rw [e] at hg; simp at hg) (opd_ok ht hy) hz)
        · simp at hc
      · simp at hc
    · simp at hc
  case field s x i =>
    split at hc
    · rename_i fs y hu hy
      split at hc
      · rename_i f hf
        split at hc
        · rename_i g k hk
          simp only [Option.some.injEq] at hc; subst hc
          simp only [aop] at h
          obtain ⟨z, hz, rfl, rfl⟩ := vv_spec h
          exact OpSim.val R (fieldV_ok (P := P) (w := w) hu hf (ty_of hk) (opd_ok ht hy) hz)
        · simp at hc
      · simp at hc
    · simp at hc
  case indexAddr t x i =>
    split at hc
    · rename_i e x' i' hu hx hi
      split at hc
      · rename_i g k hk
        simp only [Option.some.injEq] at hc; subst hc
        simp only [aop] at h
        obtain ⟨z, hz, rfl, rfl⟩ := vv_spec h
        exact OpSim.val R (idxA_ok (P := P) (w := w) hu (ty_of hk) (opd_ok ht hx) (opd_ok ht hi) hz)
      · simp at hc
    · rename_i m e x' i' hu hx hi
      split at hc
      · rename_i g k hk
        simp only [Option.some.injEq] at hc; subst hc
        simp only [aop] at h
        obtain ⟨z, hz, rfl, rfl⟩ := vv_spec h
        exact OpSim.val R (idxArr_ok (P := P) (w := w) hu (ty_of hk) (opd_ok ht hx) (opd_ok ht hi) hz)
      · simp at hc
    · simp at hc
  case index t x i =>
    split at hc
    · rename_i x' i' hu hx hi
      simp only [Option.some.injEq] at hc; subst hc
      simp only [aop] at h
      obtain ⟨z, hz, rfl, rfl⟩ := vv_spec h
      exact OpSim.val R (idxS_ok (P := P) (w := w) hu (opd_ok ht hx) (opd_ok ht hi) hz)
    · rename_i m e x' i' hu hx hi
      split at hc
      · rename_i g k hk
        simp only [Option.some.injEq] at hc; subst hc
        simp only [aop] at h
        obtain ⟨z, hz, rfl, rfl⟩ := vv_spec h
        exact OpSim.val R (idx_ok (P := P) (w := w) hu (ty_of hk) (opd_ok ht hx) (opd_ok ht hi) hz)
      · simp at hc
    · simp at hc
  case extract x i =>
    split at hc
    · rename_i y hy
      simp only [Option.some.injEq] at hc; subst hc
      simp only [aop] at h
      obtain ⟨z, hz, rfl, rfl⟩ := vv_spec h
      exact OpSim.val R (extract_ok (P := P) (w := w) (opd_ok ht hy) hz)
    · simp at hc
  case call c => exact call_sim htb R ht ⟨dst, .call c, type, pos, after, guard⟩ c hc h

theorem op_simX {tb : FuncId → Bool} (R : Rel Prot w0 ρ H w) {n : Nat} {T : Tr AVal} {a : Act} (ht : TmpsRel ρ n T a.tmps) (o : Oper) {ao : AOp} (hc : cOpX P o.op = some ao)
    {nx : Nx} (h : aop tb T H ao = some (nx, H')) : OpSim P Prot w0 ρ w (execOp a.eval o) nx H' := by
  obtain ⟨dst, op, type, pos, after, guard⟩ := o
  simp only at hc
  unfold cOpX at hc
  split at hc
  · rename_i t x y yt
    split at hc
    · rename_i x' y' hx hy
      split at hc
      · rename_i k hk
        simp only [Option.some.injEq] at hc; subst hc
        simp only [aop] at h
        obtain ⟨z, hz, rfl, rfl⟩ := vv_spec h
        simp only [aPf, evs, aEqs] at hz
        split at hz
        · rename_i b hb
          simp only [cond_false, Option.some.injEq] at hz
          subst hz
          exact OpSim.val R ⟨_, eqv_ok (op := .eql) (.inl rfl) hk (opd_ok ht hx) (opd_ok ht hy) hb, rfl⟩
        · simp at hz
      · split at hc
        · rename_i fs hk
          simp only [Option.some.injEq] at hc; subst hc
          simp only [aop] at h
          obtain ⟨z, hz, rfl, rfl⟩ := vv_spec h
          simp only [aPf, evs] at hz
          unfold aEqSs at hz
          split at hz
          · rename_i l m hlm
            simp only [List.cons.injEq, and_true] at hlm
            obtain ⟨e1, e2⟩ := hlm
            have p1 := opd_ok ht hx
            have p2 := opd_ok ht hy
            rw [e1] at p1
            rw [e2] at p2
            split at hz
            · rename_i b hb
              simp only [cond_false, Option.some.injEq] at hz
              subst hz
              exact OpSim.val R ⟨_, eqS_ok (op := .eql) (.inl rfl) hk p1 p2 hb, rfl⟩
            · simp at hz
          · simp at hz
        · simp at hc
    · simp at hc
  · rename_i t x y yt
    split at hc
    · rename_i x' y' hx hy
      split at hc
      · rename_i k hk
        simp only [Option.some.injEq] at hc; subst hc
        simp only [aop] at h
        obtain ⟨z, hz, rfl, rfl⟩ := vv_spec h
        simp only [aPf, evs, aEqs] at hz
        split at hz
        · rename_i b hb
          simp only [cond_true, Option.some.injEq] at hz
          subst hz
          exact OpSim.val R ⟨_, eqv_ok (op := .neq) (.inr rfl) hk (opd_ok ht hx) (opd_ok ht hy) hb, rfl⟩
        · simp at hz
      · split at hc
        · rename_i fs hk
          simp only [Option.some.injEq] at hc; subst hc
          simp only [aop] at h
          obtain ⟨z, hz, rfl, rfl⟩ := vv_spec h
          simp only [aPf, evs] at hz
          unfold aEqSs at hz
          split at hz
          · rename_i l m hlm
            simp only [List.cons.injEq, and_true] at hlm
            obtain ⟨e1, e2⟩ := hlm
            have p1 := opd_ok ht hx
            have p2 := opd_ok ht hy
            rw [e1] at p1
            rw [e2] at p2
            split at hz
            · rename_i b hb
              simp only [cond_true, Option.some.injEq] at hz
              subst hz
              exact OpSim.val R ⟨_, eqS_ok (op := .neq) (.inr rfl) hk p1 p2 hb, rfl⟩
            · simp at hz
          · simp at hz
        · simp at hc
    · simp at hc
  · rename_i t x
    split at hc
    · rename_i y hu hy
      simp only [Option.some.injEq] at hc; subst hc
      simp only [aop] at h
      obtain ⟨z, hz, rfl⟩ := vh_spec h
      exact OpSim.good (range_ok (P := P) R hu (opd_ok ht hy) hz)
    · simp at hc
  · rename_i x
    split at hc
    · rename_i y hy
      simp only [Option.some.injEq] at hc; subst hc
      simp only [aop] at h
      obtain ⟨z, hz, rfl⟩ := vh_spec h
      exact OpSim.good (next_ok (P := P) (t := type) R (opd_ok ht hy) hz)
    · simp at hc
  · rename_i t x lo hi mx
    split at hc
    · rename_i m e x' lo' hi' mx' hu hx hlo hhi hmx
      split at hc
      · rename_i g k hk
        simp only [Option.some.injEq] at hc; subst hc
        simp only [aop] at h
        obtain ⟨y, hy, rfl, rfl⟩ := vv_spec h
        exact OpSim.val R (slArr_ok (P := P) (w := w) hu (ty_of hk) (opd_ok ht hx) (opdO_ok ht hlo) (opdO_ok ht hhi) (opdO_ok ht hmx) hy)
      · simp at hc
    · simp at hc
  · rename_i s d x
    cases hb : Nat.beq s d with
    | false => rw [hb] at hc; simp at hc
    | true =>
      rw [hb] at hc
      have := Nat.eq_of_beq_eq_true hb
      subst this
      simp only [cond_true] at hc
      split at hc
      · rename_i e y hu hy
        split at hc
        · rename_i he
          simp only [Option.some.injEq] at hc; subst hc
          simp only [aop] at h
          obtain ⟨z, hz, rfl⟩ := vh_spec h
          exact OpSim.good (mark_ok (P := P) R hu he (opd_ok ht hy) hz)
        · simp at hc
      · simp at hc
  · rename_i c
    obtain ⟨callee, args, argTypes⟩ := c
    split at hc
    · rename_i heq
      simp only at heq
      subst heq
      split at hc
      · rename_i l hl
        simp only [Option.some.injEq] at hc; subst hc
        simp only [aop] at h
        obtain ⟨z, hz, rfl, rfl⟩ := vv_spec h
        have hv := opds_ok ht hl
        simp only [aPf] at hz
        cases hl' : evs T l with
        | nil => rw [hl'] at hz; simp [aMMs] at hz
        | cons x r =>
          rw [hl'] at hz hv
          simp only [VRels] at hv
          obtain ⟨v, vs, e, hx, hr⟩ := hv
          obtain ⟨q, hq, hrun⟩ := mm_ok (P := P) (w := w) (g := true) hx hr hz
          refine OpSim.val R (s := Builtin.max_ argTypes type (args.map a.eval)) ⟨q, ?_, hq⟩
          unfold Builtin.max_
          simp only [Array.toList_map, e]
          exact hrun
      · simp at hc
    · rename_i heq
      simp only at heq
      subst heq
      split at hc
      · rename_i l hl
        simp only [Option.some.injEq] at hc; subst hc
        simp only [aop] at h
        obtain ⟨z, hz, rfl, rfl⟩ := vv_spec h
        have hv := opds_ok ht hl
        simp only [aPf] at hz
        cases hl' : evs T l with
        | nil => rw [hl'] at hz; simp [aMMs] at hz
        | cons x r =>
          rw [hl'] at hz hv
          simp only [VRels] at hv
          obtain ⟨v, vs, e, hx, hr⟩ := hv
          obtain ⟨q, hq, hrun⟩ := mm_ok (P := P) (w := w) (g := false) hx hr hz
          refine OpSim.val R (s := Builtin.min_ argTypes type (args.map a.eval)) ⟨q, ?_, hq⟩
          unfold Builtin.min_
          simp only [Array.toList_map, e]
          exact hrun
      · simp at hc
    · rename_i f heq
      simp only at heq
      subst heq
      cases hf : isIbs P f with
      | false => rw [hf] at hc; simp at hc
      | true =>
        rw [hf] at hc
        simp only [cond_true] at hc
        split at hc
        · rename_i l hl
          simp only [Option.some.injEq] at hc; subst hc
          simp only [aop] at h
          obtain ⟨z, hz, rfl, rfl⟩ := vv_spec h
          simp only [aPf] at hz
          obtain ⟨q, hq, hrun⟩ := ibs_ok (P := P) (w := w) hf hz (vs := args.map a.eval) (by simpa using opds_ok ht hl)
          exact ⟨ρ, w, .value q, Pl.le_refl _, by simpa [execOp, resolve, Act.eval, Deferred.ofValue, invoke] using hrun, R, hq⟩
        · simp at hc
    · simp at hc
  · simp at hc

theorem op_sim {tb : FuncId → Bool} (htb : ∀ f, tb f = true → hasBody P f = true) (R : Rel Prot w0 ρ H w) {n : Nat} {T : Tr AVal} {a : Act} (ht : TmpsRel ρ n T a.tmps) (o : Oper) {ao : AOp} (hc : cOp P o.op = some ao)
    {nx : Nx} (h : aop tb T H ao = some (nx, H')) : OpSim P Prot w0 ρ w (execOp a.eval o) nx H' := by
  unfold cOp at hc
  split at hc
  · rename_i x hx
    simp only [Option.some.injEq] at hc; subst hc
    exact op_simX R ht o hx h
  · split at hc
    · rename_i x hx
      simp only [Option.some.injEq] at hc; subst hc
      exact op_sim0 htb R ht o hx h
    · simp only [Option.some.injEq] at hc; subst hc
      simp [aop] at h

/-- what was laid aside is made -/
theorem alloc_claim (R : Rel Prot w0 ρ H w) {t : TypeId} {l : List AVal} (h : zeroOf P t = some l) {b : Nat} (hd : Prot.dead b) (hx : H.get b = some (.cells l 0 false)) :
    ∃ ρ' w' u, ρ.le ρ' ∧ (Instr.alloc t true (.tuple #[])).run P w = .ok u w' ∧ Rel ⟨Prot.prot, fun d => Prot.dead d ∧ d ≠ b⟩ w0 ρ' H w' ∧ VRel ρ' (.ptr (some ⟨b, l.length, 0⟩)) u := by
  obtain ⟨z, h1, h2⟩ := zero_of h
  have hnone := (R.dead b hd).2
  have hv := h2 ρ
  have hlen : l.length = z.cells.size := by have := VRels.len hv; simpa using this
  obtain ⟨q1, q2⟩ := R.claim' hd (w' := w.alloc (.cells z.cells t)) rfl rfl rfl (by simp) (fun i hi => RowKit.Below.heap_alloc _ _ _ hi) hx (o := .cells z.cells t) (lim := l.length) (n := z.cells.size) (cl := true) (by show (w.heap.push _)[w.heap.size]? = _; simp) (by
    simp only [ORel]
    refine ⟨z.cells, t, 0, 0, rfl, rfl, fun _ => ⟨fun i _ => by omega, Nat.le_refl _⟩, Nat.le_refl _, fun _ i i1 i2 => ?_⟩
    have hx : l[i]? = some l[i] := List.getElem?_eq_getElem i2
    obtain ⟨v, u1, u2⟩ := hv.nth _ _ hx
    refine ⟨_, v, hx, ?_, VRel.mono (upd_le fun L' h' => by rw [hnone] at h'; simp at h') _ _ u2⟩
    simpa using u1)
  refine ⟨_, _, .pointer (some ⟨w.heap.size, 0, none⟩), q1, ?_, q2, ?_⟩
  · simp only [Instr.alloc, Sem.run_bind, h1, Result.andThen_ok, newVar]; rfl
  · simp only [VRel]; exact ⟨_, upd_same _ _ _ _, Nat.zero_le _, rfl⟩
end
end Go.Abs
