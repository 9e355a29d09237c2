/- Part of a proof (A11g A11h A11i A12 F1); no condition. -/
import Derived.Test.YtbighbbpahngiaaP5
set_option linter.unusedSimpArgs false
set_option linter.unusedVariables false
set_option linter.unnecessarySimpa false
namespace Go.Abs
def resT (n : Nat) : List ARes → Bool
  | [] => true
  | .t i :: r => Nat.blt i n && resT n r
  | .cell _ _ i :: r => Nat.blt i n && resT n r
def resOps (b : Nat) : List ARes → List AOper
  | [] => []
  | .t i :: r => ⟨some b, .mv (.t i), none⟩ :: resOps (b + 1) r
  | .cell g m i :: r => ⟨some b, .load g m (.t i), none⟩ :: resOps (b + 1) r
def resXs (b : Nat) : Nat → List Opd
  | 0 => []
  | k + 1 => .t b :: resXs (b + 1) k
def finC (n : Nat) (res : List ARes) : ACode := .seq (.reg (resOps (n + 4) res ++ [⟨some (n + 3), .pf .tup (resXs (n + 4) res.length), none⟩])) .ret
def capOps (n b i : Nat) : Nat → List AOper
  | 0 => []
  | k + 1 => ⟨some b, .pf (.capt i) [.t (n + 1)], none⟩ :: capOps n (b + 1) (i + 1) k
def capsC (n G k : Nat) : List AOper := ⟨some (n + 2), .pf (.isF G k) [.t (n + 1)], none⟩ :: capOps n (n + 4) 0 k
def tailC (n : Nat) (res : List ARes) (raw : Bool) (df : Option (Nat × Nat × Bool)) : ACode :=
  .seq (.reg [⟨some (n + 2), .pf .isU [.t (n + 1)], none⟩]) (.cond (.t (n + 2))
    (.seq (.reg [⟨some (n + 2), .pf .isU [.t n], none⟩]) (.cond (.t (n + 2)) (finC n res) (bif raw then .seq (.reg [⟨some (n + 3), .mv (.t n), none⟩]) .ret else stuckC)))
    (match df with
      | none => stuckC
      | some (G, k, false) => .seq (.reg [⟨some (n + 2), .pf .isU [.t n], none⟩]) (.cond (.t (n + 2)) (.seq (.reg (capsC n G k ++ [⟨none, .call (3 * BIG + G) (resXs (n + 4) k), none⟩])) (finC n res)) stuckC)
      | some (G, k, true) => .seq (.reg (⟨some (n + 3), .pf .unP [.t n], none⟩ :: (capsC n G k ++ [⟨none, .call (2 * BIG + G) (resXs (n + 4) k ++ [.t (n + 3)]), none⟩]))) (finC n res)))
section
variable {tb : FuncId → Bool} {call : FuncId → List AVal → AHeap → Option (AVal × AHeap)} {n : Nat}
theorem tupV_eq (l : List AVal) : tupV l = aresV l := by
  match l with
  | [] => rfl
  | [x] => rfl
  | x :: y :: r => rfl
theorem resOps_run {U : Tr AVal} {H H1 : AHeap} : ∀ (res : List ARes) (b : Nat) {T T1 : Tr AVal}, GE n T U → n ≤ b → resT n res = true → aregs tb call (resOps b res) T H = some (T1, H1) →
    H1 = H ∧ ∃ xs, ares U H res = some xs ∧ evs T1 (resXs b res.length) = xs ∧ ∀ t, t < b → ev T1 (.t t) = ev T (.t t)
  | [], b, T, T1, _, _, _, h => by
    simp only [resOps, aregs, Option.some.injEq, Prod.mk.injEq] at h
    obtain ⟨rfl, rfl⟩ := h
    exact ⟨rfl, [], rfl, rfl, fun _ _ => rfl⟩
  | .t i :: r, b, T, T1, hG, hb, hr, h => by
    simp only [resT, Bool.and_eq_true] at hr
    simp only [resOps] at h
    rw [aregs_step', astep_none] at h
    simp only [aop] at h
    obtain ⟨q1, xs, q2, q3, q4⟩ := resOps_run r (b + 1) (hG.ghost hb _) (by omega) hr.2 h
    refine ⟨q1, ev U (.t i) :: xs, by simp only [ares, q2], ?_, fun t ht => ?_⟩
    · simp only [List.length_cons, resXs, evs, q3]
      rw [q4 b (by omega), ev_set, if_pos rfl, hG.1 i (blt_lt hr.1)]
    · rw [q4 t (by omega), ev_set, if_neg (by omega)]
  | .cell g m i :: r, b, T, T1, hG, hb, hr, h => by
    simp only [resT, Bool.and_eq_true] at hr
    simp only [resOps] at h
    rw [aregs_step', astep_none] at h
    simp only [aop, vv] at h
    cases hl : oLoad g m H (ev T (.t i)) with
    | none => rw [hl] at h; simp at h
    | some v =>
      rw [hl] at h
      simp only at h
      obtain ⟨q1, xs, q2, q3, q4⟩ := resOps_run r (b + 1) (hG.ghost hb _) (by omega) hr.2 h
      rw [hG.1 i (blt_lt hr.1)] at hl
      refine ⟨q1, v :: xs, by simp only [ares, hl, q2], ?_, fun t ht => ?_⟩
      · simp only [List.length_cons, resXs, evs, q3]
        rw [q4 b (by omega), ev_set, if_pos rfl]
      · rw [q4 t (by omega), ev_set, if_neg (by omega)]
theorem fin_run {U T T' : Tr AVal} {H H' : AHeap} {e : AEx} {k : Nat} {res : List ARes} (hG : GE n T U) (hr : resT n res = true) (h : aexec tb call k (finC n res) T H = some (e, T', H')) :
    e = .ret ∧ H' = H ∧ ∃ xs, ares U H res = some xs ∧ ev T' (.t (n + 3)) = aresV xs := by
  simp only [finC, aexec] at h
  rw [aregs_app] at h
  cases hs : aregs tb call (resOps (n + 4) res) T H with
  | none => rw [hs] at h; simp at h
  | some p =>
    obtain ⟨T1, H1⟩ := p
    rw [hs] at h
    obtain ⟨rfl, xs, q2, q3, q4⟩ := resOps_run res (n + 4) hG (by omega) hr hs
    simp only at h
    rw [aregs_step', astep_none] at h
    simp only [aop, aPf, vv, q3, aregs, aput, Option.some.injEq, Prod.mk.injEq] at h
    obtain ⟨rfl, rfl, rfl⟩ := h
    exact ⟨rfl, rfl, xs, q2, by rw [ev_set, if_pos rfl, tupV_eq]⟩
theorem capOps_run {f : Fn} {l : List AVal} {H H1 : AHeap} : ∀ (k b i : Nat) {T T1 : Tr AVal}, ev T (.t (n + 1)) = .func f [] l → n + 1 < b → aregs tb call (capOps n b i k) T H = some (T1, H1) →
    H1 = H ∧ evs T1 (resXs b k) = (l.drop i).take k ∧ ∀ t, t < b → ev T1 (.t t) = ev T (.t t)
  | 0, b, i, T, T1, _, _, h => by
    simp only [capOps, aregs, Option.some.injEq, Prod.mk.injEq] at h
    obtain ⟨rfl, rfl⟩ := h
    exact ⟨rfl, by simp [resXs, evs], fun _ _ => rfl⟩
  | k + 1, b, i, T, T1, hd, hb, h => by
    simp only [capOps] at h
    rw [aregs_step', astep_none] at h
    simp only [aop, evs, aPf, vv, hd, aCapt] at h
    cases hx : l[i]? with
    | none => rw [hx] at h; simp at h
    | some x =>
      rw [hx] at h
      simp only [aput] at h
      obtain ⟨q1, q2, q3⟩ := capOps_run k (b + 1) (i + 1) (T := T.set b x) (by rw [ev_set, if_neg (by omega)]; exact hd) (by omega) h
      refine ⟨q1, ?_, fun t ht => by rw [q3 t (by omega), ev_set, if_neg (by omega)]⟩
      simp only [resXs, evs, q2]
      rw [q3 b (by omega), ev_set, if_pos rfl]
      obtain ⟨hi, hxi⟩ := List.getElem?_eq_some_iff.1 hx
      rw [List.drop_eq_getElem_cons hi, List.take_succ_cons, hxi]
theorem caps_run {G k : Nat} {H H1 : AHeap} {T T1 : Tr AVal} (h : aregs tb call (capsC n G k) T H = some (T1, H1)) :
    ∃ l, ev T (.t (n + 1)) = .func (.func G) [] l ∧ l.length = k ∧ H1 = H ∧ evs T1 (resXs (n + 4) k) = l ∧ ∀ t, t < n + 4 → t ≠ n + 2 → ev T1 (.t t) = ev T (.t t) := by
  unfold capsC at h
  rw [aregs_step', astep_none] at h
  simp only [aop, evs, aPf, vv] at h
  cases hd : aIsF G k [ev T (.t (n + 1))] with
  | none => rw [hd] at h; simp at h
  | some v =>
    rw [hd] at h
    simp only [aput] at h
    unfold aIsF at hd
    split at hd
    · rename_i f l heq
      simp only [List.cons.injEq, and_true] at heq
      cases hb : Nat.beq f G && Nat.beq l.length k with
      | false => rw [hb] at hd; simp at hd
      | true =>
        simp only [Bool.and_eq_true] at hb
        have e1 := Nat.eq_of_beq_eq_true hb.1
        have e2 := Nat.eq_of_beq_eq_true hb.2
        subst e1
        obtain ⟨q1, q2, q3⟩ := capOps_run k (n + 4) 0 (f := .func f) (l := l) (by rw [ev_set, if_neg (by omega)]; exact heq) (by omega) h
        refine ⟨l, heq, e2, q1, ?_, fun t ht hne => by rw [q3 t ht, ev_set, if_neg hne]⟩
        rw [q2, List.drop_zero, List.take_of_length_le (by omega)]
    · simp at hd
end
section
def arity (P : Program) (G : Nat) : Nat := match P.funcs[G]? with
  | some f => f.params.size + f.nfree
  | none => 0
def CallD (P : Program) (call : FuncId → List AVal → AHeap → Option (AVal × AHeap)) : Prop :=
  ∀ G args H v H', Nat.blt G BIG = true → call (3 * BIG + G) args H = some (v, H') → ∀ Prot w0 ρ w (vs : Array Value), Rel Prot w0 ρ H w → VRels ρ args vs.toList →
    CallsD P G vs .returning w fun e u' w' => u' = .returning ∧ ∃ ρ' y, ρ.le ρ' ∧ e = .returned y ∧ Rel Prot w0 ρ' H' w'
def RecU (u : FrameMode) (xv : Value) : Prop := (u = .returning ∧ xv = .nilIface) ∨ u = .panicking [{ v := xv, recovered := false }]
def CallR (P : Program) (call : FuncId → List AVal → AHeap → Option (AVal × AHeap)) : Prop :=
  ∀ G args x H v H', Nat.blt G BIG = true → args.length = arity P G → call (2 * BIG + G) (args ++ [x]) H = some (v, H') → ∀ Prot w0 ρ w (vs : Array Value) xv u, Rel Prot w0 ρ H w → VRels ρ args vs.toList → VRel ρ x xv → RecU u xv →
    CallsD P G vs u w fun e u' w' => settle u' = .returning ∧ ∃ ρ' y, ρ.le ρ' ∧ e = .returned y ∧ Rel Prot w0 ρ' H' w'
variable {P : Program} {Prot : Gh} {w0 : World} {ρ : Pl} {H H' : AHeap} {w : World} {n : Nat}
def Out (Prot : Gh) (w0 : World) (raw : Bool) (ρ : Pl) (H : AHeap) (v : AVal) : Ending → World → Prop := fun e w' =>
  ∃ ρ', ρ.le ρ' ∧ Rel Prot w0 ρ' H w' ∧ ((∃ y, e = .returned y ∧ VRel ρ' v y) ∨ (raw = true ∧ ∃ x y, v = panV x ∧ e = .panicked [{ v := y, recovered := false }] ∧ VRel ρ' x y))
def dfOk (P : Program) : Option (Nat × Nat × Bool) → Bool
  | none => true
  | some (G, k, true) => Nat.blt G BIG && Nat.beq k (arity P G)
  | some (G, _, false) => Nat.blt G BIG
theorem isU_spec {x : AVal} (h : isU x = true) : x = undefA := by
  unfold isU at h
  split at h
  · rfl
  · simp at h
theorem tail_sim {tb : FuncId → Bool} {call : FuncId → List AVal → AHeap → Option (AVal × AHeap)} {k : Nat} (hcD : CallD P call) (hcR : CallR P call) (hbD : ∀ f, Nat.blt f BIG = true → tb (3 * BIG + f) = true → hasBody P f = true) (hbR : ∀ f, Nat.blt f BIG = true → tb (2 * BIG + f) = true → hasBody P f = true)
    {fc : Func} {res : List ARes} (hres : cRes P fc.results.toList = some res) (hrT : resT n res = true) {raw : Bool} {df : Option (Nat × Nat × Bool)} (hdf : dfOk P df = true) {T T' : Tr AVal} {e : AEx}
    (h : aexec tb call k (tailC n res raw df) T H = some (e, T', H')) (R : Rel Prot w0 ρ H w) {a : Act} {u : FrameMode} (hst : (PSt ρ n T a ∧ u = .returning) ∨ ∃ uv, PPan ρ n T a uv ∧ u = .panicking [{ v := uv, recovered := false }]) :
    e = .ret ∧ Leaves P fc a.tmps (Out Prot w0 raw ρ H' (ev T' (.t (n + 3)))) a.defers u w := by
  simp only [tailC, aexec] at h
  rw [aregs_step', astep_none] at h
  simp only [aop, evs, aPf, vv, aIsU, aregs, aput] at h
  rw [ev_set, if_pos rfl] at h
  have e1 : ∀ b, ev (T.set (n + 2) b) (.t n) = ev T (.t n) := fun b => by rw [ev_set, if_neg (by omega)]
  have e11 : ∀ b c, ev ((T.set (n + 2) b).set (n + 2) c) (.t (n + 2)) = c := fun b c => by rw [ev_set, if_pos rfl]
  have e12 : ∀ b c, ev ((T.set (n + 2) b).set (n + 2) c) (.t n) = ev T (.t n) := fun b c => by rw [ev_set, if_neg (by omega), e1]
  have isP : ∀ x, isU (panV x) = false := fun x => rfl
  cases hu : isU (ev T (.t (n + 1))) with
  | true =>
    rw [hu] at h
    have hund := isU_spec hu
    simp only [gOK, cond_true, e1, e11] at h
    cases hu2 : isU (ev T (.t n)) with
    | true =>
      rw [hu2] at h
      rcases hst with ⟨hP, rfl⟩ | ⟨uv, ⟨x, q1, _⟩, _⟩
      · obtain ⟨U, hG, ht⟩ := hP.1.t
        obtain ⟨rfl, rfl, xs, z1, z2⟩ := fin_run ((hG.ghost (d := n + 2) (by omega) _).ghost (d := n + 2) (by omega) _) hrT h
        have hds : a.defers = [] := by
          have := hP.1.d
          rw [hund] at this
          rcases this with ⟨_, h9⟩ | ⟨f, fa, fb, d, cap, h9, _⟩
          · exact h9
          · simp [undefA] at h9
        obtain ⟨v, r1, r2⟩ := results_sim (P := P) R ht hres z1
        refine ⟨rfl, ?_⟩
        rw [hds]
        exact ⟨v, r1, ρ, Pl.le_refl _, R, .inl ⟨v, rfl, by rw [z2]; exact r2⟩⟩
      · rw [q1, isP] at hu2; simp at hu2
    | false =>
      rw [hu2] at h
      rcases hst with ⟨hP, rfl⟩ | ⟨uv, ⟨x, q1, q2, q3⟩, rfl⟩
      · rw [hP.2] at hu2; simp [isU, undefA] at hu2
      · cases raw with
        | false => simp [stuckC, aexec, aregs, gOK, aop] at h
        | true =>
          simp only [cond_true, aexec, aregs, gOK, aop, aput, e12, Option.some.injEq, Prod.mk.injEq] at h
          obtain ⟨rfl, rfl, rfl⟩ := h
          have hds : a.defers = [] := by
            rcases q3 with ⟨h9, _⟩ | hg
            · exact h9
            · have := hg.d
              rw [hund] at this
              rcases this with ⟨_, h9⟩ | ⟨f, fa, fb, d, cap, h9, _⟩
              · exact h9
              · simp [undefA] at h9
          refine ⟨rfl, ?_⟩
          rw [hds]
          exact ⟨ρ, Pl.le_refl _, R, .inr ⟨rfl, x, uv, by rw [ev_set, if_pos rfl]; exact q1, rfl, q2⟩⟩
  | false =>
    rw [hu] at h
    have hnu : ev T (.t (n + 1)) ≠ undefA := fun e => by rw [e] at hu; simp [isU, undefA] at hu
    have hGT : GT ρ n T a := by
      rcases hst with ⟨hP, _⟩ | ⟨uv, ⟨x, q1, q2, ⟨_, q3⟩ | q3⟩, _⟩
      · exact hP.1
      · exact (hnu q3).elim
      · exact q3
    obtain ⟨U, hG, ht⟩ := hGT.t
    obtain ⟨f, fa, fb, d, cap, d1, d2, d3, d4, d5⟩ : ∃ f a' b d cap, ev T (.t (n + 1)) = .func (.func f) a' b ∧ a.defers = [d] ∧ d.target = .fn (.func f) cap ∧ VRels ρ b cap.toList ∧ VRels ρ a' d.args.toList := by
      rcases hGT.d with ⟨h9, _⟩ | h9
      · exact (hnu h9).elim
      · exact h9
    have rest : ∀ {T5 : Tr AVal} {H5 : AHeap} {e5 : AEx}, GE n T5 U → aexec tb call k (finC n res) T5 H5 = some (e5, T', H') → e5 = .ret ∧ ∀ (ρ' : Pl) (w' : World), ρ.le ρ' → Rel Prot w0 ρ' H5 w' → Leaves P fc a.tmps (Out Prot w0 raw ρ H' (ev T' (.t (n + 3)))) [] .returning w' := by
      intro T5 H5 e5 hG5 h5
      obtain ⟨rfl, rfl, xs, z1, z2⟩ := fin_run hG5 hrT h5
      refine ⟨rfl, fun ρ' w' hle R' => ?_⟩
      obtain ⟨v, r1, r2⟩ := results_sim (P := P) R' (ht.mono hle) hres z1
      exact ⟨v, r1, ρ', hle, R', .inl ⟨v, rfl, by rw [z2]; exact r2⟩⟩
    rcases df with _ | ⟨G, kk, _ | _⟩
    · simp [stuckC, aexec, aregs, gOK, aop] at h
    · skip
      simp only [dfOk] at hdf
      simp only [aexec] at h
      rw [aregs_step', astep_none] at h
      simp only [aop, evs, aPf, vv, aIsU, aregs, aput, e1, e11] at h
      cases hu2 : isU (ev T (.t n)) with
      | false => rw [hu2] at h; simp [stuckC, aexec, aregs, gOK, aop] at h
      | true =>
        rw [hu2] at h
        simp only at h
        rw [aregs_app] at h
        cases hs : aregs tb call (capsC n G kk) ((T.set (n + 2) (.bool false)).set (n + 2) (.bool true)) H with
        | none => rw [hs] at h; simp at h
        | some p =>
          obtain ⟨T4, H4⟩ := p
          rw [hs] at h
          obtain ⟨l, c1, c2, rfl, c4, c5⟩ := caps_run hs
          have c1' : ev T (.t (n + 1)) = .func (.func G) [] l := by rw [← c1, ev_set, if_neg (by omega), ev_set, if_neg (by omega)]
          rw [c1'] at d1
          simp only [AVal.func.injEq, Fn.func.injEq] at d1
          obtain ⟨rfl, rfl, rfl⟩ := d1
          simp only at h
          rw [aregs_step', astep_none] at h
          simp only [aop, c4] at h
          cases hb : tb (3 * BIG + G) with
          | false => rw [hb] at h; simp at h
          | true =>
            rw [hb] at h
            simp only [cond_true] at h
            cases hcl : call (3 * BIG + G) l H4 with
            | none => rw [hcl] at h; simp at h
            | some q =>
              obtain ⟨v, H5⟩ := q
              rw [hcl] at h
              simp only [aput, aregs] at h
              have hG4 : GE n T4 U := ⟨fun t ht' => by rw [c5 t (by omega) (by omega), ev_set, if_neg (by omega), ev_set, if_neg (by omega)]; exact hG.1 t ht', hG.2⟩
              obtain ⟨rfl, hrest⟩ := rest hG4 h
              refine ⟨rfl, ?_⟩
              have hur : u = .returning := by
                rcases hst with ⟨_, h9⟩ | ⟨uv, ⟨x, q1, _⟩, _⟩
                · exact h9
                · rw [q1, isP] at hu2; simp at hu2
              subst hur
              simp only [VRels] at d5
              rw [d2]
              refine ⟨by simp, .func G, cap, G, d.args ++ cap, d3, ?_, ?_⟩
              · rw [d3]; exact callFunc_ok (hbD G hdf hb) _
              · refine (hcD G l H4 v H5 hdf hcl Prot w0 ρ w (d.args ++ cap) R (by simpa [d5] using d4)).mono ?_
                rintro e' u' w' ⟨rfl, ρ', y, q1, rfl, q2⟩
                exact hrest ρ' w' q1 q2
    · skip
      simp only [dfOk, Bool.and_eq_true] at hdf
      obtain ⟨hG1, hk1⟩ := hdf
      have hk := Nat.eq_of_beq_eq_true hk1
      simp only [aexec] at h
      rw [aregs_step', astep_none] at h
      simp only [aop, evs, aPf, vv, e1] at h
      cases hun : aUnP [ev T (.t n)] with
      | none => rw [hun] at h; simp at h
      | some x =>
        rw [hun] at h
        simp only [aput] at h
        rw [aregs_app] at h
        cases hs : aregs tb call (capsC n G kk) ((T.set (n + 2) (.bool false)).set (n + 3) x) H with
        | none => rw [hs] at h; simp at h
        | some p =>
          obtain ⟨T4, H4⟩ := p
          rw [hs] at h
          obtain ⟨l, c1, c2, rfl, c4, c5⟩ := caps_run hs
          have c1' : ev T (.t (n + 1)) = .func (.func G) [] l := by rw [← c1, ev_set, if_neg (by omega), ev_set, if_neg (by omega)]
          have c3 : ev T4 (.t (n + 3)) = x := by rw [c5 (n + 3) (by omega) (by omega), ev_set, if_pos rfl]
          rw [c1'] at d1
          simp only [AVal.func.injEq, Fn.func.injEq] at d1
          obtain ⟨rfl, rfl, rfl⟩ := d1
          have evapp : ∀ (m : List Opd), evs T4 (m ++ [.t (n + 3)]) = evs T4 m ++ [x] := by
            intro m
            induction m with
            | nil => simp only [List.nil_append, evs, c3]
            | cons y m ih => simp only [List.cons_append, evs, ih]
          simp only at h
          rw [aregs_step', astep_none] at h
          simp only [aop, evapp, c4] at h
          cases hb : tb (2 * BIG + G) with
          | false => rw [hb] at h; simp at h
          | true =>
            rw [hb] at h
            simp only [cond_true] at h
            cases hcl : call (2 * BIG + G) (l ++ [x]) H4 with
            | none => rw [hcl] at h; simp at h
            | some q =>
              obtain ⟨v, H5⟩ := q
              rw [hcl] at h
              simp only [aput, aregs] at h
              have hG4 : GE n T4 U := ⟨fun t ht' => by rw [c5 t (by omega) (by omega), ev_set, if_neg (by omega), ev_set, if_neg (by omega)]; exact hG.1 t ht', hG.2⟩
              obtain ⟨rfl, hrest⟩ := rest hG4 h
              refine ⟨rfl, ?_⟩
              have hx : ∃ xv, VRel ρ x xv ∧ RecU u xv ∧ u ≠ .run := by
                rcases hst with ⟨hP, rfl⟩ | ⟨uv, ⟨x', q1, q2, _⟩, rfl⟩
                · rw [hP.2] at hun
                  simp only [undefA, aUnP, Option.some.injEq] at hun
                  subst hun
                  exact ⟨.nilIface, rfl, .inl ⟨rfl, rfl⟩, by simp⟩
                · rw [q1] at hun
                  simp only [panV, aUnP, Option.some.injEq] at hun
                  subst hun
                  exact ⟨uv, q2, .inr rfl, by simp⟩
              obtain ⟨xv, x1, x2, x3⟩ := hx
              simp only [VRels] at d5
              rw [d2]
              refine ⟨x3, .func G, cap, G, d.args ++ cap, d3, ?_, ?_⟩
              · rw [d3]; exact callFunc_ok (hbR G hG1 hb) _
              · refine (hcR G l x H4 v H5 hG1 (by omega) hcl Prot w0 ρ w (d.args ++ cap) xv u R (by simpa [d5] using d4) x1 x2).mono ?_
                rintro e' u' w' ⟨hu', ρ', y, q1, rfl, q2⟩
                show Leaves P fc a.tmps _ [] (settle u') w'
                rw [hu']
                exact hrest ρ' w' q1 q2
end
end Go.Abs
namespace Go.Abs
section
variable (P : Program)
def cFnP (md : PMd) (raw : Bool) (f : FuncId) : Option AFn := match P.funcs[f]? with
  | some fn => match fn.body with
    | some c => bif fn.name == "runtime.NumGoroutine" then none else
      match cCodeP P fn.ntmps md.ps c, cRes P fn.results.toList with
      | some b, some r => bif resT fn.ntmps r && dfOk P md.df then some ⟨fn.ntmps, .seq (.block PB b) (tailC fn.ntmps r raw md.df), [.t (fn.ntmps + 3)]⟩ else none
      | _, _ => none
    | none => none
  | none => none
def recSplit : Code → Option (Array Oper × Nat × List Oper × Code)
  | .seq (.region _ ops false) rest => match ops.toList with
    | o :: os => match o.op, o.dst, o.guard with
      | .call c, some d, none => match c.callee with
        | .builtin .recover => some (ops, d, os, rest)
        | _ => none
      | _, _, _ => none
    | [] => none
  | _ => none
def recPro (n k d : Nat) : List AOper := [⟨some n, .mv (.t k), none⟩, ⟨some k, .mv (.c undefA), none⟩, ⟨some d, .mv (.t n), none⟩, ⟨some n, .mv (.c undefA), none⟩]
def cFnR (g : FuncId) : Option AFn := match P.funcs[g]? with
  | some fn => match fn.body with
    | some c => bif fn.name == "runtime.NumGoroutine" || !(Nat.beq fn.results.size 0) then none else
      match recSplit c with
      | some (ops, d, os, rest) => match cOpers P fn.ntmps ops os, cCode P fn.ntmps rest with
        | some l, some r => bif Nat.blt d fn.ntmps && Nat.ble (arity P g) d then some ⟨fn.ntmps, .seq (.reg (recPro fn.ntmps (arity P g) d)) (.seq (.reg l) r), []⟩ else none
        | _, _ => none
      | none => none
    | none => none
  | none => none
def eFn (md : Option PMd) (i : Nat) : Option AFn :=
  bif Nat.blt i BIG then (match md with | none => cFn P i | some md => cFnP P md false i)
  else bif Nat.blt i (2 * BIG) then (match md with | some md => cFnP P md true (i - BIG) | none => none)
  else bif Nat.blt i (3 * BIG) then cFnR P (i - 2 * BIG)
  else bif Nat.blt i (4 * BIG) then cFn P (i - 3 * BIG) else none
def TabOK (tab : Tr AFn) : Prop := ∀ f fn, tab.get f = some fn → ∃ md, eFn P md f = some fn
end
section
variable {P : Program} {Prot : Gh} {w0 : World} {ρ : Pl} {H H' : AHeap} {w : World}
theorem blt_dec (a b : Nat) : Nat.blt a b = decide (a < b) := by
  cases h : Nat.blt a b with
  | true => exact (decide_eq_true (blt_lt h)).symm
  | false => exact (decide_eq_false fun q => by rw [show Nat.blt a b = true from Nat.ble_eq_true_of_le q] at h; simp at h).symm
theorem eFn_0 {md : Option PMd} {f : Nat} (hf : Nat.blt f BIG = true) {fn : AFn} (h : eFn P md f = some fn) : cFn P f = some fn ∨ ∃ m, cFnP P m false f = some fn := by
  unfold eFn at h
  rw [hf] at h
  simp only [cond_true] at h
  cases md with
  | none => exact .inl h
  | some m => exact .inr ⟨m, h⟩
theorem eFn_1 {md : Option PMd} {f : Nat} (hf : Nat.blt f BIG = true) {fn : AFn} (h : eFn P md (BIG + f) = some fn) : ∃ m, cFnP P m true f = some fn := by
  have hlt := blt_lt hf
  unfold eFn at h
  have h1 : Nat.blt (BIG + f) BIG = false := by rw [blt_dec]; exact decide_eq_false (by omega)
  have h2 : Nat.blt (BIG + f) (2 * BIG) = true := by rw [blt_dec]; exact decide_eq_true (by omega)
  rw [h1, h2] at h
  simp only [cond_true, cond_false, Nat.add_sub_cancel_left] at h
  cases md with
  | none => simp at h
  | some m => exact ⟨m, h⟩
theorem eFn_2 {md : Option PMd} {f : Nat} (hf : Nat.blt f BIG = true) {fn : AFn} (h : eFn P md (2 * BIG + f) = some fn) : cFnR P f = some fn := by
  have hlt := blt_lt hf
  unfold eFn at h
  have h1 : Nat.blt (2 * BIG + f) BIG = false := by rw [blt_dec]; exact decide_eq_false (by omega)
  have h2 : Nat.blt (2 * BIG + f) (2 * BIG) = false := by rw [blt_dec]; exact decide_eq_false (by omega)
  have h3 : Nat.blt (2 * BIG + f) (3 * BIG) = true := by rw [blt_dec]; exact decide_eq_true (by omega)
  rw [h1, h2, h3] at h
  simpa only [cond_true, cond_false, Nat.add_sub_cancel_left] using h
theorem eFn_3 {md : Option PMd} {f : Nat} (hf : Nat.blt f BIG = true) {fn : AFn} (h : eFn P md (3 * BIG + f) = some fn) : cFn P f = some fn := by
  have hlt := blt_lt hf
  unfold eFn at h
  have h1 : Nat.blt (3 * BIG + f) BIG = false := by rw [blt_dec]; exact decide_eq_false (by omega)
  have h2 : Nat.blt (3 * BIG + f) (2 * BIG) = false := by rw [blt_dec]; exact decide_eq_false (by omega)
  have h3 : Nat.blt (3 * BIG + f) (3 * BIG) = false := by rw [blt_dec]; exact decide_eq_false (by omega)
  have h4 : Nat.blt (3 * BIG + f) (4 * BIG) = true := by rw [blt_dec]; exact decide_eq_true (by omega)
  rw [h1, h2, h3, h4] at h
  simpa only [cond_true, cond_false, Nat.add_sub_cancel_left] using h
theorem cFnP_spec {md : PMd} {raw : Bool} {f : FuncId} {fn : AFn} (h : cFnP P md raw f = some fn) : ∃ fc c b r, P.funcs[f]? = some fc ∧ fc.body = some c ∧ (fc.name == "runtime.NumGoroutine") = false ∧ cCodeP P fc.ntmps md.ps c = some b ∧ cRes P fc.results.toList = some r ∧
    resT fc.ntmps r = true ∧ dfOk P md.df = true ∧ fn = ⟨fc.ntmps, .seq (.block PB b) (tailC fc.ntmps r raw md.df), [.t (fc.ntmps + 3)]⟩ := by
  unfold cFnP at h
  split at h
  · rename_i fc hf
    split at h
    · rename_i c hb
      cases hn : (fc.name == "runtime.NumGoroutine") with
      | true => rw [hn] at h; simp at h
      | false =>
        rw [hn] at h
        simp only [cond_false] at h
        split at h
        · rename_i b r h1 h2
          cases h3 : resT fc.ntmps r && dfOk P md.df with
          | false => rw [h3] at h; simp at h
          | true =>
            rw [h3] at h
            simp only [cond_true, Option.some.injEq] at h
            simp only [Bool.and_eq_true] at h3
            exact ⟨fc, c, b, r, hf, hb, hn, h1, h2, h3.1, h3.2, h.symm⟩
        · simp at h
    · simp at h
  · simp at h
theorem recSplit_spec {c : Code} {ops : Array Oper} {d : Nat} {os : List Oper} {rest : Code} (h : recSplit c = some (ops, d, os, rest)) : ∃ i o args ats, c = .seq (.region i ops false) rest ∧ ops.toList = o :: os ∧ o.op = .call ⟨.builtin .recover, args, ats⟩ ∧ o.dst = some d ∧ o.guard = none := by
  unfold recSplit at h
  split at h
  · rename_i i ops' rest'
    split at h
    · rename_i o os' ho
      split at h
      · rename_i c' d' h1 h2 h3
        split at h
        · rename_i hcal
          simp only [Option.some.injEq, Prod.mk.injEq] at h
          obtain ⟨rfl, rfl, rfl, rfl⟩ := h
          obtain ⟨cal, args, ats⟩ := c'
          simp only at hcal
          subst hcal
          exact ⟨i, o, args, ats, rfl, ho, h1, h2, h3⟩
        · simp at h
      · simp at h
    · simp at h
  · simp at h
theorem cFnR_spec {g : FuncId} {fn : AFn} (h : cFnR P g = some fn) : ∃ fc c ops d os rest l r, P.funcs[g]? = some fc ∧ fc.body = some c ∧ (fc.name == "runtime.NumGoroutine") = false ∧ fc.results = #[] ∧ recSplit c = some (ops, d, os, rest) ∧ cOpers P fc.ntmps ops os = some l ∧ cCode P fc.ntmps rest = some r ∧
    d < fc.ntmps ∧ arity P g ≤ d ∧ fn = ⟨fc.ntmps, .seq (.reg (recPro fc.ntmps (arity P g) d)) (.seq (.reg l) r), []⟩ := by
  unfold cFnR at h
  split at h
  · rename_i fc hf
    split at h
    · rename_i c hb
      cases hn : (fc.name == "runtime.NumGoroutine" || !(Nat.beq fc.results.size 0)) with
      | true => rw [hn] at h; simp at h
      | false =>
        rw [hn] at h
        simp only [Bool.or_eq_false_iff, Bool.not_eq_false'] at hn
        simp only [cond_false] at h
        split at h
        · rename_i ops d os rest hsp
          split at h
          · rename_i l r h1 h2
            cases h3 : Nat.blt d fc.ntmps && Nat.ble (arity P g) d with
            | false => rw [h3] at h; simp at h
            | true =>
              rw [h3] at h
              simp only [cond_true, Option.some.injEq] at h
              simp only [Bool.and_eq_true] at h3
              exact ⟨fc, c, ops, d, os, rest, l, r, hf, hb, hn.1, Array.eq_empty_of_size_eq_zero (Nat.eq_of_beq_eq_true hn.2), hsp, h1, h2, blt_lt h3.1, Nat.le_of_ble_eq_true h3.2, h.symm⟩
          · simp at h
        · simp at h
    · simp at h
  · simp at h
theorem body_of {f : Nat} (hf : Nat.blt f BIG = true) {fc : Func} {c : Code} (h1 : P.funcs[f]? = some fc) (h2 : fc.body = some c) (h3 : (fc.name == "runtime.NumGoroutine") = false) : hasBody P f = true := by
  simp [hasBody, hf, h1, h2, h3]
structure AllOK (P : Program) (call : FuncId → List AVal → AHeap → Option (AVal × AHeap)) : Prop where
  ok : CallOK P call
  pan : CallP P call
  dfd : CallD P call
  rcv : CallR P call
structure TbOK (P : Program) (tb : FuncId → Bool) : Prop where
  h0 : ∀ f, Nat.blt f BIG = true → tb f = true → hasBody P f = true
  h1 : ∀ f, Nat.blt f BIG = true → tb (BIG + f) = true → hasBody P f = true
  h2 : ∀ f, Nat.blt f BIG = true → tb (2 * BIG + f) = true → hasBody P f = true
  h3 : ∀ f, Nat.blt f BIG = true → tb (3 * BIG + f) = true → hasBody P f = true
theorem fnP_ok (hfol : P.follows .mixedOrders = true) {tb : FuncId → Bool} (hb : TbOK P tb) {call : FuncId → List AVal → AHeap → Option (AVal × AHeap)} (hc : AllOK P call) {k : Nat} {md : PMd} {raw : Bool} {f : FuncId} {fn : AFn} (hfn : cFnP P md raw f = some fn)
    {args : List AVal} (hlen : args.length ≤ fn.nt) {e : AEx} {T : Tr AVal} {H1 : AHeap} (hx : aexec tb call k fn.body (putArgs args 0 .e) H = some (e, T, H1)) (hne : ∀ i, e ≠ .exit i) {xs : List AVal} (hxs : ares T H1 fn.res = some xs) {vs : Array Value} (R : Rel Prot w0 ρ H w) (hv : VRels ρ args vs.toList) :
    Calls P f vs w (Out Prot w0 raw ρ H1 (aresV xs)) := by
  obtain ⟨fc, c, b, r, h1, h2, h3, h4, h5, h6, h7, rfl⟩ := cFnP_spec hfn
  simp only at hlen
  have hst := start_sim (ρ := ρ) hv hlen
  have hgh : ∀ t, fc.ntmps ≤ t → ev (putArgs args 0 .e) (.t t) = undefA := fun t ht => by
    have := hst.at_ t
    have hsz := hst.size
    rw [Array.getD_eq_getD_getElem?, Array.getElem?_eq_none (by omega)] at this
    exact undef_of this
  have hP : PSt ρ fc.ntmps (putArgs args 0 .e) { tmps := vs ++ Array.replicate (fc.ntmps - vs.size) undef, defers := [] } :=
    ⟨⟨⟨_, ⟨fun _ _ => rfl, hgh⟩, hst⟩, .inl ⟨hgh _ (by omega), rfl⟩⟩, hgh _ (Nat.le_refl _)⟩
  simp only [aexec] at hx
  refine calls_of_wp_defers h1 h2 ?_
  cases hb1 : aexec tb call k b (putArgs args 0 .e) H with
  | none => rw [hb1] at hx; simp at hx
  | some q =>
    obtain ⟨e1, T1, H2⟩ := q
    rw [hb1] at hx
    have hsim := codeP_sim hfol hb.h0 hb.h1 hc.ok hc.pan c b h4 ρ _ _ _ _ e1 _ w R hP hb1
    have hval : ∀ v, ev T (.t (fc.ntmps + 3)) = v → aresV xs = v := fun v h9 => by
      simp only [ares, Option.some.injEq] at hxs
      subst hxs
      exact h9
    have hout : ∀ {ρ' : Pl} {a' : Act} {w' : World} {u : FrameMode}, ρ.le ρ' → Rel Prot w0 ρ' H2 w' → ((PSt ρ' fc.ntmps T1 a' ∧ u = .returning) ∨ ∃ uv, PPan ρ' fc.ntmps T1 a' uv ∧ u = .panicking [{ v := uv, recovered := false }]) →
        aexec tb call k (tailC fc.ntmps r raw md.df) T1 H2 = some (e, T, H1) → Leaves P fc a'.tmps (Out Prot w0 raw ρ H1 (aresV xs)) a'.defers u w' := by
      intro ρ' a' w' u hle R' hs' ht'
      obtain ⟨_, hL⟩ := tail_sim (fc := fc) hc.dfd hc.rcv hb.h3 hb.h2 h5 h6 h7 ht' R' hs'
      rw [hval _ rfl]
      have : ∀ (ds : List Deferred) (u : FrameMode) (w : World), Leaves P fc a'.tmps (Out Prot w0 raw ρ' H1 (ev T (.t (fc.ntmps + 3)))) ds u w → Leaves P fc a'.tmps (Out Prot w0 raw ρ H1 (ev T (.t (fc.ntmps + 3)))) ds u w := by
        have hO : ∀ e w', Out Prot w0 raw ρ' H1 (ev T (.t (fc.ntmps + 3))) e w' → Out Prot w0 raw ρ H1 (ev T (.t (fc.ntmps + 3))) e w' := fun e w' ⟨ρ2, q1, q2⟩ => ⟨ρ2, Pl.le_trans hle q1, q2⟩
        intro ds
        induction ds with
        | nil =>
          intro u w hL
          cases u with
          | run => exact hL
          | returning => obtain ⟨v, q1, q2⟩ := hL; exact ⟨v, q1, hO _ _ q2⟩
          | panicking ch => exact hO _ _ hL
        | cons d ds ih =>
          intro u w hL
          obtain ⟨q1, fv, cap, g, ar, q2, q3, q4⟩ := hL
          refine ⟨q1, fv, cap, g, ar, q2, q3, q4.mono fun e' u' w' hh => ?_⟩
          cases e' with
          | returned v => exact ih _ _ hh
          | panicked ch => exact ih _ _ hh
          | outgrown => exact hO _ _ hh
      exact this _ _ _ hL
    refine wp_mono hsim ?_
    rintro e' a' w' ⟨ρ', q1, q2, q3⟩
    cases e1 with
    | normal =>
      obtain ⟨rfl, z⟩ := q3
      exact hout q1 q2 (.inl ⟨z, rfl⟩) hx
    | ret => exact q3.elim
    | exit id =>
      simp only at hx
      cases hid : Nat.beq id PB with
      | false =>
        rw [hid] at hx
        simp only [cond_false, Option.some.injEq, Prod.mk.injEq] at hx
        exact (hne id hx.1.symm).elim
      | true =>
        rw [hid] at hx
        simp only [cond_true] at hx
        have := Nat.eq_of_beq_eq_true hid
        rcases q3 with ⟨z1, _⟩ | ⟨_, ⟨rfl, z2⟩ | ⟨u, rfl, z2⟩⟩
        · exact (z1 this).elim
        · exact hout q1 q2 (.inl ⟨z2, rfl⟩) hx
        · exact hout q1 q2 (.inr ⟨u, z2, rfl⟩) hx
theorem fn_ok (hfol : P.follows .mixedOrders = true) {tb : FuncId → Bool} (hb : TbOK P tb) {call : FuncId → List AVal → AHeap → Option (AVal × AHeap)} (hc : AllOK P call) {k : Nat} {f : FuncId} {fn : AFn} (hfn : cFn P f = some fn)
    {args : List AVal} (hlen : args.length ≤ fn.nt) {e : AEx} {T : Tr AVal} {H1 : AHeap} (hx : aexec tb call k fn.body (putArgs args 0 .e) H = some (e, T, H1)) (hne : ∀ i, e ≠ .exit i) {xs : List AVal} (hxs : ares T H1 fn.res = some xs) {vs : Array Value} (R : Rel Prot w0 ρ H w) (hv : VRels ρ args vs.toList) :
    ∃ fc c, P.funcs[f]? = some fc ∧ fc.body = some c ∧ c.wp P (bodyPost P fc fun e w' => ∃ ρ' u, ρ.le ρ' ∧ e = .returned u ∧ Rel Prot w0 ρ' H1 w' ∧ VRel ρ' (aresV xs) u) { tmps := vs ++ Array.replicate (fc.ntmps - vs.size) undef, defers := [] } w := by
  obtain ⟨fc, c, h1, h2, h3, h4, h5, h6⟩ := cFn_spec hfn
  refine ⟨fc, c, h1, h2, ?_⟩
  have hst := start_sim (ρ := ρ) hv hlen
  rw [h4]
  refine wp_mono (code_sim hfol (Prot := Prot) (w0 := w0) (ds := []) hb.h0 hc.ok _ _ h5 ρ _ T H H1 e _ w R hst rfl hx) ?_
  rintro e' a' w' ⟨he, ρ', hl, R', ht', hd'⟩
  obtain ⟨u, r1, r2⟩ := results_sim (P := P) R' ht' h6 hxs
  cases e with
  | normal => simp only at he; subst he; exact ⟨hd', u, r1, ρ', u, hl, rfl, R', r2⟩
  | exit id => exact (hne _ rfl).elim
  | ret => simp only at he; subst he; exact ⟨hd', u, r1, ρ', u, hl, rfl, R', r2⟩
theorem wpOpsS_of {ops : Array Oper} {cs : List Frame} {Q : Exit → Act → List Frame → World → Prop} (hno : ¬ LetsOut fun e a w => Q e a cs w) : ∀ (l : List Nat) (a : Act) (w : World), wpOps P ops (fun e a w => Q e a cs w) l a w → wpOpsS P ops Q l a cs w
  | [], a, w, h => h
  | i :: rest, a, w, h => by
    simp only [wpOps] at h
    simp only [wpOpsS]
    cases ho : ops[i]? with
    | none => rw [ho] at h; exact wpOpsS_of hno rest a w h
    | some o =>
      rw [ho] at h
      simp only at h ⊢
      split at h
      · rename_i hw
        rw [if_pos hw]
        rcases h with h | ⟨_, h⟩
        · have h' := Oper.wp_mono (K' := fun a' w' => wpOpsS P ops Q rest a' cs w') (fun a' w' hh => wpOpsS_of hno rest a' w' hh) h
          unfold Oper.wp at h'
          generalize (execOp a.eval o).run P w = r at h'
          split
          · simp only [Oper.upon] at h'
          · exact h'
        · exact (hno h).elim
      · rename_i hw
        rw [if_neg hw]
        exact wpOpsS_of hno rest _ w h
end
end Go.Abs
namespace Go.Abs
section
variable {P : Program} {Prot : Gh} {w0 : World} {ρ : Pl} {H H' : AHeap} {w : World}
theorem recPro_run {tb : FuncId → Bool} {call : FuncId → List AVal → AHeap → Option (AVal × AHeap)} {n k d : Nat} (hd : d < n) (hk : k ≤ d) (T : Tr AVal) (H : AHeap) : ∃ T1, aregs tb call (recPro n k d) T H = some (T1, H) ∧
    ∀ t, ev T1 (.t t) = if t = n then undefA else if t = d then ev T (.t k) else if t = k then undefA else ev T (.t t) := by
  refine ⟨_, by simp only [recPro, aregs, gOK, cond_true, aop, aput]; rfl, fun t => ?_⟩
  by_cases h1 : t = n
  · rw [ev_set, if_pos h1, if_pos h1]; rfl
  · rw [ev_set, if_neg h1, if_neg h1]
    by_cases h2 : t = d
    · rw [ev_set, if_pos h2, if_pos h2, ev_set, if_neg (by omega), ev_set, if_pos rfl]
    · rw [ev_set, if_neg h2, if_neg h2]
      by_cases h3 : t = k
      · rw [ev_set, if_pos h3, if_pos h3]; rfl
      · rw [ev_set, if_neg h3, if_neg h3, ev_set, if_neg h1]
theorem fnR_ok (hfol : P.follows .mixedOrders = true) {tb : FuncId → Bool} (hb : TbOK P tb) {call : FuncId → List AVal → AHeap → Option (AVal × AHeap)} (hc : AllOK P call) {k : Nat} {G : FuncId} {fn : AFn} (hfn : cFnR P G = some fn)
    {args : List AVal} {x : AVal} (hlen : args.length = arity P G) {e : AEx} {T : Tr AVal} {H1 : AHeap} (hx : aexec tb call k fn.body (putArgs (args ++ [x]) 0 .e) H = some (e, T, H1)) (hne : ∀ i, e ≠ .exit i) {vs : Array Value} {xv : Value} {u : FrameMode} (R : Rel Prot w0 ρ H w) (hv : VRels ρ args vs.toList) (hxv : VRel ρ x xv) (hu : RecU u xv) :
    CallsD P G vs u w fun e u' w' => settle u' = .returning ∧ ∃ ρ' y, ρ.le ρ' ∧ e = .returned y ∧ Rel Prot w0 ρ' H1 w' := by
  obtain ⟨fc, c, ops, d, os, rest, l, r, h1, h2, h3, h4, h5, h6, h7, hd, hkd, rfl⟩ := cFnR_spec hfn
  obtain ⟨i0, o, oa, ots, rfl, hops, hop, hod, hog⟩ := recSplit_spec h5
  have hvl : args.length = vs.size := by have := VRels.len hv; simpa using this
  obtain ⟨T1, t1, t2⟩ := recPro_run (tb := tb) (call := call) hd hkd (putArgs (args ++ [x]) 0 .e) H
  simp only [aexec, t1] at hx
  cases hl : aregs tb call l T1 H with
  | none => rw [hl] at hx; simp at hx
  | some q =>
    obtain ⟨T2, H2⟩ := q
    rw [hl] at hx
    simp only at hx
    have hst := start_sim (ρ := ρ) hv (show args.length ≤ fc.ntmps by omega)
    have hput : TmpsRel ρ fc.ntmps T1 ((({ tmps := vs ++ Array.replicate (fc.ntmps - vs.size) undef, defers := [] } : Act).put (some d) xv).tmps) := by
      have hp := put_rel (a := { tmps := vs ++ Array.replicate (fc.ntmps - vs.size) undef, defers := [] }) (n := fc.ntmps) hst (dst := some d) (Nat.ble_eq_true_of_le hd) hxv
      refine ⟨hp.size, fun t => ?_⟩
      have hat := hp.at_ t
      have e : ev T1 (.t t) = ev (aput (putArgs args 0 .e) (some d) x) (.t t) := by
        rw [t2 t, ev_aput, args_sim args vs.toList 0 .e hv (fun _ _ => rfl) t]
        have hvx : VRels ρ (args ++ [x]) (vs.push xv).toList := by
          rw [Array.toList_push]
          exact VRels.append hv (by simp only [VRels]; exact ⟨_, _, rfl, hxv, rfl⟩)
        rw [args_sim (args ++ [x]) _ 0 .e hvx (fun _ _ => rfl) t, args_sim (args ++ [x]) _ 0 .e hvx (fun _ _ => rfl) (arity P G)]
        simp only [Nat.not_lt_zero, if_false, Nat.sub_zero, Option.some.injEq]
        by_cases q1 : t = fc.ntmps
        · subst q1
          rw [if_pos rfl, if_neg (by omega), List.getElem?_eq_none (by omega)]
        · rw [if_neg q1]
          by_cases q2 : t = d
          · subst q2
            rw [if_pos rfl, if_pos rfl, ← hlen, List.getElem?_append_right (Nat.le_refl _), Nat.sub_self]
            rfl
          · rw [if_neg q2, if_neg (show ¬ d = t from fun q => q2 q.symm)]
            by_cases q3 : t = arity P G
            · rw [if_pos q3, List.getElem?_eq_none (by omega)]
            · rw [if_neg q3]
              by_cases q4 : t < args.length
              · rw [List.getElem?_append_left q4]
              · rw [List.getElem?_eq_none (by simp; omega), List.getElem?_eq_none (by omega)]
      rw [e]
      exact hat
    refine callsD_of_wpS h1 h2 fun c₀ cs hcu => ?_
    refine wpS_seq (wpS_region ?_)
    have hsz : ops.size = os.length + 1 := by have := congrArg List.length hops; simpa using this
    have ho : ops[0]? = some o := by
      have : ops.toList[0]? = some o := by rw [hops]; rfl
      simpa using this
    have hnx : ∀ j, os[j]? = ops[1 + j]? := fun j => by
      have : ops.toList[1 + j]? = os[j]? := by rw [hops, show 1 + j = j + 1 by omega, List.getElem?_cons_succ]
      rw [← this]; simp
    rw [List.range_eq_range', hsz, List.range'_succ]
    simp only [wpOpsS, ho]
    have hw : Region.wanted o (yielded ops (vs ++ Array.replicate (fc.ntmps - vs.size) undef)) = true := by simp [Region.wanted, hog]
    rw [if_pos hw]
    have hrun : ∀ a : Act, (execOp a.eval o).run P w = .ok .recover w := fun a => by
      obtain ⟨dst, op, type, pos, after, guard⟩ := o
      simp only at hop
      subst hop
      rfl
    rw [hrun]
    simp only
    have key : ∀ (u' : FrameMode), settle u' = .returning → wpOpsS P ops (Exit.thenS (rest.wpS P (bodyPostS P fc c₀ cs fun e u' w' => settle u' = .returning ∧ ∃ ρ' y, ρ.le ρ' ∧ e = .returned y ∧ Rel Prot w0 ρ' H1 w')) (bodyPostS P fc c₀ cs fun e u' w' => settle u' = .returning ∧ ∃ ρ' y, ρ.le ρ' ∧ e = .returned y ∧ Rel Prot w0 ρ' H1 w')) (List.range' (0 + 1) os.length)
        (({ tmps := vs ++ Array.replicate (fc.ntmps - vs.size) undef, defers := [] } : Act).put o.dst xv) ({ c₀ with mode := u' } :: cs) w := by
      intro u' hset
      refine wpOpsS_of ?_ _ _ _ ?_
      · rintro ⟨a, w', u2, _, ρ', y, _, hh, _⟩
        simp at hh
      · rw [hod]
        refine regs_sim (Prot := Prot) (w0 := w0) (ds := []) hb.h0 hc.ok os (0 + 1) l hnx h6 ρ ρ T1 T2 H H2 _ w (Pl.le_refl _) R hput rfl hl ?_
        rintro a' w' ⟨ρ', q1, q2, q3, q4⟩
        show rest.wpS P _ a' _ w'
        refine wpS_of_wp (wp_mono (code_sim hfol (Prot := Prot) (w0 := w0) (ds := []) hb.h0 hc.ok rest r h7 ρ' T2 T H2 H1 e a' w' q2 q3 q4 hx) ?_)
        rintro e' a2 w2 ⟨he, ρ2, z1, z2, z3, z4⟩
        have hfin : a2.defers = [] ∧ ∃ u2, ({ c₀ with mode := u' } :: cs : List Frame) = { c₀ with mode := u2 } :: cs ∧ ∃ v, (results fc a2.tmps).run P w2 = .ok v w2 ∧ (settle u2 = .returning ∧ ∃ ρ' y, ρ.le ρ' ∧ Ending.returned v = .returned y ∧ Rel Prot w0 ρ' H1 w2) :=
          ⟨z4, u', rfl, .tuple #[], by simp [results, h4], hset, ρ2, .tuple #[], Pl.le_trans q1 z1, rfl, z2⟩
        cases e with
        | normal => simp only at he; subst he; exact hfin
        | exit id => exact (hne _ rfl).elim
        | ret => simp only at he; subst he; exact hfin
    rcases hu with ⟨rfl, rfl⟩ | rfl
    · have hrec : recoverD (c₀ :: cs) = none := by simp [recoverD, hcu]
      rw [hrec]
      have := key .returning rfl
      rwa [show ({ c₀ with mode := .returning } : Frame) = c₀ by rw [← hcu]] at this
    · have hrec : recoverD (c₀ :: cs) = some (xv, { c₀ with mode := .panicking [{ v := xv, recovered := true }] } :: cs) := by simp [recoverD, hcu]
      rw [hrec]
      exact key _ rfl
theorem acall_inv {N : ANat} {tab : Tr AFn} {n : Nat} {f : FuncId} {args : List AVal} {v : AVal} (hi : N.is f = false) (h : acall N tab (n + 1) f args H = some (v, H')) :
    ∃ fn e T xs, tab.get f = some fn ∧ args.length ≤ fn.nt ∧ aexec (tbA N tab) (acall N tab n) n fn.body (putArgs args 0 .e) H = some (e, T, H') ∧ (∀ i, e ≠ .exit i) ∧ ares T H' fn.res = some xs ∧ v = aresV xs := by
  simp only [acall, hi, cond_false] at h
  split at h
  · rename_i fn hf
    cases hb : Nat.ble args.length fn.nt with
    | false => rw [hb] at h; simp at h
    | true =>
      rw [hb] at h
      simp only [cond_true] at h
      split at h
      · simp at h
      · rename_i e T H1 hne hx
        split at h
        · rename_i xs hxs
          simp only [Option.some.injEq, Prod.mk.injEq] at h
          obtain ⟨rfl, rfl⟩ := h
          exact ⟨fn, e, T, xs, hf, Nat.le_of_ble_eq_true hb, hx, fun i q => hne i q, hxs, rfl⟩
        · simp at h
      · simp at h
  · simp at h
theorem acall_all (hfol : P.follows .mixedOrders = true) {N : ANat} (hN : NatOK P N) {tab : Tr AFn} (hT : TabOK P tab) : ∀ n, AllOK P (acall N tab n) := by
  have hnat : ∀ (m f : Nat), 0 < m → N.is (m * BIG + f) = false := fun m f hm => by
    cases hi : N.is (m * BIG + f) with
    | false => rfl
    | true =>
      have := hN.body _ hi
      simp only [hasBody, Bool.and_eq_true] at this
      have := blt_lt this.1
      have : BIG ≤ m * BIG := Nat.le_mul_of_pos_left _ hm
      omega
  have hget : ∀ f, N.is f = false → tbA N tab f = true → ∃ fn, tab.get f = some fn := fun f hi h => by
    unfold tbA at h
    rw [hi] at h
    simp only [cond_false] at h
    split at h
    · rename_i fn hf; exact ⟨fn, hf⟩
    · simp at h
  have e1 : ∀ f : Nat, BIG + f = 1 * BIG + f := fun f => by omega
  have htb : TbOK P (tbA N tab) := by
    refine ⟨fun f hf h => ?_, fun f hf h => ?_, fun f hf h => ?_, fun f hf h => ?_⟩
    · cases hi : N.is f with
      | true => exact hN.body f hi
      | false =>
        obtain ⟨fn, hg⟩ := hget f hi h
        obtain ⟨md, he⟩ := hT _ _ hg
        rcases eFn_0 hf he with h9 | ⟨m, h9⟩
        · obtain ⟨fc, c, q1, q2, q3, _⟩ := cFn_spec h9; exact body_of hf q1 q2 q3
        · obtain ⟨fc, c, b, r, q1, q2, q3, _⟩ := cFnP_spec h9; exact body_of hf q1 q2 q3
    · obtain ⟨fn, hg⟩ := hget _ (by rw [e1]; exact hnat 1 f (by omega)) h
      obtain ⟨md, he⟩ := hT _ _ hg
      obtain ⟨m, h9⟩ := eFn_1 hf he
      obtain ⟨fc, c, b, r, q1, q2, q3, _⟩ := cFnP_spec h9; exact body_of hf q1 q2 q3
    · obtain ⟨fn, hg⟩ := hget _ (hnat 2 f (by omega)) h
      obtain ⟨md, he⟩ := hT _ _ hg
      have h9 := eFn_2 hf he
      obtain ⟨fc, c, ops, d, os, rest, l, r, q1, q2, q3, _⟩ := cFnR_spec h9; exact body_of hf q1 q2 q3
    · obtain ⟨fn, hg⟩ := hget _ (hnat 3 f (by omega)) h
      obtain ⟨md, he⟩ := hT _ _ hg
      have h9 := eFn_3 hf he
      obtain ⟨fc, c, q1, q2, q3, _⟩ := cFn_spec h9; exact body_of hf q1 q2 q3
  intro n
  induction n with
  | zero =>
    refine ⟨fun f args H v H' _ h => by simp [acall] at h, fun f args H v H' _ h => by simp [acall] at h, fun f args H v H' _ h => by simp [acall] at h, fun f args x H v H' _ _ h => by simp [acall] at h⟩
  | succ n ih =>
    refine ⟨fun f args H v H' hf h Prot w0 ρ w vs R hv => ?_, fun f args H v H' hf h Prot w0 ρ w vs R hv => ?_, fun f args H v H' hf h Prot w0 ρ w vs R hv => ?_, fun f args x H v H' hf hlen h Prot w0 ρ w vs xv u R hv hxv hu => ?_⟩
    · cases hi : N.is f with
      | true => simp only [acall, hi, cond_true] at h; exact hN.run f args H v H' hf h Prot w0 ρ w vs R hv
      | false =>
        obtain ⟨fn, e, T, xs, hg, hl, hx, hne, hxs, rfl⟩ := acall_inv hi h
        obtain ⟨md, he⟩ := hT _ _ hg
        rcases eFn_0 hf he with h9 | ⟨m, h9⟩
        · obtain ⟨fc, c, q1, q2, q3⟩ := fn_ok hfol htb ih h9 hl hx hne hxs R hv
          exact calls_of_wp q1 q2 q3
        · refine (fnP_ok hfol htb ih h9 hl hx hne hxs R hv).mono fun e' w' hr => ?_
          obtain ⟨ρ', r1, r2, ⟨y, rfl, r3⟩ | ⟨h8, _⟩⟩ := hr
          · exact ⟨ρ', y, r1, rfl, r2, r3⟩
          · simp at h8
    · obtain ⟨fn, e, T, xs, hg, hl, hx, hne, hxs, rfl⟩ := acall_inv (by rw [e1]; exact hnat 1 f (by omega)) h
      obtain ⟨md, he⟩ := hT _ _ hg
      obtain ⟨m, h9⟩ := eFn_1 hf he
      refine (fnP_ok hfol htb ih h9 hl hx hne hxs R hv).mono fun e' w' hr => ?_
      obtain ⟨ρ', r1, r2, ⟨y, rfl, r3⟩ | ⟨_, x, y, r3, rfl, r4⟩⟩ := hr
      · exact ⟨ρ', r1, r2, .inl ⟨y, rfl, r3⟩⟩
      · exact ⟨ρ', r1, r2, .inr ⟨x, y, r3, rfl, r4⟩⟩
    · obtain ⟨fn, e, T, xs, hg, hl, hx, hne, hxs, rfl⟩ := acall_inv (hnat 3 f (by omega)) h
      obtain ⟨md, he⟩ := hT _ _ hg
      obtain ⟨fc, c, q1, q2, q3⟩ := fn_ok hfol htb ih (eFn_3 hf he) hl hx hne hxs R hv
      refine (callsD_of_wp q1 q2 q3).mono ?_
      rintro e' u' w' ⟨rfl, ρ', y, r1, rfl, r2, _⟩
      exact ⟨rfl, ρ', y, r1, rfl, r2⟩
    · obtain ⟨fn, e, T, xs, hg, hl, hx, hne, hxs, rfl⟩ := acall_inv (hnat 2 f (by omega)) h
      obtain ⟨md, he⟩ := hT _ _ hg
      exact fnR_ok hfol htb ih (eFn_2 hf he) hlen hx hne R hv hxv hu
theorem acall_ok (hfol : P.follows .mixedOrders = true) {N : ANat} (hN : NatOK P N) {tab : Tr AFn} (hT : TabOK P tab) (n : Nat) : CallOK P (acall N tab n) := (acall_all hfol hN hT n).ok
end
end Go.Abs
namespace Go.Abs
section
variable {P : Program}
def H0 : AHeap := ⟨0, .e⟩
theorem rel_start (w : World) : Rel ⟨fun c => c < w.heap.size, fun _ => False⟩ w (fun _ _ => none) H0 w :=
  ⟨rfl, rfl, rfl, Nat.le_refl _, fun _ hc => ⟨hc, rfl⟩, fun _ _ _ h => by simp at h, fun _ _ _ h => by simp at h, fun _ _ _ _ h => by simp at h, fun _ _ _ _ _ _ _ h => by simp at h, fun _ h => h.elim, fun _ _ _ h => by simp [H0, AHeap.get, Tr.get] at h⟩
theorem Rel.below {w0 : World} {ρ : Pl} {H : AHeap} {w : World} (R : Rel ⟨fun c => c < w0.heap.size, fun _ => False⟩ w0 ρ H w) : RowKit.Below w0.heap.size w0 w :=
  ⟨R.os, R.tape, R.output, R.size, fun k hk => (R.prot k hk).2⟩
theorem closed_bool (hfol : P.follows .mixedOrders = true) {N : ANat} (hN : NatOK P N) {tab : Tr AFn} (hT : TabOK P tab) {n : Nat} {f : FuncId} (hf : Nat.blt f BIG = true) {args : List AVal} {vs : Array Value} (hv : ∀ ρ, VRels ρ args vs.toList) {b : Bool}
    (h : (match acall N tab n f args H0 with | some (.bool b', _) => b' == b | _ => false) = true) (w : World) :
    Calls P f vs w fun e w' => e = .returned (.bool b) ∧ RowKit.Below w.heap.size w w' := by
  split at h
  · rename_i b' H' hr
    refine (acall_ok hfol hN hT n _ _ _ _ _ hf hr _ w _ w vs (rel_start w) (hv _)).mono fun e w' hx => ?_
    obtain ⟨ρ', u, _, rfl, R, hu⟩ := hx
    simp only [VRel] at hu
    subst hu
    have : b' = b := by simpa using h
    exact ⟨by rw [this], R.below⟩
  · simp at h
end
end Go.Abs
namespace Go.Abs.F
open Go.Abs
noncomputable section
structure F8 where
  (a0 a1 a2 a3 a4 a5 a6 a7 : AVal)
structure F64 where
  (b0 b1 b2 b3 b4 b5 b6 b7 : F8)
structure Fr where
  (c0 c1 c2 c3 : F64)
structure N8 (α : Type) where
  (a0 a1 a2 a3 a4 a5 a6 a7 : α)
def Nd (α : Type) : Nat → Type := @Nat.rec (fun _ => Type) α (fun _ t => N8 t)
structure Cs where
  d : Nat
  t : Nd AVal d
inductive FObj where
  | cells (t : Cs) (n low : Nat) (ro : Bool)
  | map (es : List (AVal × AVal × Nat)) (clock : Nat)
  | iter (s : List UInt8) (pos : Nat)
structure FHeap where
  next : Nat
  tr : Nd (Option FObj) 5
inductive R where
  | yes
  | no
  | val (v : AVal) (h : FHeap)
structure GW (T β : Type) where
  g : T → (β → R) → R
structure SW (T β : Type) where
  s : β → T → (T → R) → R
abbrev Kn := Fr → FHeap → R
structure E where
  n : Nat
  call : FuncId → List AVal → FHeap → (AVal → FHeap → R) → R
abbrev GV := Fr → (AVal → R) → R
abbrev SV := AVal → Fr → (Fr → R) → R
abbrev K := E → Fr → FHeap → Kn → List Kn → R
def l0 (t : F8) (k : AVal → R) : R := @F8.rec (fun _ => R) (fun x _ _ _ _ _ _ _ => k x) t
def l1 (t : F8) (k : AVal → R) : R := @F8.rec (fun _ => R) (fun _ x _ _ _ _ _ _ => k x) t
def l2 (t : F8) (k : AVal → R) : R := @F8.rec (fun _ => R) (fun _ _ x _ _ _ _ _ => k x) t
def l3 (t : F8) (k : AVal → R) : R := @F8.rec (fun _ => R) (fun _ _ _ x _ _ _ _ => k x) t
def l4 (t : F8) (k : AVal → R) : R := @F8.rec (fun _ => R) (fun _ _ _ _ x _ _ _ => k x) t
def l5 (t : F8) (k : AVal → R) : R := @F8.rec (fun _ => R) (fun _ _ _ _ _ x _ _ => k x) t
def l6 (t : F8) (k : AVal → R) : R := @F8.rec (fun _ => R) (fun _ _ _ _ _ _ x _ => k x) t
def l7 (t : F8) (k : AVal → R) : R := @F8.rec (fun _ => R) (fun _ _ _ _ _ _ _ x => k x) t
def m0 (g : F8 → (AVal → R) → R) (t : F64) (k : AVal → R) : R := @F64.rec (fun _ => R) (fun x _ _ _ _ _ _ _ => g x k) t
def m1 (g : F8 → (AVal → R) → R) (t : F64) (k : AVal → R) : R := @F64.rec (fun _ => R) (fun _ x _ _ _ _ _ _ => g x k) t
def m2 (g : F8 → (AVal → R) → R) (t : F64) (k : AVal → R) : R := @F64.rec (fun _ => R) (fun _ _ x _ _ _ _ _ => g x k) t
def m3 (g : F8 → (AVal → R) → R) (t : F64) (k : AVal → R) : R := @F64.rec (fun _ => R) (fun _ _ _ x _ _ _ _ => g x k) t
def m4 (g : F8 → (AVal → R) → R) (t : F64) (k : AVal → R) : R := @F64.rec (fun _ => R) (fun _ _ _ _ x _ _ _ => g x k) t
def m5 (g : F8 → (AVal → R) → R) (t : F64) (k : AVal → R) : R := @F64.rec (fun _ => R) (fun _ _ _ _ _ x _ _ => g x k) t
def m6 (g : F8 → (AVal → R) → R) (t : F64) (k : AVal → R) : R := @F64.rec (fun _ => R) (fun _ _ _ _ _ _ x _ => g x k) t
def m7 (g : F8 → (AVal → R) → R) (t : F64) (k : AVal → R) : R := @F64.rec (fun _ => R) (fun _ _ _ _ _ _ _ x => g x k) t
def t0 (g : F64 → (AVal → R) → R) (t : Fr) (k : AVal → R) : R := @Fr.rec (fun _ => R) (fun x _ _ _ => g x k) t
def t1 (g : F64 → (AVal → R) → R) (t : Fr) (k : AVal → R) : R := @Fr.rec (fun _ => R) (fun _ x _ _ => g x k) t
def t2 (g : F64 → (AVal → R) → R) (t : Fr) (k : AVal → R) : R := @Fr.rec (fun _ => R) (fun _ _ x _ => g x k) t
def t3 (g : F64 → (AVal → R) → R) (t : Fr) (k : AVal → R) : R := @Fr.rec (fun _ => R) (fun _ _ _ x => g x k) t
def sl0 (v : AVal) (t : F8) (k : F8 → R) : R := @F8.rec (fun _ => R) (fun _ a1 a2 a3 a4 a5 a6 a7 => k (.mk v a1 a2 a3 a4 a5 a6 a7)) t
def sl1 (v : AVal) (t : F8) (k : F8 → R) : R := @F8.rec (fun _ => R) (fun a0 _ a2 a3 a4 a5 a6 a7 => k (.mk a0 v a2 a3 a4 a5 a6 a7)) t
def sl2 (v : AVal) (t : F8) (k : F8 → R) : R := @F8.rec (fun _ => R) (fun a0 a1 _ a3 a4 a5 a6 a7 => k (.mk a0 a1 v a3 a4 a5 a6 a7)) t
def sl3 (v : AVal) (t : F8) (k : F8 → R) : R := @F8.rec (fun _ => R) (fun a0 a1 a2 _ a4 a5 a6 a7 => k (.mk a0 a1 a2 v a4 a5 a6 a7)) t
def sl4 (v : AVal) (t : F8) (k : F8 → R) : R := @F8.rec (fun _ => R) (fun a0 a1 a2 a3 _ a5 a6 a7 => k (.mk a0 a1 a2 a3 v a5 a6 a7)) t
def sl5 (v : AVal) (t : F8) (k : F8 → R) : R := @F8.rec (fun _ => R) (fun a0 a1 a2 a3 a4 _ a6 a7 => k (.mk a0 a1 a2 a3 a4 v a6 a7)) t
def sl6 (v : AVal) (t : F8) (k : F8 → R) : R := @F8.rec (fun _ => R) (fun a0 a1 a2 a3 a4 a5 _ a7 => k (.mk a0 a1 a2 a3 a4 a5 v a7)) t
def sl7 (v : AVal) (t : F8) (k : F8 → R) : R := @F8.rec (fun _ => R) (fun a0 a1 a2 a3 a4 a5 a6 _ => k (.mk a0 a1 a2 a3 a4 a5 a6 v)) t
def sm0 (s : AVal → F8 → (F8 → R) → R) (v : AVal) (t : F64) (k : F64 → R) : R := @F64.rec (fun _ => R) (fun b0 b1 b2 b3 b4 b5 b6 b7 => s v b0 fun x => k (.mk x b1 b2 b3 b4 b5 b6 b7)) t
def sm1 (s : AVal → F8 → (F8 → R) → R) (v : AVal) (t : F64) (k : F64 → R) : R := @F64.rec (fun _ => R) (fun b0 b1 b2 b3 b4 b5 b6 b7 => s v b1 fun x => k (.mk b0 x b2 b3 b4 b5 b6 b7)) t
def sm2 (s : AVal → F8 → (F8 → R) → R) (v : AVal) (t : F64) (k : F64 → R) : R := @F64.rec (fun _ => R) (fun b0 b1 b2 b3 b4 b5 b6 b7 => s v b2 fun x => k (.mk b0 b1 x b3 b4 b5 b6 b7)) t
def sm3 (s : AVal → F8 → (F8 → R) → R) (v : AVal) (t : F64) (k : F64 → R) : R := @F64.rec (fun _ => R) (fun b0 b1 b2 b3 b4 b5 b6 b7 => s v b3 fun x => k (.mk b0 b1 b2 x b4 b5 b6 b7)) t
def sm4 (s : AVal → F8 → (F8 → R) → R) (v : AVal) (t : F64) (k : F64 → R) : R := @F64.rec (fun _ => R) (fun b0 b1 b2 b3 b4 b5 b6 b7 => s v b4 fun x => k (.mk b0 b1 b2 b3 x b5 b6 b7)) t
def sm5 (s : AVal → F8 → (F8 → R) → R) (v : AVal) (t : F64) (k : F64 → R) : R := @F64.rec (fun _ => R) (fun b0 b1 b2 b3 b4 b5 b6 b7 => s v b5 fun x => k (.mk b0 b1 b2 b3 b4 x b6 b7)) t
def sm6 (s : AVal → F8 → (F8 → R) → R) (v : AVal) (t : F64) (k : F64 → R) : R := @F64.rec (fun _ => R) (fun b0 b1 b2 b3 b4 b5 b6 b7 => s v b6 fun x => k (.mk b0 b1 b2 b3 b4 b5 x b7)) t
def sm7 (s : AVal → F8 → (F8 → R) → R) (v : AVal) (t : F64) (k : F64 → R) : R := @F64.rec (fun _ => R) (fun b0 b1 b2 b3 b4 b5 b6 b7 => s v b7 fun x => k (.mk b0 b1 b2 b3 b4 b5 b6 x)) t
def st0 (s : AVal → F64 → (F64 → R) → R) (v : AVal) (t : Fr) (k : Fr → R) : R := @Fr.rec (fun _ => R) (fun c0 c1 c2 c3 => s v c0 fun x => k (.mk x c1 c2 c3)) t
def st1 (s : AVal → F64 → (F64 → R) → R) (v : AVal) (t : Fr) (k : Fr → R) : R := @Fr.rec (fun _ => R) (fun c0 c1 c2 c3 => s v c1 fun x => k (.mk c0 x c2 c3)) t
def st2 (s : AVal → F64 → (F64 → R) → R) (v : AVal) (t : Fr) (k : Fr → R) : R := @Fr.rec (fun _ => R) (fun c0 c1 c2 c3 => s v c2 fun x => k (.mk c0 c1 x c3)) t
def st3 (s : AVal → F64 → (F64 → R) → R) (v : AVal) (t : Fr) (k : Fr → R) : R := @Fr.rec (fun _ => R) (fun c0 c1 c2 c3 => s v c3 fun x => k (.mk c0 c1 c2 x)) t
def lo (i : Nat) : F8 → (AVal → R) → R := match i with | 0 => l0 | 1 => l1 | 2 => l2 | 3 => l3 | 4 => l4 | 5 => l5 | 6 => l6 | _ => l7
def mi (i : Nat) : (F8 → (AVal → R) → R) → F64 → (AVal → R) → R := match i with | 0 => m0 | 1 => m1 | 2 => m2 | 3 => m3 | 4 => m4 | 5 => m5 | 6 => m6 | _ => m7
def to (i : Nat) : (F64 → (AVal → R) → R) → GV := match i with | 0 => t0 | 1 => t1 | 2 => t2 | _ => t3
def slo (i : Nat) : AVal → F8 → (F8 → R) → R := match i with | 0 => sl0 | 1 => sl1 | 2 => sl2 | 3 => sl3 | 4 => sl4 | 5 => sl5 | 6 => sl6 | _ => sl7
def smi (i : Nat) : (AVal → F8 → (F8 → R) → R) → AVal → F64 → (F64 → R) → R := match i with | 0 => sm0 | 1 => sm1 | 2 => sm2 | 3 => sm3 | 4 => sm4 | 5 => sm5 | 6 => sm6 | _ => sm7
def sto (i : Nat) : (AVal → F64 → (F64 → R) → R) → SV := match i with | 0 => st0 | 1 => st1 | 2 => st2 | _ => st3
def F8.at (x : F8) (i : Nat) : AVal := match i with | 0 => x.a0 | 1 => x.a1 | 2 => x.a2 | 3 => x.a3 | 4 => x.a4 | 5 => x.a5 | 6 => x.a6 | _ => x.a7
def F8.put (x : F8) (i : Nat) (v : AVal) : F8 := match i with | 0 => { x with a0 := v } | 1 => { x with a1 := v } | 2 => { x with a2 := v } | 3 => { x with a3 := v } | 4 => { x with a4 := v } | 5 => { x with a5 := v } | 6 => { x with a6 := v } | _ => { x with a7 := v }
def F64.at (x : F64) (i : Nat) : F8 := match i with | 0 => x.b0 | 1 => x.b1 | 2 => x.b2 | 3 => x.b3 | 4 => x.b4 | 5 => x.b5 | 6 => x.b6 | _ => x.b7
def F64.put (x : F64) (i : Nat) (v : F8) : F64 := match i with | 0 => { x with b0 := v } | 1 => { x with b1 := v } | 2 => { x with b2 := v } | 3 => { x with b3 := v } | 4 => { x with b4 := v } | 5 => { x with b5 := v } | 6 => { x with b6 := v } | _ => { x with b7 := v }
def Fr.at (x : Fr) (i : Nat) : F64 := match i with | 0 => x.c0 | 1 => x.c1 | 2 => x.c2 | _ => x.c3
def Fr.put (x : Fr) (i : Nat) (v : F64) : Fr := match i with | 0 => { x with c0 := v } | 1 => { x with c1 := v } | 2 => { x with c2 := v } | _ => { x with c3 := v }
theorem lo_eq (i : Nat) (x : F8) (k : AVal → R) : lo i x k = k (x.at i) := by cases x; exact match i with | 0 => rfl | 1 => rfl | 2 => rfl | 3 => rfl | 4 => rfl | 5 => rfl | 6 => rfl | _ + 7 => rfl
theorem mi_eq (i : Nat) (g : F8 → (AVal → R) → R) (x : F64) (k : AVal → R) : mi i g x k = g (x.at i) k := by cases x; exact match i with | 0 => rfl | 1 => rfl | 2 => rfl | 3 => rfl | 4 => rfl | 5 => rfl | 6 => rfl | _ + 7 => rfl
theorem to_eq (i : Nat) (g : F64 → (AVal → R) → R) (x : Fr) (k : AVal → R) : to i g x k = g (x.at i) k := by cases x; exact match i with | 0 => rfl | 1 => rfl | 2 => rfl | _ + 3 => rfl
theorem slo_eq (i : Nat) (v : AVal) (x : F8) (k : F8 → R) : slo i v x k = k (x.put i v) := by cases x; exact match i with | 0 => rfl | 1 => rfl | 2 => rfl | 3 => rfl | 4 => rfl | 5 => rfl | 6 => rfl | _ + 7 => rfl
theorem smi_eq (i : Nat) (s : AVal → F8 → (F8 → R) → R) (v : AVal) (x : F64) (k : F64 → R) : smi i s v x k = s v (x.at i) fun y => k (x.put i y) := by cases x; exact match i with | 0 => rfl | 1 => rfl | 2 => rfl | 3 => rfl | 4 => rfl | 5 => rfl | 6 => rfl | _ + 7 => rfl
theorem sto_eq (i : Nat) (s : AVal → F64 → (F64 → R) → R) (v : AVal) (x : Fr) (k : Fr → R) : sto i s v x k = s v (x.at i) fun y => k (x.put i y) := by cases x; exact match i with | 0 => rfl | 1 => rfl | 2 => rfl | _ + 3 => rfl
theorem F8.at_put (x : F8) (v : AVal) (i j : Nat) (hi : i < 8) (hj : j < 8) : (x.put i v).at j = if j = i then v else x.at j := by
  obtain rfl | rfl | rfl | rfl | rfl | rfl | rfl | rfl : i = 0 ∨ i = 1 ∨ i = 2 ∨ i = 3 ∨ i = 4 ∨ i = 5 ∨ i = 6 ∨ i = 7 := by omega
  all_goals
    obtain rfl | rfl | rfl | rfl | rfl | rfl | rfl | rfl : j = 0 ∨ j = 1 ∨ j = 2 ∨ j = 3 ∨ j = 4 ∨ j = 5 ∨ j = 6 ∨ j = 7 := by omega
    all_goals rfl
theorem F64.at_put (x : F64) (v : F8) (i j : Nat) (hi : i < 8) (hj : j < 8) : (x.put i v).at j = if j = i then v else x.at j := by
  obtain rfl | rfl | rfl | rfl | rfl | rfl | rfl | rfl : i = 0 ∨ i = 1 ∨ i = 2 ∨ i = 3 ∨ i = 4 ∨ i = 5 ∨ i = 6 ∨ i = 7 := by omega
  all_goals
    obtain rfl | rfl | rfl | rfl | rfl | rfl | rfl | rfl : j = 0 ∨ j = 1 ∨ j = 2 ∨ j = 3 ∨ j = 4 ∨ j = 5 ∨ j = 6 ∨ j = 7 := by omega
    all_goals rfl
theorem Fr.at_put (x : Fr) (v : F64) (i j : Nat) (hi : i < 4) (hj : j < 4) : (x.put i v).at j = if j = i then v else x.at j := by
  obtain rfl | rfl | rfl | rfl : i = 0 ∨ i = 1 ∨ i = 2 ∨ i = 3 := by omega
  all_goals
    obtain rfl | rfl | rfl | rfl : j = 0 ∨ j = 1 ∨ j = 2 ∨ j = 3 := by omega
    all_goals rfl
def Fr.get (F : Fr) (i : Nat) : AVal := ((F.at (i / 64)).at (i / 8 % 8)).at (i % 8)
def Fr.set (F : Fr) (i : Nat) (v : AVal) : Fr := F.put (i / 64) ((F.at (i / 64)).put (i / 8 % 8) (((F.at (i / 64)).at (i / 8 % 8)).put (i % 8) v))
def gt (i : Nat) : GV := to (i / 64) (mi (i / 8 % 8) (lo (i % 8)))
def st (i : Nat) : SV := sto (i / 64) (smi (i / 8 % 8) (slo (i % 8)))
theorem gt_eq (i : Nat) (F : Fr) (k : AVal → R) : gt i F k = k (F.get i) := by
  simp only [gt, to_eq, mi_eq, lo_eq, Fr.get]
theorem st_eq (i : Nat) (v : AVal) (F : Fr) (k : Fr → R) : st i v F k = k (F.set i v) := by
  simp only [st, sto_eq, smi_eq, slo_eq, Fr.set]
theorem Fr.get_set (F : Fr) (v : AVal) (i j : Nat) (hi : i < 256) (hj : j < 256) : (F.set i v).get j = if j = i then v else F.get j := by
  simp only [Fr.get, Fr.set]
  rw [Fr.at_put _ _ _ _ (by omega) (by omega)]
  by_cases h1 : j / 64 = i / 64
  · rw [if_pos h1, F64.at_put _ _ _ _ (by omega) (by omega)]
    by_cases h2 : j / 8 % 8 = i / 8 % 8
    · rw [if_pos h2, F8.at_put _ _ _ _ (by omega) (by omega)]
      by_cases h3 : j % 8 = i % 8
      · rw [if_pos h3, if_pos (by omega)]
      · rw [if_neg h3, if_neg (by omega), h1, h2]
    · rw [if_neg h2, if_neg (fun e => h2 (by rw [e])), h1]
  · rw [if_neg h1, if_neg (fun e => h1 (by rw [e]))]
def g0 : GV := t0 (m0 l0)
def g1 : GV := t0 (m0 l1)
def g2 : GV := t0 (m0 l2)
def g3 : GV := t0 (m0 l3)
def g4 : GV := t0 (m0 l4)
def g5 : GV := t0 (m0 l5)
def g6 : GV := t0 (m0 l6)
def g7 : GV := t0 (m0 l7)
def g8 : GV := t0 (m1 l0)
def g9 : GV := t0 (m1 l1)
def g10 : GV := t0 (m1 l2)
def g11 : GV := t0 (m1 l3)
def g12 : GV := t0 (m1 l4)
def g13 : GV := t0 (m1 l5)
def g14 : GV := t0 (m1 l6)
def g15 : GV := t0 (m1 l7)
def g16 : GV := t0 (m2 l0)
def g17 : GV := t0 (m2 l1)
def g18 : GV := t0 (m2 l2)
def g19 : GV := t0 (m2 l3)
def g20 : GV := t0 (m2 l4)
def g21 : GV := t0 (m2 l5)
def g22 : GV := t0 (m2 l6)
def g23 : GV := t0 (m2 l7)
def g24 : GV := t0 (m3 l0)
def g25 : GV := t0 (m3 l1)
def g26 : GV := t0 (m3 l2)
def g27 : GV := t0 (m3 l3)
def g28 : GV := t0 (m3 l4)
def g29 : GV := t0 (m3 l5)
def g30 : GV := t0 (m3 l6)
def g31 : GV := t0 (m3 l7)
def g32 : GV := t0 (m4 l0)
def g33 : GV := t0 (m4 l1)
def g34 : GV := t0 (m4 l2)
def g35 : GV := t0 (m4 l3)
def g36 : GV := t0 (m4 l4)
def g37 : GV := t0 (m4 l5)
def g38 : GV := t0 (m4 l6)
def g39 : GV := t0 (m4 l7)
def g40 : GV := t0 (m5 l0)
def g41 : GV := t0 (m5 l1)
def g42 : GV := t0 (m5 l2)
def g43 : GV := t0 (m5 l3)
def g44 : GV := t0 (m5 l4)
def g45 : GV := t0 (m5 l5)
def g46 : GV := t0 (m5 l6)
def g47 : GV := t0 (m5 l7)
def g48 : GV := t0 (m6 l0)
def g49 : GV := t0 (m6 l1)
def g50 : GV := t0 (m6 l2)
def g51 : GV := t0 (m6 l3)
def g52 : GV := t0 (m6 l4)
def g53 : GV := t0 (m6 l5)
def g54 : GV := t0 (m6 l6)
def g55 : GV := t0 (m6 l7)
def g56 : GV := t0 (m7 l0)
def g57 : GV := t0 (m7 l1)
def g58 : GV := t0 (m7 l2)
def g59 : GV := t0 (m7 l3)
def g60 : GV := t0 (m7 l4)
def g61 : GV := t0 (m7 l5)
def g62 : GV := t0 (m7 l6)
def g63 : GV := t0 (m7 l7)
def g64 : GV := t1 (m0 l0)
def g65 : GV := t1 (m0 l1)
def g66 : GV := t1 (m0 l2)
def g67 : GV := t1 (m0 l3)
def g68 : GV := t1 (m0 l4)
def g69 : GV := t1 (m0 l5)
def g70 : GV := t1 (m0 l6)
def g71 : GV := t1 (m0 l7)
def g72 : GV := t1 (m1 l0)
def g73 : GV := t1 (m1 l1)
def g74 : GV := t1 (m1 l2)
def g75 : GV := t1 (m1 l3)
def g76 : GV := t1 (m1 l4)
def g77 : GV := t1 (m1 l5)
def g78 : GV := t1 (m1 l6)
def g79 : GV := t1 (m1 l7)
def g80 : GV := t1 (m2 l0)
def g81 : GV := t1 (m2 l1)
def g82 : GV := t1 (m2 l2)
def g83 : GV := t1 (m2 l3)
def g84 : GV := t1 (m2 l4)
def g85 : GV := t1 (m2 l5)
def g86 : GV := t1 (m2 l6)
def g87 : GV := t1 (m2 l7)
def g88 : GV := t1 (m3 l0)
def g89 : GV := t1 (m3 l1)
def g90 : GV := t1 (m3 l2)
def g91 : GV := t1 (m3 l3)
def g92 : GV := t1 (m3 l4)
def g93 : GV := t1 (m3 l5)
def g94 : GV := t1 (m3 l6)
def g95 : GV := t1 (m3 l7)
def g96 : GV := t1 (m4 l0)
def g97 : GV := t1 (m4 l1)
def g98 : GV := t1 (m4 l2)
def g99 : GV := t1 (m4 l3)
def g100 : GV := t1 (m4 l4)
def g101 : GV := t1 (m4 l5)
def g102 : GV := t1 (m4 l6)
def g103 : GV := t1 (m4 l7)
def g104 : GV := t1 (m5 l0)
def g105 : GV := t1 (m5 l1)
def g106 : GV := t1 (m5 l2)
def g107 : GV := t1 (m5 l3)
def g108 : GV := t1 (m5 l4)
def g109 : GV := t1 (m5 l5)
def g110 : GV := t1 (m5 l6)
def g111 : GV := t1 (m5 l7)
def g112 : GV := t1 (m6 l0)
def g113 : GV := t1 (m6 l1)
def g114 : GV := t1 (m6 l2)
def g115 : GV := t1 (m6 l3)
def g116 : GV := t1 (m6 l4)
def g117 : GV := t1 (m6 l5)
def g118 : GV := t1 (m6 l6)
def g119 : GV := t1 (m6 l7)
def g120 : GV := t1 (m7 l0)
def g121 : GV := t1 (m7 l1)
def g122 : GV := t1 (m7 l2)
def g123 : GV := t1 (m7 l3)
def g124 : GV := t1 (m7 l4)
def g125 : GV := t1 (m7 l5)
def g126 : GV := t1 (m7 l6)
def g127 : GV := t1 (m7 l7)
def g128 : GV := t2 (m0 l0)
def g129 : GV := t2 (m0 l1)
def g130 : GV := t2 (m0 l2)
def g131 : GV := t2 (m0 l3)
def g132 : GV := t2 (m0 l4)
def g133 : GV := t2 (m0 l5)
def g134 : GV := t2 (m0 l6)
def g135 : GV := t2 (m0 l7)
def g136 : GV := t2 (m1 l0)
def g137 : GV := t2 (m1 l1)
def g138 : GV := t2 (m1 l2)
def g139 : GV := t2 (m1 l3)
def g140 : GV := t2 (m1 l4)
def g141 : GV := t2 (m1 l5)
def g142 : GV := t2 (m1 l6)
def g143 : GV := t2 (m1 l7)
def g144 : GV := t2 (m2 l0)
def g145 : GV := t2 (m2 l1)
def g146 : GV := t2 (m2 l2)
def g147 : GV := t2 (m2 l3)
def g148 : GV := t2 (m2 l4)
def g149 : GV := t2 (m2 l5)
def g150 : GV := t2 (m2 l6)
def g151 : GV := t2 (m2 l7)
def g152 : GV := t2 (m3 l0)
def g153 : GV := t2 (m3 l1)
def g154 : GV := t2 (m3 l2)
def g155 : GV := t2 (m3 l3)
def g156 : GV := t2 (m3 l4)
def g157 : GV := t2 (m3 l5)
def g158 : GV := t2 (m3 l6)
def g159 : GV := t2 (m3 l7)
def g160 : GV := t2 (m4 l0)
def g161 : GV := t2 (m4 l1)
def g162 : GV := t2 (m4 l2)
def g163 : GV := t2 (m4 l3)
def g164 : GV := t2 (m4 l4)
def g165 : GV := t2 (m4 l5)
def g166 : GV := t2 (m4 l6)
def g167 : GV := t2 (m4 l7)
def g168 : GV := t2 (m5 l0)
def g169 : GV := t2 (m5 l1)
def g170 : GV := t2 (m5 l2)
def g171 : GV := t2 (m5 l3)
def g172 : GV := t2 (m5 l4)
def g173 : GV := t2 (m5 l5)
def g174 : GV := t2 (m5 l6)
def g175 : GV := t2 (m5 l7)
def g176 : GV := t2 (m6 l0)
def g177 : GV := t2 (m6 l1)
def g178 : GV := t2 (m6 l2)
def g179 : GV := t2 (m6 l3)
def g180 : GV := t2 (m6 l4)
def g181 : GV := t2 (m6 l5)
def g182 : GV := t2 (m6 l6)
def g183 : GV := t2 (m6 l7)
def g184 : GV := t2 (m7 l0)
def g185 : GV := t2 (m7 l1)
def g186 : GV := t2 (m7 l2)
def g187 : GV := t2 (m7 l3)
def g188 : GV := t2 (m7 l4)
def g189 : GV := t2 (m7 l5)
def g190 : GV := t2 (m7 l6)
def g191 : GV := t2 (m7 l7)
def g192 : GV := t3 (m0 l0)
def g193 : GV := t3 (m0 l1)
def g194 : GV := t3 (m0 l2)
def g195 : GV := t3 (m0 l3)
def g196 : GV := t3 (m0 l4)
def g197 : GV := t3 (m0 l5)
def g198 : GV := t3 (m0 l6)
def g199 : GV := t3 (m0 l7)
def g200 : GV := t3 (m1 l0)
def g201 : GV := t3 (m1 l1)
def g202 : GV := t3 (m1 l2)
def g203 : GV := t3 (m1 l3)
def g204 : GV := t3 (m1 l4)
def g205 : GV := t3 (m1 l5)
def g206 : GV := t3 (m1 l6)
def g207 : GV := t3 (m1 l7)
def g208 : GV := t3 (m2 l0)
def g209 : GV := t3 (m2 l1)
def g210 : GV := t3 (m2 l2)
def g211 : GV := t3 (m2 l3)
def g212 : GV := t3 (m2 l4)
def g213 : GV := t3 (m2 l5)
def g214 : GV := t3 (m2 l6)
def g215 : GV := t3 (m2 l7)
def g216 : GV := t3 (m3 l0)
def g217 : GV := t3 (m3 l1)
def g218 : GV := t3 (m3 l2)
def g219 : GV := t3 (m3 l3)
def g220 : GV := t3 (m3 l4)
def g221 : GV := t3 (m3 l5)
def g222 : GV := t3 (m3 l6)
def g223 : GV := t3 (m3 l7)
def g224 : GV := t3 (m4 l0)
def g225 : GV := t3 (m4 l1)
def g226 : GV := t3 (m4 l2)
def g227 : GV := t3 (m4 l3)
def g228 : GV := t3 (m4 l4)
def g229 : GV := t3 (m4 l5)
def g230 : GV := t3 (m4 l6)
def g231 : GV := t3 (m4 l7)
def g232 : GV := t3 (m5 l0)
def g233 : GV := t3 (m5 l1)
def g234 : GV := t3 (m5 l2)
def g235 : GV := t3 (m5 l3)
def g236 : GV := t3 (m5 l4)
def g237 : GV := t3 (m5 l5)
def g238 : GV := t3 (m5 l6)
def g239 : GV := t3 (m5 l7)
def g240 : GV := t3 (m6 l0)
def g241 : GV := t3 (m6 l1)
def g242 : GV := t3 (m6 l2)
def g243 : GV := t3 (m6 l3)
def g244 : GV := t3 (m6 l4)
def g245 : GV := t3 (m6 l5)
def g246 : GV := t3 (m6 l6)
def g247 : GV := t3 (m6 l7)
def g248 : GV := t3 (m7 l0)
def g249 : GV := t3 (m7 l1)
def g250 : GV := t3 (m7 l2)
def g251 : GV := t3 (m7 l3)
def g252 : GV := t3 (m7 l4)
def g253 : GV := t3 (m7 l5)
def g254 : GV := t3 (m7 l6)
def g255 : GV := t3 (m7 l7)
def s0 : SV := st0 (sm0 sl0)
def s1 : SV := st0 (sm0 sl1)
def s2 : SV := st0 (sm0 sl2)
def s3 : SV := st0 (sm0 sl3)
def s4 : SV := st0 (sm0 sl4)
def s5 : SV := st0 (sm0 sl5)
def s6 : SV := st0 (sm0 sl6)
def s7 : SV := st0 (sm0 sl7)
def s8 : SV := st0 (sm1 sl0)
def s9 : SV := st0 (sm1 sl1)
def s10 : SV := st0 (sm1 sl2)
def s11 : SV := st0 (sm1 sl3)
def s12 : SV := st0 (sm1 sl4)
def s13 : SV := st0 (sm1 sl5)
def s14 : SV := st0 (sm1 sl6)
def s15 : SV := st0 (sm1 sl7)
def s16 : SV := st0 (sm2 sl0)
def s17 : SV := st0 (sm2 sl1)
def s18 : SV := st0 (sm2 sl2)
def s19 : SV := st0 (sm2 sl3)
def s20 : SV := st0 (sm2 sl4)
def s21 : SV := st0 (sm2 sl5)
def s22 : SV := st0 (sm2 sl6)
def s23 : SV := st0 (sm2 sl7)
def s24 : SV := st0 (sm3 sl0)
def s25 : SV := st0 (sm3 sl1)
def s26 : SV := st0 (sm3 sl2)
def s27 : SV := st0 (sm3 sl3)
def s28 : SV := st0 (sm3 sl4)
def s29 : SV := st0 (sm3 sl5)
def s30 : SV := st0 (sm3 sl6)
def s31 : SV := st0 (sm3 sl7)
def s32 : SV := st0 (sm4 sl0)
def s33 : SV := st0 (sm4 sl1)
def s34 : SV := st0 (sm4 sl2)
def s35 : SV := st0 (sm4 sl3)
def s36 : SV := st0 (sm4 sl4)
def s37 : SV := st0 (sm4 sl5)
def s38 : SV := st0 (sm4 sl6)
def s39 : SV := st0 (sm4 sl7)
def s40 : SV := st0 (sm5 sl0)
def s41 : SV := st0 (sm5 sl1)
def s42 : SV := st0 (sm5 sl2)
def s43 : SV := st0 (sm5 sl3)
def s44 : SV := st0 (sm5 sl4)
def s45 : SV := st0 (sm5 sl5)
def s46 : SV := st0 (sm5 sl6)
def s47 : SV := st0 (sm5 sl7)
def s48 : SV := st0 (sm6 sl0)
def s49 : SV := st0 (sm6 sl1)
def s50 : SV := st0 (sm6 sl2)
def s51 : SV := st0 (sm6 sl3)
def s52 : SV := st0 (sm6 sl4)
def s53 : SV := st0 (sm6 sl5)
def s54 : SV := st0 (sm6 sl6)
def s55 : SV := st0 (sm6 sl7)
def s56 : SV := st0 (sm7 sl0)
def s57 : SV := st0 (sm7 sl1)
def s58 : SV := st0 (sm7 sl2)
def s59 : SV := st0 (sm7 sl3)
def s60 : SV := st0 (sm7 sl4)
def s61 : SV := st0 (sm7 sl5)
def s62 : SV := st0 (sm7 sl6)
def s63 : SV := st0 (sm7 sl7)
def s64 : SV := st1 (sm0 sl0)
def s65 : SV := st1 (sm0 sl1)
def s66 : SV := st1 (sm0 sl2)
def s67 : SV := st1 (sm0 sl3)
def s68 : SV := st1 (sm0 sl4)
def s69 : SV := st1 (sm0 sl5)
def s70 : SV := st1 (sm0 sl6)
def s71 : SV := st1 (sm0 sl7)
def s72 : SV := st1 (sm1 sl0)
def s73 : SV := st1 (sm1 sl1)
def s74 : SV := st1 (sm1 sl2)
def s75 : SV := st1 (sm1 sl3)
def s76 : SV := st1 (sm1 sl4)
def s77 : SV := st1 (sm1 sl5)
def s78 : SV := st1 (sm1 sl6)
def s79 : SV := st1 (sm1 sl7)
def s80 : SV := st1 (sm2 sl0)
def s81 : SV := st1 (sm2 sl1)
def s82 : SV := st1 (sm2 sl2)
def s83 : SV := st1 (sm2 sl3)
def s84 : SV := st1 (sm2 sl4)
def s85 : SV := st1 (sm2 sl5)
def s86 : SV := st1 (sm2 sl6)
def s87 : SV := st1 (sm2 sl7)
def s88 : SV := st1 (sm3 sl0)
def s89 : SV := st1 (sm3 sl1)
def s90 : SV := st1 (sm3 sl2)
def s91 : SV := st1 (sm3 sl3)
def s92 : SV := st1 (sm3 sl4)
def s93 : SV := st1 (sm3 sl5)
def s94 : SV := st1 (sm3 sl6)
def s95 : SV := st1 (sm3 sl7)
def s96 : SV := st1 (sm4 sl0)
def s97 : SV := st1 (sm4 sl1)
def s98 : SV := st1 (sm4 sl2)
def s99 : SV := st1 (sm4 sl3)
def s100 : SV := st1 (sm4 sl4)
def s101 : SV := st1 (sm4 sl5)
def s102 : SV := st1 (sm4 sl6)
def s103 : SV := st1 (sm4 sl7)
def s104 : SV := st1 (sm5 sl0)
def s105 : SV := st1 (sm5 sl1)
def s106 : SV := st1 (sm5 sl2)
def s107 : SV := st1 (sm5 sl3)
def s108 : SV := st1 (sm5 sl4)
def s109 : SV := st1 (sm5 sl5)
def s110 : SV := st1 (sm5 sl6)
def s111 : SV := st1 (sm5 sl7)
def s112 : SV := st1 (sm6 sl0)
def s113 : SV := st1 (sm6 sl1)
def s114 : SV := st1 (sm6 sl2)
def s115 : SV := st1 (sm6 sl3)
def s116 : SV := st1 (sm6 sl4)
def s117 : SV := st1 (sm6 sl5)
def s118 : SV := st1 (sm6 sl6)
def s119 : SV := st1 (sm6 sl7)
def s120 : SV := st1 (sm7 sl0)
def s121 : SV := st1 (sm7 sl1)
def s122 : SV := st1 (sm7 sl2)
def s123 : SV := st1 (sm7 sl3)
def s124 : SV := st1 (sm7 sl4)
def s125 : SV := st1 (sm7 sl5)
def s126 : SV := st1 (sm7 sl6)
def s127 : SV := st1 (sm7 sl7)
def s128 : SV := st2 (sm0 sl0)
def s129 : SV := st2 (sm0 sl1)
def s130 : SV := st2 (sm0 sl2)
def s131 : SV := st2 (sm0 sl3)
def s132 : SV := st2 (sm0 sl4)
def s133 : SV := st2 (sm0 sl5)
def s134 : SV := st2 (sm0 sl6)
def s135 : SV := st2 (sm0 sl7)
def s136 : SV := st2 (sm1 sl0)
def s137 : SV := st2 (sm1 sl1)
def s138 : SV := st2 (sm1 sl2)
def s139 : SV := st2 (sm1 sl3)
def s140 : SV := st2 (sm1 sl4)
def s141 : SV := st2 (sm1 sl5)
def s142 : SV := st2 (sm1 sl6)
def s143 : SV := st2 (sm1 sl7)
def s144 : SV := st2 (sm2 sl0)
def s145 : SV := st2 (sm2 sl1)
def s146 : SV := st2 (sm2 sl2)
def s147 : SV := st2 (sm2 sl3)
def s148 : SV := st2 (sm2 sl4)
def s149 : SV := st2 (sm2 sl5)
def s150 : SV := st2 (sm2 sl6)
def s151 : SV := st2 (sm2 sl7)
def s152 : SV := st2 (sm3 sl0)
def s153 : SV := st2 (sm3 sl1)
def s154 : SV := st2 (sm3 sl2)
def s155 : SV := st2 (sm3 sl3)
def s156 : SV := st2 (sm3 sl4)
def s157 : SV := st2 (sm3 sl5)
def s158 : SV := st2 (sm3 sl6)
def s159 : SV := st2 (sm3 sl7)
def s160 : SV := st2 (sm4 sl0)
def s161 : SV := st2 (sm4 sl1)
def s162 : SV := st2 (sm4 sl2)
def s163 : SV := st2 (sm4 sl3)
def s164 : SV := st2 (sm4 sl4)
def s165 : SV := st2 (sm4 sl5)
def s166 : SV := st2 (sm4 sl6)
def s167 : SV := st2 (sm4 sl7)
def s168 : SV := st2 (sm5 sl0)
def s169 : SV := st2 (sm5 sl1)
def s170 : SV := st2 (sm5 sl2)
def s171 : SV := st2 (sm5 sl3)
def s172 : SV := st2 (sm5 sl4)
def s173 : SV := st2 (sm5 sl5)
def s174 : SV := st2 (sm5 sl6)
def s175 : SV := st2 (sm5 sl7)
def s176 : SV := st2 (sm6 sl0)
def s177 : SV := st2 (sm6 sl1)
def s178 : SV := st2 (sm6 sl2)
def s179 : SV := st2 (sm6 sl3)
def s180 : SV := st2 (sm6 sl4)
def s181 : SV := st2 (sm6 sl5)
def s182 : SV := st2 (sm6 sl6)
def s183 : SV := st2 (sm6 sl7)
def s184 : SV := st2 (sm7 sl0)
def s185 : SV := st2 (sm7 sl1)
def s186 : SV := st2 (sm7 sl2)
def s187 : SV := st2 (sm7 sl3)
def s188 : SV := st2 (sm7 sl4)
def s189 : SV := st2 (sm7 sl5)
def s190 : SV := st2 (sm7 sl6)
def s191 : SV := st2 (sm7 sl7)
def s192 : SV := st3 (sm0 sl0)
def s193 : SV := st3 (sm0 sl1)
def s194 : SV := st3 (sm0 sl2)
def s195 : SV := st3 (sm0 sl3)
def s196 : SV := st3 (sm0 sl4)
def s197 : SV := st3 (sm0 sl5)
def s198 : SV := st3 (sm0 sl6)
def s199 : SV := st3 (sm0 sl7)
def s200 : SV := st3 (sm1 sl0)
def s201 : SV := st3 (sm1 sl1)
def s202 : SV := st3 (sm1 sl2)
def s203 : SV := st3 (sm1 sl3)
def s204 : SV := st3 (sm1 sl4)
def s205 : SV := st3 (sm1 sl5)
def s206 : SV := st3 (sm1 sl6)
def s207 : SV := st3 (sm1 sl7)
def s208 : SV := st3 (sm2 sl0)
def s209 : SV := st3 (sm2 sl1)
def s210 : SV := st3 (sm2 sl2)
def s211 : SV := st3 (sm2 sl3)
def s212 : SV := st3 (sm2 sl4)
def s213 : SV := st3 (sm2 sl5)
def s214 : SV := st3 (sm2 sl6)
def s215 : SV := st3 (sm2 sl7)
def s216 : SV := st3 (sm3 sl0)
def s217 : SV := st3 (sm3 sl1)
def s218 : SV := st3 (sm3 sl2)
def s219 : SV := st3 (sm3 sl3)
def s220 : SV := st3 (sm3 sl4)
def s221 : SV := st3 (sm3 sl5)
def s222 : SV := st3 (sm3 sl6)
def s223 : SV := st3 (sm3 sl7)
def s224 : SV := st3 (sm4 sl0)
def s225 : SV := st3 (sm4 sl1)
def s226 : SV := st3 (sm4 sl2)
def s227 : SV := st3 (sm4 sl3)
def s228 : SV := st3 (sm4 sl4)
def s229 : SV := st3 (sm4 sl5)
def s230 : SV := st3 (sm4 sl6)
def s231 : SV := st3 (sm4 sl7)
def s232 : SV := st3 (sm5 sl0)
def s233 : SV := st3 (sm5 sl1)
def s234 : SV := st3 (sm5 sl2)
def s235 : SV := st3 (sm5 sl3)
def s236 : SV := st3 (sm5 sl4)
def s237 : SV := st3 (sm5 sl5)
def s238 : SV := st3 (sm5 sl6)
def s239 : SV := st3 (sm5 sl7)
def s240 : SV := st3 (sm6 sl0)
def s241 : SV := st3 (sm6 sl1)
def s242 : SV := st3 (sm6 sl2)
def s243 : SV := st3 (sm6 sl3)
def s244 : SV := st3 (sm6 sl4)
def s245 : SV := st3 (sm6 sl5)
def s246 : SV := st3 (sm6 sl6)
def s247 : SV := st3 (sm6 sl7)
def s248 : SV := st3 (sm7 sl0)
def s249 : SV := st3 (sm7 sl1)
def s250 : SV := st3 (sm7 sl2)
def s251 : SV := st3 (sm7 sl3)
def s252 : SV := st3 (sm7 sl4)
def s253 : SV := st3 (sm7 sl5)
def s254 : SV := st3 (sm7 sl6)
def s255 : SV := st3 (sm7 sl7)
def gTree : N8 (N8 (N8 GV)) := ⟨⟨⟨g0, g1, g2, g3, g4, g5, g6, g7⟩, ⟨g8, g9, g10, g11, g12, g13, g14, g15⟩, ⟨g16, g17, g18, g19, g20, g21, g22, g23⟩, ⟨g24, g25, g26, g27, g28, g29, g30, g31⟩, ⟨g32, g33, g34, g35, g36, g37, g38, g39⟩, ⟨g40, g41, g42, g43, g44, g45, g46, g47⟩, ⟨g48, g49, g50, g51, g52, g53, g54, g55⟩, ⟨g56, g57, g58, g59, g60, g61, g62, g63⟩⟩, ⟨⟨g64, g65, g66, g67, g68, g69, g70, g71⟩, ⟨g72, g73, g74, g75, g76, g77, g78, g79⟩, ⟨g80, g81, g82, g83, g84, g85, g86, g87⟩, ⟨g88, g89, g90, g91, g92, g93, g94, g95⟩, ⟨g96, g97, g98, g99, g100, g101, g102, g103⟩, ⟨g104, g105, g106, g107, g108, g109, g110, g111⟩, ⟨g112, g113, g114, g115, g116, g117, g118, g119⟩, ⟨g120, g121, g122, g123, g124, g125, g126, g127⟩⟩, ⟨⟨g128, g129, g130, g131, g132, g133, g134, g135⟩, ⟨g136, g137, g138, g139, g140, g141, g142, g143⟩, ⟨g144, g145, g146, g147, g148, g149, g150, g151⟩, ⟨g152, g153, g154, g155, g156, g157, g158, g159⟩, ⟨g160, g161, g162, g163, g164, g165, g166, g167⟩, ⟨g168, g169, g170, g171, g172, g173, g174, g175⟩, ⟨g176, g177, g178, g179, g180, g181, g182, g183⟩, ⟨g184, g185, g186, g187, g188, g189, g190, g191⟩⟩, ⟨⟨g192, g193, g194, g195, g196, g197, g198, g199⟩, ⟨g200, g201, g202, g203, g204, g205, g206, g207⟩, ⟨g208, g209, g210, g211, g212, g213, g214, g215⟩, ⟨g216, g217, g218, g219, g220, g221, g222, g223⟩, ⟨g224, g225, g226, g227, g228, g229, g230, g231⟩, ⟨g232, g233, g234, g235, g236, g237, g238, g239⟩, ⟨g240, g241, g242, g243, g244, g245, g246, g247⟩, ⟨g248, g249, g250, g251, g252, g253, g254, g255⟩⟩, ⟨⟨g255, g255, g255, g255, g255, g255, g255, g255⟩, ⟨g255, g255, g255, g255, g255, g255, g255, g255⟩, ⟨g255, g255, g255, g255, g255, g255, g255, g255⟩, ⟨g255, g255, g255, g255, g255, g255, g255, g255⟩, ⟨g255, g255, g255, g255, g255, g255, g255, g255⟩, ⟨g255, g255, g255, g255, g255, g255, g255, g255⟩, ⟨g255, g255, g255, g255, g255, g255, g255, g255⟩, ⟨g255, g255, g255, g255, g255, g255, g255, g255⟩⟩, ⟨⟨g255, g255, g255, g255, g255, g255, g255, g255⟩, ⟨g255, g255, g255, g255, g255, g255, g255, g255⟩, ⟨g255, g255, g255, g255, g255, g255, g255, g255⟩, ⟨g255, g255, g255, g255, g255, g255, g255, g255⟩, ⟨g255, g255, g255, g255, g255, g255, g255, g255⟩, ⟨g255, g255, g255, g255, g255, g255, g255, g255⟩, ⟨g255, g255, g255, g255, g255, g255, g255, g255⟩, ⟨g255, g255, g255, g255, g255, g255, g255, g255⟩⟩, ⟨⟨g255, g255, g255, g255, g255, g255, g255, g255⟩, ⟨g255, g255, g255, g255, g255, g255, g255, g255⟩, ⟨g255, g255, g255, g255, g255, g255, g255, g255⟩, ⟨g255, g255, g255, g255, g255, g255, g255, g255⟩, ⟨g255, g255, g255, g255, g255, g255, g255, g255⟩, ⟨g255, g255, g255, g255, g255, g255, g255, g255⟩, ⟨g255, g255, g255, g255, g255, g255, g255, g255⟩, ⟨g255, g255, g255, g255, g255, g255, g255, g255⟩⟩, ⟨⟨g255, g255, g255, g255, g255, g255, g255, g255⟩, ⟨g255, g255, g255, g255, g255, g255, g255, g255⟩, ⟨g255, g255, g255, g255, g255, g255, g255, g255⟩, ⟨g255, g255, g255, g255, g255, g255, g255, g255⟩, ⟨g255, g255, g255, g255, g255, g255, g255, g255⟩, ⟨g255, g255, g255, g255, g255, g255, g255, g255⟩, ⟨g255, g255, g255, g255, g255, g255, g255, g255⟩, ⟨g255, g255, g255, g255, g255, g255, g255, g255⟩⟩⟩
def sTree : N8 (N8 (N8 SV)) := ⟨⟨⟨s0, s1, s2, s3, s4, s5, s6, s7⟩, ⟨s8, s9, s10, s11, s12, s13, s14, s15⟩, ⟨s16, s17, s18, s19, s20, s21, s22, s23⟩, ⟨s24, s25, s26, s27, s28, s29, s30, s31⟩, ⟨s32, s33, s34, s35, s36, s37, s38, s39⟩, ⟨s40, s41, s42, s43, s44, s45, s46, s47⟩, ⟨s48, s49, s50, s51, s52, s53, s54, s55⟩, ⟨s56, s57, s58, s59, s60, s61, s62, s63⟩⟩, ⟨⟨s64, s65, s66, s67, s68, s69, s70, s71⟩, ⟨s72, s73, s74, s75, s76, s77, s78, s79⟩, ⟨s80, s81, s82, s83, s84, s85, s86, s87⟩, ⟨s88, s89, s90, s91, s92, s93, s94, s95⟩, ⟨s96, s97, s98, s99, s100, s101, s102, s103⟩, ⟨s104, s105, s106, s107, s108, s109, s110, s111⟩, ⟨s112, s113, s114, s115, s116, s117, s118, s119⟩, ⟨s120, s121, s122, s123, s124, s125, s126, s127⟩⟩, ⟨⟨s128, s129, s130, s131, s132, s133, s134, s135⟩, ⟨s136, s137, s138, s139, s140, s141, s142, s143⟩, ⟨s144, s145, s146, s147, s148, s149, s150, s151⟩, ⟨s152, s153, s154, s155, s156, s157, s158, s159⟩, ⟨s160, s161, s162, s163, s164, s165, s166, s167⟩, ⟨s168, s169, s170, s171, s172, s173, s174, s175⟩, ⟨s176, s177, s178, s179, s180, s181, s182, s183⟩, ⟨s184, s185, s186, s187, s188, s189, s190, s191⟩⟩, ⟨⟨s192, s193, s194, s195, s196, s197, s198, s199⟩, ⟨s200, s201, s202, s203, s204, s205, s206, s207⟩, ⟨s208, s209, s210, s211, s212, s213, s214, s215⟩, ⟨s216, s217, s218, s219, s220, s221, s222, s223⟩, ⟨s224, s225, s226, s227, s228, s229, s230, s231⟩, ⟨s232, s233, s234, s235, s236, s237, s238, s239⟩, ⟨s240, s241, s242, s243, s244, s245, s246, s247⟩, ⟨s248, s249, s250, s251, s252, s253, s254, s255⟩⟩, ⟨⟨s255, s255, s255, s255, s255, s255, s255, s255⟩, ⟨s255, s255, s255, s255, s255, s255, s255, s255⟩, ⟨s255, s255, s255, s255, s255, s255, s255, s255⟩, ⟨s255, s255, s255, s255, s255, s255, s255, s255⟩, ⟨s255, s255, s255, s255, s255, s255, s255, s255⟩, ⟨s255, s255, s255, s255, s255, s255, s255, s255⟩, ⟨s255, s255, s255, s255, s255, s255, s255, s255⟩, ⟨s255, s255, s255, s255, s255, s255, s255, s255⟩⟩, ⟨⟨s255, s255, s255, s255, s255, s255, s255, s255⟩, ⟨s255, s255, s255, s255, s255, s255, s255, s255⟩, ⟨s255, s255, s255, s255, s255, s255, s255, s255⟩, ⟨s255, s255, s255, s255, s255, s255, s255, s255⟩, ⟨s255, s255, s255, s255, s255, s255, s255, s255⟩, ⟨s255, s255, s255, s255, s255, s255, s255, s255⟩, ⟨s255, s255, s255, s255, s255, s255, s255, s255⟩, ⟨s255, s255, s255, s255, s255, s255, s255, s255⟩⟩, ⟨⟨s255, s255, s255, s255, s255, s255, s255, s255⟩, ⟨s255, s255, s255, s255, s255, s255, s255, s255⟩, ⟨s255, s255, s255, s255, s255, s255, s255, s255⟩, ⟨s255, s255, s255, s255, s255, s255, s255, s255⟩, ⟨s255, s255, s255, s255, s255, s255, s255, s255⟩, ⟨s255, s255, s255, s255, s255, s255, s255, s255⟩, ⟨s255, s255, s255, s255, s255, s255, s255, s255⟩, ⟨s255, s255, s255, s255, s255, s255, s255, s255⟩⟩, ⟨⟨s255, s255, s255, s255, s255, s255, s255, s255⟩, ⟨s255, s255, s255, s255, s255, s255, s255, s255⟩, ⟨s255, s255, s255, s255, s255, s255, s255, s255⟩, ⟨s255, s255, s255, s255, s255, s255, s255, s255⟩, ⟨s255, s255, s255, s255, s255, s255, s255, s255⟩, ⟨s255, s255, s255, s255, s255, s255, s255, s255⟩, ⟨s255, s255, s255, s255, s255, s255, s255, s255⟩, ⟨s255, s255, s255, s255, s255, s255, s255, s255⟩⟩⟩
def N8.at {α : Type} (x : N8 α) (i : Nat) : α := match i with | 0 => x.a0 | 1 => x.a1 | 2 => x.a2 | 3 => x.a3 | 4 => x.a4 | 5 => x.a5 | 6 => x.a6 | _ => x.a7
def gN (i : Nat) : GV := ((gTree.at (i / 64)).at (i / 8 % 8)).at (i % 8)
def sN (i : Nat) : SV := ((sTree.at (i / 64)).at (i / 8 % 8)).at (i % 8)
theorem gN_eq (i : Nat) (h : i < 256) : gN i = gt i := match i, h with
  | 0, _ => rfl
  | 1, _ => rfl
  | 2, _ => rfl
  | 3, _ => rfl
  | 4, _ => rfl
  | 5, _ => rfl
  | 6, _ => rfl
  | 7, _ => rfl
  | 8, _ => rfl
  | 9, _ => rfl
  | 10, _ => rfl
  | 11, _ => rfl
  | 12, _ => rfl
  | 13, _ => rfl
  | 14, _ => rfl
  | 15, _ => rfl
  | 16, _ => rfl
  | 17, _ => rfl
  | 18, _ => rfl
  | 19, _ => rfl
  | 20, _ => rfl
  | 21, _ => rfl
  | 22, _ => rfl
  | 23, _ => rfl
  | 24, _ => rfl
  | 25, _ => rfl
  | 26, _ => rfl
  | 27, _ => rfl
  | 28, _ => rfl
  | 29, _ => rfl
  | 30, _ => rfl
  | 31, _ => rfl
  | 32, _ => rfl
  | 33, _ => rfl
  | 34, _ => rfl
  | 35, _ => rfl
  | 36, _ => rfl
  | 37, _ => rfl
  | 38, _ => rfl
  | 39, _ => rfl
  | 40, _ => rfl
  | 41, _ => rfl
  | 42, _ => rfl
  | 43, _ => rfl
  | 44, _ => rfl
  | 45, _ => rfl
  | 46, _ => rfl
  | 47, _ => rfl
  | 48, _ => rfl
  | 49, _ => rfl
  | 50, _ => rfl
  | 51, _ => rfl
  | 52, _ => rfl
  | 53, _ => rfl
  | 54, _ => rfl
  | 55, _ => rfl
  | 56, _ => rfl
  | 57, _ => rfl
  | 58, _ => rfl
  | 59, _ => rfl
  | 60, _ => rfl
  | 61, _ => rfl
  | 62, _ => rfl
  | 63, _ => rfl
  | 64, _ => rfl
  | 65, _ => rfl
  | 66, _ => rfl
  | 67, _ => rfl
  | 68, _ => rfl
  | 69, _ => rfl
  | 70, _ => rfl
  | 71, _ => rfl
  | 72, _ => rfl
  | 73, _ => rfl
  | 74, _ => rfl
  | 75, _ => rfl
  | 76, _ => rfl
  | 77, _ => rfl
  | 78, _ => rfl
  | 79, _ => rfl
  | 80, _ => rfl
  | 81, _ => rfl
  | 82, _ => rfl
  | 83, _ => rfl
  | 84, _ => rfl
  | 85, _ => rfl
  | 86, _ => rfl
  | 87, _ => rfl
  | 88, _ => rfl
  | 89, _ => rfl
  | 90, _ => rfl
  | 91, _ => rfl
  | 92, _ => rfl
  | 93, _ => rfl
  | 94, _ => rfl
  | 95, _ => rfl
  | 96, _ => rfl
  | 97, _ => rfl
  | 98, _ => rfl
  | 99, _ => rfl
  | 100, _ => rfl
  | 101, _ => rfl
  | 102, _ => rfl
  | 103, _ => rfl
  | 104, _ => rfl
  | 105, _ => rfl
  | 106, _ => rfl
  | 107, _ => rfl
  | 108, _ => rfl
  | 109, _ => rfl
  | 110, _ => rfl
  | 111, _ => rfl
  | 112, _ => rfl
  | 113, _ => rfl
  | 114, _ => rfl
  | 115, _ => rfl
  | 116, _ => rfl
  | 117, _ => rfl
  | 118, _ => rfl
  | 119, _ => rfl
  | 120, _ => rfl
  | 121, _ => rfl
  | 122, _ => rfl
  | 123, _ => rfl
  | 124, _ => rfl
  | 125, _ => rfl
  | 126, _ => rfl
  | 127, _ => rfl
  | 128, _ => rfl
  | 129, _ => rfl
  | 130, _ => rfl
  | 131, _ => rfl
  | 132, _ => rfl
  | 133, _ => rfl
  | 134, _ => rfl
  | 135, _ => rfl
  | 136, _ => rfl
  | 137, _ => rfl
  | 138, _ => rfl
  | 139, _ => rfl
  | 140, _ => rfl
  | 141, _ => rfl
  | 142, _ => rfl
  | 143, _ => rfl
  | 144, _ => rfl
  | 145, _ => rfl
  | 146, _ => rfl
  | 147, _ => rfl
  | 148, _ => rfl
  | 149, _ => rfl
  | 150, _ => rfl
  | 151, _ => rfl
  | 152, _ => rfl
  | 153, _ => rfl
  | 154, _ => rfl
  | 155, _ => rfl
  | 156, _ => rfl
  | 157, _ => rfl
  | 158, _ => rfl
  | 159, _ => rfl
  | 160, _ => rfl
  | 161, _ => rfl
  | 162, _ => rfl
  | 163, _ => rfl
  | 164, _ => rfl
  | 165, _ => rfl
  | 166, _ => rfl
  | 167, _ => rfl
  | 168, _ => rfl
  | 169, _ => rfl
  | 170, _ => rfl
  | 171, _ => rfl
  | 172, _ => rfl
  | 173, _ => rfl
  | 174, _ => rfl
  | 175, _ => rfl
  | 176, _ => rfl
  | 177, _ => rfl
  | 178, _ => rfl
  | 179, _ => rfl
  | 180, _ => rfl
  | 181, _ => rfl
  | 182, _ => rfl
  | 183, _ => rfl
  | 184, _ => rfl
  | 185, _ => rfl
  | 186, _ => rfl
  | 187, _ => rfl
  | 188, _ => rfl
  | 189, _ => rfl
  | 190, _ => rfl
  | 191, _ => rfl
  | 192, _ => rfl
  | 193, _ => rfl
  | 194, _ => rfl
  | 195, _ => rfl
  | 196, _ => rfl
  | 197, _ => rfl
  | 198, _ => rfl
  | 199, _ => rfl
  | 200, _ => rfl
  | 201, _ => rfl
  | 202, _ => rfl
  | 203, _ => rfl
  | 204, _ => rfl
  | 205, _ => rfl
  | 206, _ => rfl
  | 207, _ => rfl
  | 208, _ => rfl
  | 209, _ => rfl
  | 210, _ => rfl
  | 211, _ => rfl
  | 212, _ => rfl
  | 213, _ => rfl
  | 214, _ => rfl
  | 215, _ => rfl
  | 216, _ => rfl
  | 217, _ => rfl
  | 218, _ => rfl
  | 219, _ => rfl
  | 220, _ => rfl
  | 221, _ => rfl
  | 222, _ => rfl
  | 223, _ => rfl
  | 224, _ => rfl
  | 225, _ => rfl
  | 226, _ => rfl
  | 227, _ => rfl
  | 228, _ => rfl
  | 229, _ => rfl
  | 230, _ => rfl
  | 231, _ => rfl
  | 232, _ => rfl
  | 233, _ => rfl
  | 234, _ => rfl
  | 235, _ => rfl
  | 236, _ => rfl
  | 237, _ => rfl
  | 238, _ => rfl
  | 239, _ => rfl
  | 240, _ => rfl
  | 241, _ => rfl
  | 242, _ => rfl
  | 243, _ => rfl
  | 244, _ => rfl
  | 245, _ => rfl
  | 246, _ => rfl
  | 247, _ => rfl
  | 248, _ => rfl
  | 249, _ => rfl
  | 250, _ => rfl
  | 251, _ => rfl
  | 252, _ => rfl
  | 253, _ => rfl
  | 254, _ => rfl
  | 255, _ => rfl
  | n + 256, h => absurd h (by omega)
theorem sN_eq (i : Nat) (h : i < 256) : sN i = st i := match i, h with
  | 0, _ => rfl
  | 1, _ => rfl
  | 2, _ => rfl
  | 3, _ => rfl
  | 4, _ => rfl
  | 5, _ => rfl
  | 6, _ => rfl
  | 7, _ => rfl
  | 8, _ => rfl
  | 9, _ => rfl
  | 10, _ => rfl
  | 11, _ => rfl
  | 12, _ => rfl
  | 13, _ => rfl
  | 14, _ => rfl
  | 15, _ => rfl
  | 16, _ => rfl
  | 17, _ => rfl
  | 18, _ => rfl
  | 19, _ => rfl
  | 20, _ => rfl
  | 21, _ => rfl
  | 22, _ => rfl
  | 23, _ => rfl
  | 24, _ => rfl
  | 25, _ => rfl
  | 26, _ => rfl
  | 27, _ => rfl
  | 28, _ => rfl
  | 29, _ => rfl
  | 30, _ => rfl
  | 31, _ => rfl
  | 32, _ => rfl
  | 33, _ => rfl
  | 34, _ => rfl
  | 35, _ => rfl
  | 36, _ => rfl
  | 37, _ => rfl
  | 38, _ => rfl
  | 39, _ => rfl
  | 40, _ => rfl
  | 41, _ => rfl
  | 42, _ => rfl
  | 43, _ => rfl
  | 44, _ => rfl
  | 45, _ => rfl
  | 46, _ => rfl
  | 47, _ => rfl
  | 48, _ => rfl
  | 49, _ => rfl
  | 50, _ => rfl
  | 51, _ => rfl
  | 52, _ => rfl
  | 53, _ => rfl
  | 54, _ => rfl
  | 55, _ => rfl
  | 56, _ => rfl
  | 57, _ => rfl
  | 58, _ => rfl
  | 59, _ => rfl
  | 60, _ => rfl
  | 61, _ => rfl
  | 62, _ => rfl
  | 63, _ => rfl
  | 64, _ => rfl
  | 65, _ => rfl
  | 66, _ => rfl
  | 67, _ => rfl
  | 68, _ => rfl
  | 69, _ => rfl
  | 70, _ => rfl
  | 71, _ => rfl
  | 72, _ => rfl
  | 73, _ => rfl
  | 74, _ => rfl
  | 75, _ => rfl
  | 76, _ => rfl
  | 77, _ => rfl
  | 78, _ => rfl
  | 79, _ => rfl
  | 80, _ => rfl
  | 81, _ => rfl
  | 82, _ => rfl
  | 83, _ => rfl
  | 84, _ => rfl
  | 85, _ => rfl
  | 86, _ => rfl
  | 87, _ => rfl
  | 88, _ => rfl
  | 89, _ => rfl
  | 90, _ => rfl
  | 91, _ => rfl
  | 92, _ => rfl
  | 93, _ => rfl
  | 94, _ => rfl
  | 95, _ => rfl
  | 96, _ => rfl
  | 97, _ => rfl
  | 98, _ => rfl
  | 99, _ => rfl
  | 100, _ => rfl
  | 101, _ => rfl
  | 102, _ => rfl
  | 103, _ => rfl
  | 104, _ => rfl
  | 105, _ => rfl
  | 106, _ => rfl
  | 107, _ => rfl
  | 108, _ => rfl
  | 109, _ => rfl
  | 110, _ => rfl
  | 111, _ => rfl
  | 112, _ => rfl
  | 113, _ => rfl
  | 114, _ => rfl
  | 115, _ => rfl
  | 116, _ => rfl
  | 117, _ => rfl
  | 118, _ => rfl
  | 119, _ => rfl
  | 120, _ => rfl
  | 121, _ => rfl
  | 122, _ => rfl
  | 123, _ => rfl
  | 124, _ => rfl
  | 125, _ => rfl
  | 126, _ => rfl
  | 127, _ => rfl
  | 128, _ => rfl
  | 129, _ => rfl
  | 130, _ => rfl
  | 131, _ => rfl
  | 132, _ => rfl
  | 133, _ => rfl
  | 134, _ => rfl
  | 135, _ => rfl
  | 136, _ => rfl
  | 137, _ => rfl
  | 138, _ => rfl
  | 139, _ => rfl
  | 140, _ => rfl
  | 141, _ => rfl
  | 142, _ => rfl
  | 143, _ => rfl
  | 144, _ => rfl
  | 145, _ => rfl
  | 146, _ => rfl
  | 147, _ => rfl
  | 148, _ => rfl
  | 149, _ => rfl
  | 150, _ => rfl
  | 151, _ => rfl
  | 152, _ => rfl
  | 153, _ => rfl
  | 154, _ => rfl
  | 155, _ => rfl
  | 156, _ => rfl
  | 157, _ => rfl
  | 158, _ => rfl
  | 159, _ => rfl
  | 160, _ => rfl
  | 161, _ => rfl
  | 162, _ => rfl
  | 163, _ => rfl
  | 164, _ => rfl
  | 165, _ => rfl
  | 166, _ => rfl
  | 167, _ => rfl
  | 168, _ => rfl
  | 169, _ => rfl
  | 170, _ => rfl
  | 171, _ => rfl
  | 172, _ => rfl
  | 173, _ => rfl
  | 174, _ => rfl
  | 175, _ => rfl
  | 176, _ => rfl
  | 177, _ => rfl
  | 178, _ => rfl
  | 179, _ => rfl
  | 180, _ => rfl
  | 181, _ => rfl
  | 182, _ => rfl
  | 183, _ => rfl
  | 184, _ => rfl
  | 185, _ => rfl
  | 186, _ => rfl
  | 187, _ => rfl
  | 188, _ => rfl
  | 189, _ => rfl
  | 190, _ => rfl
  | 191, _ => rfl
  | 192, _ => rfl
  | 193, _ => rfl
  | 194, _ => rfl
  | 195, _ => rfl
  | 196, _ => rfl
  | 197, _ => rfl
  | 198, _ => rfl
  | 199, _ => rfl
  | 200, _ => rfl
  | 201, _ => rfl
  | 202, _ => rfl
  | 203, _ => rfl
  | 204, _ => rfl
  | 205, _ => rfl
  | 206, _ => rfl
  | 207, _ => rfl
  | 208, _ => rfl
  | 209, _ => rfl
  | 210, _ => rfl
  | 211, _ => rfl
  | 212, _ => rfl
  | 213, _ => rfl
  | 214, _ => rfl
  | 215, _ => rfl
  | 216, _ => rfl
  | 217, _ => rfl
  | 218, _ => rfl
  | 219, _ => rfl
  | 220, _ => rfl
  | 221, _ => rfl
  | 222, _ => rfl
  | 223, _ => rfl
  | 224, _ => rfl
  | 225, _ => rfl
  | 226, _ => rfl
  | 227, _ => rfl
  | 228, _ => rfl
  | 229, _ => rfl
  | 230, _ => rfl
  | 231, _ => rfl
  | 232, _ => rfl
  | 233, _ => rfl
  | 234, _ => rfl
  | 235, _ => rfl
  | 236, _ => rfl
  | 237, _ => rfl
  | 238, _ => rfl
  | 239, _ => rfl
  | 240, _ => rfl
  | 241, _ => rfl
  | 242, _ => rfl
  | 243, _ => rfl
  | 244, _ => rfl
  | 245, _ => rfl
  | 246, _ => rfl
  | 247, _ => rfl
  | 248, _ => rfl
  | 249, _ => rfl
  | 250, _ => rfl
  | 251, _ => rfl
  | 252, _ => rfl
  | 253, _ => rfl
  | 254, _ => rfl
  | 255, _ => rfl
  | n + 256, h => absurd h (by omega)
def u8 : F8 := ⟨undefA, undefA, undefA, undefA, undefA, undefA, undefA, undefA⟩
def u64 : F64 := ⟨u8, u8, u8, u8, u8, u8, u8, u8⟩
def u0 : Fr := ⟨u64, u64, u64, u64⟩
theorem u0_get (i : Nat) : u0.get i = undefA := by
  have h : ∀ n, u8.at n = undefA := fun i => match i with | 0 => rfl | 1 => rfl | 2 => rfl | 3 => rfl | 4 => rfl | 5 => rfl | 6 => rfl | _ + 7 => rfl
  have h2 : ∀ n, u64.at n = u8 := fun i => match i with | 0 => rfl | 1 => rfl | 2 => rfl | 3 => rfl | 4 => rfl | 5 => rfl | 6 => rfl | _ + 7 => rfl
  have h3 : ∀ n, u0.at n = u64 := fun i => match i with | 0 => rfl | 1 => rfl | 2 => rfl | _ + 3 => rfl
  simp only [Fr.get, h, h2, h3]
end
end Go.Abs.F
