/- Part of a proof (H7 H8 H9 H10 HQ); no condition. -/
import Derived.Test.YthdkgakoogjoaaaP14
set_option linter.unusedSimpArgs false
set_option linter.unusedVariables false
set_option linter.unnecessarySimpa false
/- Http: the end of the headers; headers' lines; lines that ended; one byte; many: the contracts. -/
namespace Go.Proofs.Ht
open Go.Abs Go.Abs.S
set_option linter.unusedSimpArgs false
section
variable {n : Nat} {τ : Nat → Nat} {H : AHeap} {p : Nat} {s : PS} {rd : List Rq}
theorem values_le (hs : List (Bs × Bs)) (name : Bs) : (valuesF hs name).length ≤ hs.length := by
  unfold valuesF; rw [List.length_map]; exact List.length_filter_le _ _
theorem values_mem {hs : List (Bs × Bs)} {name v : Bs} {k : Nat} (h : v ∈ valuesF hs name) (he : ∀ h ∈ hs, h.1.length ≤ k ∧ h.2.length ≤ k) : v.length ≤ k := by
  unfold valuesF at h
  obtain ⟨x, hx, rfl⟩ := List.mem_map.1 h
  exact (he x (List.mem_filter.1 hx).1).2
theorem fst_of_one {l : List Bs} (h : l.length = 1) : ∃ x, l = [x] := by
  match l, h with
  | [x], _ => exact ⟨x, rfl⟩
/-- close words of values, one behind the other -/
def clF (c : Bool) (l : List Bs) : Bool := l.foldl (fun c v => c || closesF v) c
theorem clF_snoc (c : Bool) (l : List Bs) (v : Bs) : clF c (l ++ [v]) = (clF c l || closesF v) := by simp [clF, List.foldl_append]
/-- what stands behind the length and the coding -/
def goF (s : PS) (m : Nat) : Out :=
  let s' : PS := { s with now := { s.now with close := clF s.now.close (valuesF s.now.hs conN) }, need := m }
  if (valuesF s.now.hs teN).length = 1 then ({ s' with st := 3 }, [], 0)
  else if 0 < m then ({ s' with st := 2 }, [], 0)
  else ((wholeF s').1, (wholeF s').2, 0)
theorem hdrsend_tail {vl vh vb vr : AVal} {H' : AHeap} (P : PV n τ H' p s rd vl vh vb vr) (F : Ext H.next H H') {k : Nat} (B : Bd k s) (hst : s.st = 1) (hk : k ≤ 1000000) (hrd : rd.length ≤ 1000000) {m : Nat} (hm : m ≤ 65536) {T : Env} {v4 : AVal} (g0 : T 0 = cellR p 15 0) (g4 : T 4 = v4) (h4 : Cel H'.next H' v4 (strs (valuesF s.now.hs teN))) (g5 : T 5 = .int .i64 (m : Int)) :
    wp (ACalls Try.prog natH) (hold (restAt 6 c50.body)) (fin c50.res (Told τ H p rd (goF s m))) T H' := by
  simp only [c50, restAt, hold_eq, sW, sL, aw_block, sXs, sXO, sXP, Int.reduceNegSucc, reduceCtorEq, Nat.reduceEqDiff, ↓reduceIte, Nat.reduceAdd, Int.reduceEq, Int.reduceLT, Int.reduceLE, g0, g4, g5]
  have bh := B.hs
  refine (values_spec P [99, 111, 110, 110, 101, 99, 116, 105, 111, 110] (by omega)).mono ?_
  rintro v H1 ⟨hC, hge, E1⟩
  have nn := P.nn
  have P1 := P.ext E1.next fun c hc => E1.old c (by omega)
  have F1 := F.trans (E1.less F.next)
  obtain ⟨cv, hcv⟩ : ∃ cv, cv = valuesF s.now.hs conN := ⟨_, rfl⟩
  have hC : Cel H1.next H1 v (strs cv) := by rw [hcv]; exact hC
  have hlen : aLenK false v = some (.int .i64 (cv.length : Int)) := by have := hC.len; rwa [strs_len] at this
  have hcl : cv.length ≤ 1000000 := by rw [hcv]; have := values_le s.now.hs conN; omega
  simp only [sW, sL, aw_block, sXs, sXO, sXP, Int.reduceNegSucc, reduceCtorEq, Nat.reduceEqDiff, ↓reduceIte, Nat.reduceAdd, Int.reduceEq, Int.reduceLT, Int.reduceLE, hlen]
  have h4' : Cel H1.next H1 v4 (strs (valuesF s.now.hs teN)) := (h4.ext E1).more E1.next
  refine aw_loop (fun q (T2 : Env) H2 => ∃ j : Nat, j ≤ cv.length ∧ q = cv.length - j ∧ T2 0 = cellR p 15 0 ∧ T2 4 = v4 ∧ T2 5 = .int .i64 (m : Int) ∧ T2 52 = v ∧ T2 53 = .int .i64 (cv.length : Int) ∧ T2 54 = .int .i64 (j : Int) ∧ PV n τ H2 p { s with now := { s.now with close := clF s.now.close (cv.take j) } } rd vl vh vb vr ∧ H1.next ≤ H2.next ∧ (∀ c, c < H1.next → c ≠ p → H2.get c = H1.get c)) cv.length
    ⟨0, Nat.zero_le _, rfl, by simp only [sW, sL, aw_block, sXs, sXO, sXP, Int.reduceNegSucc, reduceCtorEq, Nat.reduceEqDiff, ↓reduceIte, Nat.reduceAdd, Int.reduceEq, Int.reduceLT, Int.reduceLE, g0]; try rfl, by simp only [sW, sL, aw_block, sXs, sXO, sXP, Int.reduceNegSucc, reduceCtorEq, Nat.reduceEqDiff, ↓reduceIte, Nat.reduceAdd, Int.reduceEq, Int.reduceLT, Int.reduceLE, g4]; try rfl, by simp only [sW, sL, aw_block, sXs, sXO, sXP, Int.reduceNegSucc, reduceCtorEq, Nat.reduceEqDiff, ↓reduceIte, Nat.reduceAdd, Int.reduceEq, Int.reduceLT, Int.reduceLE, g5]; try rfl, by simp only [sW, sL, aw_block, sXs, sXO, sXP, Int.reduceNegSucc, reduceCtorEq, Nat.reduceEqDiff, ↓reduceIte, Nat.reduceAdd, Int.reduceEq, Int.reduceLT, Int.reduceLE]; try rfl, by simp only [sW, sL, aw_block, sXs, sXO, sXP, Int.reduceNegSucc, reduceCtorEq, Nat.reduceEqDiff, ↓reduceIte, Nat.reduceAdd, Int.reduceEq, Int.reduceLT, Int.reduceLE]; try rfl, by simp only [sW, sL, aw_block, sXs, sXO, sXP, Int.reduceNegSucc, reduceCtorEq, Nat.reduceEqDiff, ↓reduceIte, Nat.reduceAdd, Int.reduceEq, Int.reduceLT, Int.reduceLE]; try rfl, P1, Nat.le_refl _, fun _ _ _ => rfl⟩ ?_
  rintro q T2 H2 ⟨j, hj, rfl, f0, f4, f5, f52, f53, f54, P2, n2, o2⟩
  have pn := P.pn
  -- what was there ahead of this lies elsewhere
  have hbk : Blk v fun b => b ≠ p := hge.mono fun b hb => by omega
  have hC2 : Cel H2.next H2 v (strs cv) := hC.fr n2 ((hC.bl.and hbk).mono fun b hb => o2 b hb.1 hb.2)
  by_cases hlt : j < cv.length
  · have hlt' : (j : Int) < (cv.length : Int) := by omega
    obtain ⟨x, hx⟩ := isSome_of_lt hlt
    have hxl : x.length ≤ 1000000 := by
      have := List.mem_of_getElem? hx
      rw [hcv] at this
      have := values_mem this B.he
      omega
    obtain ⟨_, _, _, _, _, _, _, l9, _⟩ := P2.lds
    have nx : ∀ b : Bool, (clF s.now.close (cv.take j) || closesF x) = b → clF s.now.close (cv.take (j + 1)) = b := fun b h => by
      rw [List.take_add_one, hx, Option.toList_some, clF_snoc]; exact h
    simp only [sW, sL, aw_block, sXs, sXO, sXP, Int.reduceNegSucc, reduceCtorEq, Nat.reduceEqDiff, ↓reduceIte, Nat.reduceAdd, Int.reduceEq, Int.reduceLT, Int.reduceLE, f0, f4, f5, f52, f53, f54, hlt', hC2.idx .i64 (show j < (strs cv).length by rw [strs_len]; exact hlt), hC2.load (strs_get hx), nil_cell, fldA, l9]
    cases hc : clF s.now.close (cv.take j) with
    | true =>
      obtain ⟨H3, m3, r3, k3, o3⟩ := row_st P2.row (n := 15) rfl (i := 9) (by omega) (x := .bool true) rfl rfl
      simp only [sW, sL, aw_block, sXs, sXO, sXP, Int.reduceNegSucc, reduceCtorEq, Nat.reduceEqDiff, ↓reduceIte, Nat.reduceAdd, Int.reduceEq, Int.reduceLT, Int.reduceLE, nil_cell, fldA, m3, f54, wrap1 j (by omega)]
      have r3' : Row H3 p (pC p { s with now := { s.now with close := clF s.now.close (cv.take (j + 1)) } } vl vh vb vr (szF rd)) := by
        rw [nx true (by rw [hc]; rfl)]; exact r3
      refine ⟨_, by omega, j + 1, by omega, rfl, (by first | trivial | rfl | assumption), (by first | trivial | rfl | assumption), (by first | trivial | rfl | assumption), (by first | trivial | rfl | assumption), (by first | trivial | rfl | assumption), (by first | trivial | rfl | assumption), P2.own r3' k3 o3 rfl rfl rfl, by omega, fun c hc hcp => by rw [o3 c hcp]; exact o2 c hc hcp⟩
    | false =>
      simp only [sW, sL, aw_block, sXs, sXO, sXP, Int.reduceNegSucc, reduceCtorEq, Nat.reduceEqDiff, ↓reduceIte, Nat.reduceAdd, Int.reduceEq, Int.reduceLT, Int.reduceLE, f0, f4, f5, f52, f53, f54]
      refine (closes_spec x hxl).mono ?_
      rintro w H3 ⟨rfl, E3⟩
      have nn2 := P2.nn
      have P3 := P2.ext E3.next fun c hc => E3.old c (by omega)
      obtain ⟨H4, m4, r4, k4, o4⟩ := row_st P3.row (n := 15) rfl (i := 9) (by omega) (x := .bool (closesF x)) rfl rfl
      have n3 := E3.next
      simp only [sW, sL, aw_block, sXs, sXO, sXP, Int.reduceNegSucc, reduceCtorEq, Nat.reduceEqDiff, ↓reduceIte, Nat.reduceAdd, Int.reduceEq, Int.reduceLT, Int.reduceLE, nil_cell, fldA, m4, f0, f4, f5, f52, f53, f54, wrap1 j (by omega)]
      have r4' : Row H4 p (pC p { s with now := { s.now with close := clF s.now.close (cv.take (j + 1)) } } vl vh vb vr (szF rd)) := by
        rw [nx (closesF x) (by rw [hc]; rfl)]; exact r4
      refine ⟨_, by omega, j + 1, by omega, rfl, (by first | trivial | rfl | assumption), (by first | trivial | rfl | assumption), (by first | trivial | rfl | assumption), (by first | trivial | rfl | assumption), (by first | trivial | rfl | assumption), (by first | trivial | rfl | assumption), P3.own r4' k4 o4 rfl rfl rfl, by omega, fun c hc hcp => by rw [o4 c hcp, E3.old c (by omega)]; exact o2 c hc hcp⟩
  · have hlt' : ¬ (j : Int) < (cv.length : Int) := by omega
    have hj : j = cv.length := by omega
    subst hj
    rw [List.take_length, hcv] at P2
    obtain ⟨H3, m3, r3, k3, o3⟩ := row_st P2.row (n := 15) rfl (i := 10) (by omega) (x := .int .i64 (m : Int)) rfl rfl
    have P3 : PV n τ H3 p { s with now := { s.now with close := clF s.now.close (valuesF s.now.hs conN) }, need := m } rd vl vh vb vr := P2.own (s' := { s with now := { s.now with close := clF s.now.close (valuesF s.now.hs conN) }, need := m }) r3 k3 o3 rfl rfl rfl
    have tp := P.tp
    have F3 : Fr τ H τ H3 := ⟨by have := F1.next; omega, fun c hc h0 => ⟨rfl, by
      have hcp : c ≠ p := by rintro rfl; omega
      rw [o3 c hcp, o2 c (by have := F1.next; omega) hcp]; exact F1.old c hc⟩⟩
    have h4l : aLenK false v4 = some (.int .i64 ((valuesF s.now.hs teN).length : Int)) := by have := h4.len; rwa [strs_len] at this
    by_cases ht : (valuesF s.now.hs teN).length = 1
    · have ht' : ((valuesF s.now.hs teN).length : Int) = 1 := by omega
      obtain ⟨H4, m4, r4, k4, o4⟩ := row_st P3.row (n := 15) rfl (i := 1) (by omega) (x := .int .i64 3) rfl rfl
      simp only [sW, sL, aw_block, sXs, sXO, sXP, Int.reduceNegSucc, reduceCtorEq, Nat.reduceEqDiff, ↓reduceIte, Nat.reduceAdd, Int.reduceEq, Int.reduceLT, Int.reduceLE, f0, f4, f5, f52, f53, f54, hlt', nil_cell, fldA, m3, h4l, ht', m4]
      have e : goF s m = ({ s with now := { s.now with close := clF s.now.close (valuesF s.now.hs conN) }, need := m, st := 3 }, [], 0) := by simp [goF, ht]
      rw [e]
      exact told_own (P3.own (s' := { s with now := { s.now with close := clF s.now.close (valuesF s.now.hs conN) }, need := m, st := 3 }) r4 k4 o4 rfl rfl rfl) (F3.trans (fr_own P3 k4 o4)) 0
    · have ht' : ¬ ((valuesF s.now.hs teN).length : Int) = 1 := by omega
      by_cases hm0 : 0 < m
      · have hm0' : (0 : Int) < (m : Int) := by omega
        obtain ⟨H4, m4, r4, k4, o4⟩ := row_st P3.row (n := 15) rfl (i := 1) (by omega) (x := .int .i64 2) rfl rfl
        simp only [sW, sL, aw_block, sXs, sXO, sXP, Int.reduceNegSucc, reduceCtorEq, Nat.reduceEqDiff, ↓reduceIte, Nat.reduceAdd, Int.reduceEq, Int.reduceLT, Int.reduceLE, f0, f4, f5, f52, f53, f54, hlt', nil_cell, fldA, m3, h4l, ht', hm0', m4]
        have e : goF s m = ({ s with now := { s.now with close := clF s.now.close (valuesF s.now.hs conN) }, need := m, st := 2 }, [], 0) := by simp [goF, ht, hm0]
        rw [e]
        exact told_own (P3.own (s' := { s with now := { s.now with close := clF s.now.close (valuesF s.now.hs conN) }, need := m, st := 2 }) r4 k4 o4 rfl rfl rfl) (F3.trans (fr_own P3 k4 o4)) 0
      · have hm0' : ¬ (0 : Int) < (m : Int) := by omega
        simp only [sW, sL, aw_block, sXs, sXO, sXP, Int.reduceNegSucc, reduceCtorEq, Nat.reduceEqDiff, ↓reduceIte, Nat.reduceAdd, Int.reduceEq, Int.reduceLT, Int.reduceLE, f0, f4, f5, f52, f53, f54, hlt', nil_cell, fldA, m3, h4l, ht', hm0']
        have B3 : Bd k { s with now := { s.now with close := clF s.now.close (valuesF s.now.hs conN) }, need := m } := ⟨B.st, B.fault, B.line, B.m, B.t, B.body, B.hs, B.he, B.trailers, B.fed, by simp only; omega, fun h => by simp only [hst] at h; omega⟩
        refine (whole_spec ⟨_, _, _, _, P3⟩ B3.bm hk hrd).mono ?_
        rintro w H4 ⟨τ', q1, q2⟩
        simp only [sW, sL, aw_block, sXs, sXO, sXP, Int.reduceNegSucc, reduceCtorEq, Nat.reduceEqDiff, ↓reduceIte, Nat.reduceAdd, Int.reduceEq, Int.reduceLT, Int.reduceLE]
        have e : goF s m = ((wholeF { s with now := { s.now with close := clF s.now.close (valuesF s.now.hs conN) }, need := m }).1, (wholeF { s with now := { s.now with close := clF s.now.close (valuesF s.now.hs conN) }, need := m }).2, 0) := by simp [goF, ht, hm0]
        rw [e]
        exact ⟨rfl, τ', q1, F3.trans q2⟩
theorem hdrsend_spec (P : PR n τ H p s rd) {k : Nat} (B : Bd k s) (hst : s.st = 1) (hk : k ≤ 1000000) (hrd : rd.length ≤ 1000000) :
    ACalls Try.prog natH 50 [cellR p 15 0] H (Told τ H p rd (headersEndF s)) := by
  obtain ⟨vl, vh, vb, vr, P⟩ := P
  refine acalls_ofN rfl za50 rfl ?_
  refine wp_cutAt 4 ?_
  have bh := B.hs
  simp only [c50, cutAt_0, cutAt_s, sW, sL, aw_block, sXs, sXO, sXP, Int.reduceNegSucc, reduceCtorEq, Nat.reduceEqDiff, ↓reduceIte, Nat.reduceAdd, Int.reduceEq, Int.reduceLT, Int.reduceLE]
  refine (values_spec P [99, 111, 110, 116, 101, 110, 116, 45, 108, 101, 110, 103, 116, 104] (by omega)).mono ?_
  rintro v3 H1 ⟨C3, g3, E1⟩
  have nn := P.nn
  have P1 := P.ext E1.next fun c hc => E1.old c (by omega)
  simp only [sW, sL, aw_block, sXs, sXO, sXP, Int.reduceNegSucc, reduceCtorEq, Nat.reduceEqDiff, ↓reduceIte, Nat.reduceAdd, Int.reduceEq, Int.reduceLT, Int.reduceLE]
  refine (values_spec P1 [116, 114, 97, 110, 115, 102, 101, 114, 45, 101, 110, 99, 111, 100, 105, 110, 103] (by omega)).mono ?_
  rintro v4 H2 ⟨C4, g4, E2⟩
  have P2 := P1.ext E2.next fun c hc => E2.old c (by have := E1.next; omega)
  simp only [sW, sL, aw_block, sXs, sXO, sXP, Int.reduceNegSucc, reduceCtorEq, Nat.reduceEqDiff, ↓reduceIte, Nat.reduceAdd, Int.reduceEq, Int.reduceLT, Int.reduceLE]
  refine (values_spec P2 [104, 111, 115, 116] (by omega)).mono ?_
  rintro v5 H3 ⟨C5, g5, E3⟩
  have n1 := E1.next
  have n2 := E2.next
  have n3 := E3.next
  have P3 := P2.ext E3.next fun c hc => E3.old c (by omega)
  have E13 : Ext H.next H H3 := (E1.trans (E2.less n1)).trans (E3.less (by omega))
  have C3' : Cel H3.next H3 v3 (strs (valuesF s.now.hs clN)) := ((C3.ext E2).ext (E3.less n2)).more (by omega)
  have C4' : Cel H3.next H3 v4 (strs (valuesF s.now.hs teN)) := (C4.ext E3).more (by omega)
  have C5' : Cel H3.next H3 v5 (strs (valuesF s.now.hs hostN)) := C5
  have e3 : aLenK false v3 = some (.int .i64 ((valuesF s.now.hs clN).length : Int)) := by have := C3'.len; rwa [strs_len] at this
  have e4 : aLenK false v4 = some (.int .i64 ((valuesF s.now.hs teN).length : Int)) := by have := C4'.len; rwa [strs_len] at this
  have e5 : aLenK false v5 = some (.int .i64 ((valuesF s.now.hs hostN).length : Int)) := by have := C5'.len; rwa [strs_len] at this
  have m3 := values_le s.now.hs clN
  have m4 := values_le s.now.hs teN
  have m5 := values_le s.now.hs hostN
  have w34 := wrapN (valuesF s.now.hs clN).length (valuesF s.now.hs teN).length (by omega)
  have stay : ∀ (H' : AHeap) (e : Nat), Ext H.next H H' → headersEndF s = (s, [], e) → Told τ H p rd (headersEndF s) (.int .i64 (e : Int)) H' := fun H' e F h => by
    rw [h]; exact told_own (P.ext F.next fun c hc => F.old c (by omega)) (Fr.of_ext F) e
  by_cases hh0 : ¬ (valuesF s.now.hs hostN).length = 1
  · have hh := hh0
    have hh' : ¬ ((valuesF s.now.hs hostN).length : Int) = 1 := by omega
    simp only [sW, sL, aw_block, sXs, sXO, sXP, Int.reduceNegSucc, reduceCtorEq, Nat.reduceEqDiff, ↓reduceIte, Nat.reduceAdd, Int.reduceEq, Int.reduceLT, Int.reduceLE, e5, hh']
    exact stay H3 21 E13 (by unfold headersEndF; exact if_pos (.inl hh))
  have hh : (valuesF s.now.hs hostN).length = 1 := Classical.not_not.1 hh0
  have hh' : ((valuesF s.now.hs hostN).length : Int) = 1 := by omega
  by_cases hs : 1 < (valuesF s.now.hs clN).length + (valuesF s.now.hs teN).length
  · have hs' : (1 : Int) < (((valuesF s.now.hs clN).length + (valuesF s.now.hs teN).length : Nat) : Int) := by omega
    simp only [sW, sL, aw_block, sXs, sXO, sXP, Int.reduceNegSucc, reduceCtorEq, Nat.reduceEqDiff, ↓reduceIte, Nat.reduceAdd, Int.reduceEq, Int.reduceLT, Int.reduceLE, e5, hh', e3, e4, w34, hs']
    exact stay H3 21 E13 (by unfold headersEndF; exact if_pos (.inr hs))
  have hs' : ¬ (1 : Int) < (((valuesF s.now.hs clN).length + (valuesF s.now.hs teN).length : Nat) : Int) := by omega
  have hn1 : ¬ ((valuesF s.now.hs hostN).length ≠ 1 ∨ 1 < (valuesF s.now.hs clN).length + (valuesF s.now.hs teN).length) := by omega
  have pn := P.pn
  have he := B.he
  have hgo : ∀ m, goF s m = goF s m := fun _ => rfl
  -- behind the codings
  have part : ∀ (T : Env) (H4 : AHeap), Ext H.next H H4 → Ext H3.next H3 H4 → T 0 = cellR p 15 0 → T 3 = v3 → T 4 = v4 → (¬ ((valuesF s.now.hs teN).length = 1 ∧ low ((valuesF s.now.hs teN).headD []) ≠ chW)) →
      wp (ACalls Try.prog natH) (hold (restAt 4 c50.body)) (fin c50.res (Told τ H p rd (headersEndF s))) T H4 := by
    intro T H4 F4 E4 f0 f3 f4 hn2
    rw [hold_eq]
    refine wp_cutAt 2 ?_
    have C3b := C3'.ext E4
    have C4b := (C4'.ext E4).more E4.next
    have P4 := P.ext F4.next fun c hc => F4.old c (by omega)
    by_cases hl : (valuesF s.now.hs clN).length = 1
    · obtain ⟨x, hx⟩ := fst_of_one hl
      have hxl : x.length ≤ 1000000 := by
        have := values_mem (hs := s.now.hs) (name := clN) (v := x) (by rw [hx]; simp) he
        omega
      have hl' : ((valuesF s.now.hs clN).length : Int) = 1 := by omega
      have ix := C3b.idx .i64 (i := 0) (by rw [strs_len]; omega)
      have lx := C3b.load (i := 0) (x := .str x) (by rw [hx]; rfl)
      simp only [Int.natCast_zero] at ix
      simp only [c50, restAt, cutAt_0, cutAt_s, sW, sL, aw_block, sXs, sXO, sXP, Int.reduceNegSucc, reduceCtorEq, Nat.reduceEqDiff, ↓reduceIte, Nat.reduceAdd, Int.reduceEq, Int.reduceLT, Int.reduceLE, f0, f3, f4, e3, hl', ix, lx]
      refine (number_spec x hxl).mono ?_
      rintro w _ ⟨rfl, rfl⟩
      have ex : headersEndF s = (match numberF x with | none => (s, [], 21) | some n => if 65536 < n then (s, [], 3) else goF s n) := by
        unfold headersEndF
        simp only
        rw [if_neg hn1, if_neg hn2, if_pos hl, hx]
        rfl
      cases hnx : numberF x with
      | none =>
        simp only [numV, sW, sL, aw_block, sXs, sXO, sXP, Int.reduceNegSucc, reduceCtorEq, Nat.reduceEqDiff, ↓reduceIte, Nat.reduceAdd, Int.reduceEq, Int.reduceLT, Int.reduceLE, ext_0, ext_1, f0, f3, f4]
        exact stay H4 21 F4 (by rw [ex, hnx])
      | some m =>
        rw [hnx] at ex
        simp only at ex
        by_cases hb : 65536 < m
        · have hb' : (65536 : Int) < (m : Int) := by omega
          simp only [numV, sW, sL, aw_block, sXs, sXO, sXP, Int.reduceNegSucc, reduceCtorEq, Nat.reduceEqDiff, ↓reduceIte, Nat.reduceAdd, Int.reduceEq, Int.reduceLT, Int.reduceLE, ext_0, ext_1, f0, f3, f4, hb']
          exact stay H4 3 F4 (by rw [ex, if_pos hb])
        · have hb' : ¬ (65536 : Int) < (m : Int) := by omega
          simp only [numV, sW, sL, aw_block, sXs, sXO, sXP, Int.reduceNegSucc, reduceCtorEq, Nat.reduceEqDiff, ↓reduceIte, Nat.reduceAdd, Int.reduceEq, Int.reduceLT, Int.reduceLE, ext_0, ext_1, f0, f3, f4, hb']
          rw [ex, if_neg hb]
          exact hdrsend_tail P4 F4 B hst hk hrd (by omega) (by simp only [sW, sL, aw_block, sXs, sXO, sXP, Int.reduceNegSucc, reduceCtorEq, Nat.reduceEqDiff, ↓reduceIte, Nat.reduceAdd, Int.reduceEq, Int.reduceLT, Int.reduceLE, f0]) (v4 := v4) (by simp only [sW, sL, aw_block, sXs, sXO, sXP, Int.reduceNegSucc, reduceCtorEq, Nat.reduceEqDiff, ↓reduceIte, Nat.reduceAdd, Int.reduceEq, Int.reduceLT, Int.reduceLE, f4]) C4b (by simp only [sW, sL, aw_block, sXs, sXO, sXP, Int.reduceNegSucc, reduceCtorEq, Nat.reduceEqDiff, ↓reduceIte, Nat.reduceAdd, Int.reduceEq, Int.reduceLT, Int.reduceLE])
    · have hl' : ¬ ((valuesF s.now.hs clN).length : Int) = 1 := by omega
      simp only [c50, restAt, cutAt_0, cutAt_s, sW, sL, aw_block, sXs, sXO, sXP, Int.reduceNegSucc, reduceCtorEq, Nat.reduceEqDiff, ↓reduceIte, Nat.reduceAdd, Int.reduceEq, Int.reduceLT, Int.reduceLE, f0, f3, f4, e3, hl']
      have ex : headersEndF s = goF s 0 := by
        unfold headersEndF
        simp only
        rw [if_neg hn1, if_neg hn2, if_neg hl]
        rfl
      rw [ex]
      exact hdrsend_tail P4 F4 B hst hk hrd (m := 0) (by omega) (by simp only [sW, sL, aw_block, sXs, sXO, sXP, Int.reduceNegSucc, reduceCtorEq, Nat.reduceEqDiff, ↓reduceIte, Nat.reduceAdd, Int.reduceEq, Int.reduceLT, Int.reduceLE, f0]) (v4 := v4) (by simp only [sW, sL, aw_block, sXs, sXO, sXP, Int.reduceNegSucc, reduceCtorEq, Nat.reduceEqDiff, ↓reduceIte, Nat.reduceAdd, Int.reduceEq, Int.reduceLT, Int.reduceLE, f4]) C4b (by simp only [sW, sL, aw_block, sXs, sXO, sXP, Int.reduceNegSucc, reduceCtorEq, Nat.reduceEqDiff, ↓reduceIte, Nat.reduceAdd, Int.reduceEq, Int.reduceLT, Int.reduceLE]; try rfl)
  by_cases ht : (valuesF s.now.hs teN).length = 1
  · obtain ⟨x, hx⟩ := fst_of_one ht
    have hxl : x.length ≤ 1000000 := by
      have := values_mem (hs := s.now.hs) (name := teN) (v := x) (by rw [hx]; simp) he
      omega
    have ht' : ((valuesF s.now.hs teN).length : Int) = 1 := by omega
    have ix := C4'.idx .i64 (i := 0) (by rw [strs_len]; omega)
    have lx := C4'.load (i := 0) (x := .str x) (by rw [hx]; rfl)
    simp only [Int.natCast_zero] at ix
    simp only [sW, sL, aw_block, sXs, sXO, sXP, Int.reduceNegSucc, reduceCtorEq, Nat.reduceEqDiff, ↓reduceIte, Nat.reduceAdd, Int.reduceEq, Int.reduceLT, Int.reduceLE, e5, hh', e3, e4, w34, hs', eq_true ht', ix, lx]
    refine (lower_spec x hxl).mono ?_
    rintro w H4 ⟨rfl, E4⟩
    have F4 : Ext H.next H H4 := E13.trans (E4.less (by omega))
    by_cases hc : low x = chW
    · have hc' : low x = [99, 104, 117, 110, 107, 101, 100] := hc
      simp only [sW, sL, aw_block, sXs, sXO, sXP, Int.reduceNegSucc, reduceCtorEq, Nat.reduceEqDiff, ↓reduceIte, Nat.reduceAdd, Int.reduceEq, Int.reduceLT, Int.reduceLE, eq_true hc']
      exact part _ H4 F4 E4 (by simp only [sW, sL, aw_block, sXs, sXO, sXP, Int.reduceNegSucc, reduceCtorEq, Nat.reduceEqDiff, ↓reduceIte, Nat.reduceAdd, Int.reduceEq, Int.reduceLT, Int.reduceLE]; try rfl) (by simp only [sW, sL, aw_block, sXs, sXO, sXP, Int.reduceNegSucc, reduceCtorEq, Nat.reduceEqDiff, ↓reduceIte, Nat.reduceAdd, Int.reduceEq, Int.reduceLT, Int.reduceLE]; try rfl) (by simp only [sW, sL, aw_block, sXs, sXO, sXP, Int.reduceNegSucc, reduceCtorEq, Nat.reduceEqDiff, ↓reduceIte, Nat.reduceAdd, Int.reduceEq, Int.reduceLT, Int.reduceLE]; try rfl) (by rw [hx]; simp [hc])
    · have hc' : ¬ low x = [99, 104, 117, 110, 107, 101, 100] := hc
      simp only [sW, sL, aw_block, sXs, sXO, sXP, Int.reduceNegSucc, reduceCtorEq, Nat.reduceEqDiff, ↓reduceIte, Nat.reduceAdd, Int.reduceEq, Int.reduceLT, Int.reduceLE, eq_false hc']
      exact stay H4 21 F4 (by
        unfold headersEndF
        simp only
        rw [if_neg hn1, if_pos ⟨ht, by rw [hx]; exact hc⟩])
  · have ht' : ¬ ((valuesF s.now.hs teN).length : Int) = 1 := by omega
    simp only [sW, sL, aw_block, sXs, sXO, sXP, Int.reduceNegSucc, reduceCtorEq, Nat.reduceEqDiff, ↓reduceIte, Nat.reduceAdd, Int.reduceEq, Int.reduceLT, Int.reduceLE, e5, hh', e3, e4, w34, hs', ht']
    exact part _ H3 E13 (Ext.refl _ _) (by simp only [sW, sL, aw_block, sXs, sXO, sXP, Int.reduceNegSucc, reduceCtorEq, Nat.reduceEqDiff, ↓reduceIte, Nat.reduceAdd, Int.reduceEq, Int.reduceLT, Int.reduceLE]; try rfl) (by simp only [sW, sL, aw_block, sXs, sXO, sXP, Int.reduceNegSucc, reduceCtorEq, Nat.reduceEqDiff, ↓reduceIte, Nat.reduceAdd, Int.reduceEq, Int.reduceLT, Int.reduceLE]; try rfl) (by simp only [sW, sL, aw_block, sXs, sXO, sXP, Int.reduceNegSucc, reduceCtorEq, Nat.reduceEqDiff, ↓reduceIte, Nat.reduceAdd, Int.reduceEq, Int.reduceLT, Int.reduceLE]; try rfl) (fun h => ht h.1)
end
end Go.Proofs.Ht
/- Http: headers' lines; lines that ended; one byte; many: the contracts. -/
namespace Go.Proofs.Ht
open Go.Abs Go.Abs.S
set_option linter.unusedSimpArgs false
/-- marks, where new blocks are all of one kind -/
def upT (τ : Nat → Nat) (H H' : AHeap) (k : Nat) : Nat → Nat := fun c => if c < H.next then τ c else if c < H'.next then k else 0
theorem upT_old {τ : Nat → Nat} {H H' : AHeap} {k c : Nat} (h : c < H.next) : upT τ H H' k c = τ c := if_pos h
theorem upT_new {τ : Nat → Nat} {H H' : AHeap} {k c : Nat} (h : H.next ≤ c) (h' : c < H'.next) : upT τ H H' k c = k := by
  unfold upT; rw [if_neg (by omega), if_pos h']
theorem upT_z {τ : Nat → Nat} {H H' : AHeap} {k c : Nat} (hn : H.next ≤ H'.next) (h : H'.next ≤ c) : upT τ H H' k c = 0 := by
  unfold upT; rw [if_neg (by omega), if_neg (by omega)]
theorem lenIf (n c : Nat) : (if c < (n + 1 : Nat) then True else True) := by split <;> trivial
section
variable {n : Nat} {τ : Nat → Nat} {H : AHeap} {p : Nat} {s : PS} {rd : List Rq} {vl vh vb vr : AVal}
structure Grown (τ : Nat → Nat) (H : AHeap) (p : Nat) (s : PS) (rd : List Rq) (vl vh vb vr : AVal) (k : Nat) (H' : AHeap) : Prop where
  row : Row H' p (pC p s vl vh vb vr (szF rd))
  pn : p < H'.next
  tp : upT τ H H' k p = 1
  tz : ∀ c, H'.next ≤ c → upT τ H H' k c = 0
  l : k ≠ 2 → LC H'.next (upT τ H H' k) H' vl s.line 2
  h : k ≠ 3 → HC H'.next (upT τ H H' k) H' vh s.now.hs
  b : k ≠ 4 → LC H'.next (upT τ H H' k) H' vb s.now.body 4
  r : k ≠ 5 → RC 5 H'.next (upT τ H H' k) H' vr rd
  f : Fr τ H (upT τ H H' k) H'
theorem PV.grown (P : PV n τ H p s rd vl vh vb vr) {k : Nat} {H' : AHeap} (h1 : k ≠ 1) (h0 : k ≠ 0 ∧ k ≠ 6) (hn : H.next ≤ H'.next) (e : ∀ c, c < H.next → τ c ≠ k → H'.get c = H.get c) : Grown τ H p s rd vl vh vb vr k H' := by
  have nn := P.nn
  have pn := P.pn
  have tp := P.tp
  have to : ∀ c, c < n → upT τ H H' k c = τ c := fun c hc => upT_old (by omega)
  exact ⟨P.row.same (e p (by omega) (by omega)), by omega, by rw [to p pn]; exact tp, fun c hc => upT_z hn hc,
    fun h => P.l.fr (by omega) hn (fun c hc hk => by rw [to c hc]; exact hk) (fun c hc hk => e c (by omega) (by omega)),
    fun h => P.h.fr (by omega) hn (fun c hc hk => by rw [to c hc]; exact hk) (fun c hc hk => e c (by omega) (by omega)),
    fun h => P.b.fr (by omega) hn (fun c hc hk => by rw [to c hc]; exact hk) (fun c hc hk => e c (by omega) (by omega)),
    fun h => P.r.fr (by omega) (fun c hc _ => to c hc) (fun c hc hk => e c (by omega) (by omega)),
    ⟨hn, fun c hc h0' => ⟨upT_old hc, e c hc (by omega)⟩⟩⟩
/-- parts and a parser's cells make all of it -/
theorem PV.of {n' : Nat} {τ' : Nat → Nat} {H' H'' : AHeap} {s' : PS} (hR : Row H'' p (pC p s' vl vh vb vr (szF rd))) (hn : H''.next = H'.next) (o : ∀ c, c ≠ p → H''.get c = H'.get c) (pn : p < n') (nn : n' ≤ H'.next) (tp : τ' p = 1) (tz : ∀ c, n' ≤ c → τ' c = 0)
    (l : LC n' τ' H' vl s'.line 2) (h : HC n' τ' H' vh s'.now.hs) (b : LC n' τ' H' vb s'.now.body 4) (r : RC 5 n' τ' H' vr rd) : PV n' τ' H'' p s' rd vl vh vb vr := by
  have f : ∀ k, k ≠ 1 → ∀ c, c < n' → τ' c = k → H''.get c = H'.get c := fun k hk c _ hc => o c (by rintro rfl; omega)
  have hle : H'.next ≤ H''.next := by omega
  exact ⟨hR, pn, by omega, tp, tz, l.fr (Nat.le_refl _) hle (fun _ _ h => h) (f 2 (by omega)), h.fr (Nat.le_refl _) hle (fun _ _ h => h) (f 3 (by omega)), b.fr (Nat.le_refl _) hle (fun _ _ h => h) (f 4 (by omega)), r.fr (Nat.le_refl _) (fun _ _ _ => rfl) (fun c _ hc => o c (by rintro rfl; omega))⟩
theorem told_pv {τ' : Nat → Nat} {H' : AHeap} {s' : PS} (P : PV H'.next τ' H' p s' rd vl vh vb vr) (F : Fr τ H τ' H') (e : Nat) : Told τ H p rd (s', [], e) (.int .i64 (e : Int)) H' :=
  ⟨rfl, τ', by rw [List.append_nil]; exact ⟨_, _, _, _, P⟩, F⟩
theorem hdrline_spec (P : PR n τ H p s rd) {k : Nat} (B : Bd k s) (hst : s.st = 1) (hk : k ≤ 1000000) (hrd : rd.length ≤ 1000000) (l : Bs) (right : Bool) (hl : l.length ≤ 1000000) :
    ACalls Try.prog natH 42 [cellR p 15 0, .str l, .bool right] H (Told τ H p rd (headerLineF s l right)) := by
  have P0 := P
  obtain ⟨vl, vh, vb, vr, P⟩ := P
  refine acalls_ofN rfl za42 rfl ?_
  obtain ⟨l0, l1, l2, l3, l4, l7, _⟩ := P.lds
  have hlen := P.h.1.len
  have bh := B.hs
  have stay : ∀ e : Nat, headerLineF s l right = (s, [], e) → Told τ H p rd (headerLineF s l right) (.int .i64 (e : Int)) H := fun e h => by rw [h]; exact told_own P (Fr.refl _ _) e
  by_cases h0 : l = []
  · subst h0
    cases right with
    | false =>
      simp only [c42, sW, sL, aw_block, sXs, sXO, sXP, Int.reduceNegSucc, reduceCtorEq, Nat.reduceEqDiff, ↓reduceIte, Nat.reduceAdd, Int.reduceEq, Int.reduceLT, Int.reduceLE]
      exact stay 21 (by simp [headerLineF])
    | true =>
      simp only [c42, sW, sL, aw_block, sXs, sXO, sXP, Int.reduceNegSucc, reduceCtorEq, Nat.reduceEqDiff, ↓reduceIte, Nat.reduceAdd, Int.reduceEq, Int.reduceLT, Int.reduceLE]
      refine (hdrsend_spec P0 B hst hk hrd).mono ?_
      rintro v H1 ⟨rfl, h1⟩
      have e : headerLineF s [] true = headersEndF s := by simp [headerLineF]
      rw [e]
      simp only [sW, sL, aw_block, sXs, sXO, sXP, Int.reduceNegSucc, reduceCtorEq, Nat.reduceEqDiff, ↓reduceIte, Nat.reduceAdd, Int.reduceEq, Int.reduceLT, Int.reduceLE]
      exact ⟨rfl, h1⟩
  · by_cases h40 : 40 ≤ s.now.hs.length
    · have h40' : (40 : Int) ≤ (s.now.hs.length : Int) := by omega
      simp only [c42, sW, sL, aw_block, sXs, sXO, sXP, Int.reduceNegSucc, reduceCtorEq, Nat.reduceEqDiff, ↓reduceIte, Nat.reduceAdd, Int.reduceEq, Int.reduceLT, Int.reduceLE, eq_false h0, nil_cell, fldA, l7, hlen, h40']
      exact stay 3 (by simp [headerLineF, h0, h40])
    · have h40' : ¬ (40 : Int) ≤ (s.now.hs.length : Int) := by omega
      cases right with
      | false =>
        simp only [c42, sW, sL, aw_block, sXs, sXO, sXP, Int.reduceNegSucc, reduceCtorEq, Nat.reduceEqDiff, ↓reduceIte, Nat.reduceAdd, Int.reduceEq, Int.reduceLT, Int.reduceLE, eq_false h0, nil_cell, fldA, l7, hlen, h40']
        exact stay 21 (by simp [headerLineF, h0, h40])
      | true =>
        simp only [c42, sW, sL, aw_block, sXs, sXO, sXP, Int.reduceNegSucc, reduceCtorEq, Nat.reduceEqDiff, ↓reduceIte, Nat.reduceAdd, Int.reduceEq, Int.reduceLT, Int.reduceLE, eq_false h0, nil_cell, fldA, l7, hlen, h40']
        refine (header_spec l hl).mono ?_
        rintro v H1 ⟨rfl, E1⟩
        obtain ⟨H2, m2, r2, k2, o2⟩ := row_newL H1 [.str [], .str []] (n := 2) rfl
        have nn := P.nn
        have n1 := E1.next
        have P1 := P.ext E1.next fun c hc => E1.old c (by omega)
        cases hh : headerF l with
        | none =>
          obtain ⟨H3, m3, r3, k3, o3⟩ := row_storeN r2 (n := 2) rfl (xs := [.str [], .str []]) rfl rfl
          have P3 := P1.ext (H' := H3) (by omega) fun c hc => by rw [o3 c (by omega), o2 c (by omega)]
          simp only [optV, sW, sL, aw_block, sXs, sXO, sXP, Int.reduceNegSucc, reduceCtorEq, Nat.reduceEqDiff, ↓reduceIte, Nat.reduceAdd, Int.reduceEq, Int.reduceLT, Int.reduceLE, ext_0, ext_1, m2, m3]
          have e : headerLineF s l true = (s, [], 21) := by simp [headerLineF, h0, h40, hh]
          rw [e]
          exact told_own P3 (Fr.of_ext ⟨by omega, fun c hc => by rw [o3 c (by omega), o2 c (by omega)]; exact E1.old c hc⟩) 21
        | some q =>
          obtain ⟨H3, m3, r3, k3, o3⟩ := row_storeN r2 (n := 2) rfl (xs := [.str q.1, .str q.2]) rfl rfl
          have P3 := P1.ext (H' := H3) (by omega) fun c hc => by rw [o3 c (by omega), o2 c (by omega)]
          have F3 : Fr τ H τ H3 := Fr.of_ext ⟨by omega, fun c hc => by rw [o3 c (by omega), o2 c (by omega)]; exact E1.old c hc⟩
          obtain ⟨_, _, _, _, _, l7', _⟩ := P3.lds
          have nn3 := P3.nn
          have pn := P.pn
          have lq := row_loadN r3 (n := 2) rfl
          have bm := buildM (m := 2) (z := [.str [], .str []]) (xs := [.str q.1, .str q.2]) H3 rfl rfl
          obtain ⟨v', H4, m4, A4, n4, b4, o4⟩ := P3.h.1.pushB (xs := [.str q.1, .str q.2]) rfl rfl (by omega) (bytes := 32) (by omega) (by omega)
          have l7p : oLoad false 1 (H3.push (.cells [.str q.1, .str q.2] 0 false)) (cellR p 15 7) = some vh := row_load (P3.row.same (get_push_lt (by omega))) rfl rfl
          have G := P3.grown (k := 3) (H' := H4) (by omega) (by omega) n4 fun c hc ht => o4 c hc (P3.h.2.mono fun b hb => by rintro rfl; exact ht hb.2)
          obtain ⟨H5, m5, r5, k5, o5⟩ := row_st G.row (n := 15) rfl (i := 7) (by omega) (x := v') A4.one rfl
          simp only [optV, sW, sL, aw_block, sXs, sXO, sXP, Int.reduceNegSucc, reduceCtorEq, Nat.reduceEqDiff, ↓reduceIte, Nat.reduceAdd, Int.reduceEq, Int.reduceLT, Int.reduceLE, ext_0, ext_1, m2, m3]
          refine aw_drawC rfl ?_
          simp only [sW, sL, aw_block, sXs, sXO, sXP, Int.reduceNegSucc, reduceCtorEq, Nat.reduceEqDiff, ↓reduceIte, Nat.reduceAdd, Int.reduceEq, Int.reduceLT, Int.reduceLE, sR, nil_cell, fldA, l7', lq, bm, m4, m5]
          simp only [ck_nil', ck_cons, ckP_load, ckP_nil, ck_end, and_true, true_and, List.map_cons, List.map_nil, sW, sL, aw_block, sXs, sXO, sXP, Int.reduceNegSucc, reduceCtorEq, Nat.reduceEqDiff, ↓reduceIte, Nat.reduceAdd, Int.reduceEq, Int.reduceLT, Int.reduceLE, fldA, l7p]
          refine ⟨⟨_, rfl, fun _ => ⟨_, l7p, P3.h.aeq⟩⟩, ?_⟩
          have e : headerLineF s l true = ({ s with now := { s.now with hs := s.now.hs ++ [q] } }, [], 0) := by simp [headerLineF, h0, h40, hh]
          rw [e]
          have hHC : HC H4.next (upT τ H3 H4 3) H4 v' (s.now.hs ++ [q]) := by
            refine ⟨by rw [prC_snoc, List.length_append]; exact A4, ?_⟩
            have hb := b4 (fun b => b < n ∧ τ b = 3) P3.h.2
            have hb' := hb.and A4.blk'
            refine hb'.mono fun b hb => ⟨hb.2, ?_⟩
            rcases hb.1 with h | h
            · rw [upT_old (by omega)]; exact h.2
            · exact upT_new h hb.2
          have P5 : PV H4.next (upT τ H3 H4 3) H5 p { s with now := { s.now with hs := s.now.hs ++ [q] } } rd vl v' vb vr :=
            PV.of (s' := { s with now := { s.now with hs := s.now.hs ++ [q] } }) r5 k5 o5 G.pn (Nat.le_refl _) G.tp G.tz (G.l (by omega)) hHC (G.b (by omega)) (G.r (by omega))
          have k5' : H4.next = H5.next := k5.symm
          refine told_pv (by rw [k5'] at P5; exact P5) (F3.trans (G.f.trans ⟨by omega, fun c hc h0 => ⟨rfl, o5 c (by have := G.tp; rintro rfl; omega)⟩⟩)) 0
theorem want_spec (P : PR n τ H p s rd) : ACalls Try.prog natH 38 [cellR p 15 0] H fun v H' => v = .int .i64 (wantF s : Int) ∧ H = H' := by
  obtain ⟨vl, vh, vb, vr, P⟩ := P
  refine acalls_ofN rfl za38 rfl ?_
  obtain ⟨l0, l1, _⟩ := P.lds
  by_cases h0 : s.st = 0
  · have h0' : (s.st : Int) = 0 := by omega
    simp only [c38, sW, sL, aw_block, sXs, sXO, sXP, Int.reduceNegSucc, reduceCtorEq, Nat.reduceEqDiff, ↓reduceIte, Nat.reduceAdd, Int.reduceEq, Int.reduceLT, Int.reduceLE, nil_cell, fldA, l1, eq_true h0']
    exact ⟨by simp [wantF, h0], (by first | trivial | rfl | assumption)⟩
  · have h0' : ¬ (s.st : Int) = 0 := by omega
    by_cases h3 : s.st = 3
    · have h3' : (s.st : Int) = 3 := by omega
      simp only [c38, sW, sL, aw_block, sXs, sXO, sXP, Int.reduceNegSucc, reduceCtorEq, Nat.reduceEqDiff, ↓reduceIte, Nat.reduceAdd, Int.reduceEq, Int.reduceLT, Int.reduceLE, nil_cell, fldA, l1, eq_false h0', eq_true h3']
      exact ⟨by simp [wantF, h3], (by first | trivial | rfl | assumption)⟩
    · have h3' : ¬ (s.st : Int) = 3 := by omega
      simp only [c38, sW, sL, aw_block, sXs, sXO, sXP, Int.reduceNegSucc, reduceCtorEq, Nat.reduceEqDiff, ↓reduceIte, Nat.reduceAdd, Int.reduceEq, Int.reduceLT, Int.reduceLE, nil_cell, fldA, l1, eq_false h0', eq_false h3']
      exact ⟨by simp [wantF, h0, h3], (by first | trivial | rfl | assumption)⟩
theorem ended_spec (P : PR n τ H p s rd) {k : Nat} (B : Bd k s) (hk : k ≤ 1000000) (hrd : rd.length ≤ 1000000) :
    ACalls Try.prog natH 32 [cellR p 15 0] H (Told τ H p rd (endedF s)) := by
  obtain ⟨vl, vh, vb, vr, P⟩ := P
  refine acalls_ofN rfl za32 rfl ?_
  obtain ⟨l0, l1, l2, l3, _⟩ := P.lds
  have bl := B.line
  have nn := P.nn
  have pn := P.pn
  have tp := P.tp
  obtain ⟨v0, t0, L0, b0⟩ := P.l.1.take (Nat.zero_le _)
  have t0' : aSl 1 vl none (some (.int .i64 0)) none = some v0 := t0
  have L0' : Lin H v0 [] := L0
  obtain ⟨H1, m1, r1, k1, o1⟩ := row_st P.row (n := 15) rfl (i := 3) (by omega) (x := v0) L0'.one rfl
  have P1 : PV n τ H1 p { s with line := [] } rd v0 vh vb vr := PV.of (s' := { s with line := [] }) r1 k1 o1 P.pn P.nn P.tp P.tz ⟨L0', b0 _ P.l.2⟩ P.h P.b P.r
  have F1 : Fr τ H τ H1 := fr_own P k1 o1
  have B1 : Bd k { s with line := [] } := ⟨B.st, B.fault, Nat.zero_le _, B.m, B.t, B.body, B.hs, B.he, B.trailers, B.fed, B.need, B.pos⟩
  have LL : Lin H1 vl s.line := P.l.1.same (by omega) (P.l.2.mono fun b hb => o1 b (by rintro rfl; omega))
  obtain ⟨wh, hwh⟩ : ∃ wh, wh = decide (s.line.getLast? = some 13) := ⟨_, rfl⟩
  obtain ⟨L, hL⟩ : ∃ L, L = (if wh then s.line.take (s.line.length - 1) else s.line) := ⟨_, rfl⟩
  have hLl : L.length ≤ s.line.length := by
    rw [hL]; split
    · simp
    · exact Nat.le_refl _
  have es : endedF s = (if 2000 < L.length then ({ s with line := [] }, [], 3) else if wh = false then ({ s with line := [] }, [], wantF { s with line := [] }) else
      if s.st = 0 then ((requestF { s with line := [] } L (L.all no13)).1, [], (requestF { s with line := [] } L (L.all no13)).2) else if s.st = 1 then headerLineF { s with line := [] } L (L.all no13) else if s.st = 3 then ((chunkF { s with line := [] } L (L.all no13)).1, [], (chunkF { s with line := [] } L (L.all no13)).2) else trailerF { s with line := [] } L (L.all no13)) := by
    rw [hL, hwh]; rfl
  have lift : ∀ {H' : AHeap} {v : AVal} {o : Out}, Told τ H1 p rd o v H' → Told τ H p rd o v H' := fun h => ⟨h.1, by obtain ⟨τ', q1, q2⟩ := h.2; exact ⟨τ', q1, F1.trans q2⟩⟩
  obtain ⟨_, l1b, _⟩ := P1.lds
  -- behind the line's end
  have part : ∀ (T : Env) (v3 : AVal), T 0 = cellR p 15 0 → T 3 = v3 → T 4 = .bool wh → Lin H1 v3 L → wp (ACalls Try.prog natH) (hold (restAt 5 c32.body)) (fin c32.res (Told τ H p rd (endedF s))) T H1 := by
    intro T v3 g0 g3 g4 L3
    by_cases hbig : 2000 < L.length
    · have hbig' : (2000 : Int) < (L.length : Int) := by omega
      simp only [c32, restAt, hold_eq, sW, sL, aw_block, sXs, sXO, sXP, Int.reduceNegSucc, reduceCtorEq, Nat.reduceEqDiff, ↓reduceIte, Nat.reduceAdd, Int.reduceEq, Int.reduceLT, Int.reduceLE, g0, g3, g4, L3.len, hbig']
      rw [es, if_pos hbig]
      exact told_own P1 F1 3
    · have hbig' : ¬ (2000 : Int) < (L.length : Int) := by omega
      cases hw : wh with
      | false =>
        rw [hw] at g4
        simp only [c32, restAt, hold_eq, sW, sL, aw_block, sXs, sXO, sXP, Int.reduceNegSucc, reduceCtorEq, Nat.reduceEqDiff, ↓reduceIte, Nat.reduceAdd, Int.reduceEq, Int.reduceLT, Int.reduceLE, g0, g3, g4, L3.len, hbig']
        refine (want_spec ⟨_, _, _, _, P1⟩).mono ?_
        rintro v _ ⟨rfl, rfl⟩
        simp only [sW, sL, aw_block, sXs, sXO, sXP, Int.reduceNegSucc, reduceCtorEq, Nat.reduceEqDiff, ↓reduceIte, Nat.reduceAdd, Int.reduceEq, Int.reduceLT, Int.reduceLE]
        rw [es, if_neg hbig, if_pos hw]
        exact told_own P1 F1 (wantF _)
      | true =>
        rw [hw] at g4
        simp only [c32, restAt, hold_eq, sW, sL, aw_block, sXs, sXO, sXP, Int.reduceNegSucc, reduceCtorEq, Nat.reduceEqDiff, ↓reduceIte, Nat.reduceAdd, Int.reduceEq, Int.reduceLT, Int.reduceLE, g0, g3, g4, L3.len, hbig', L3.str]
        refine (all_spec says_no13 L (by omega)).mono ?_
        rintro v _ ⟨rfl, rfl⟩
        have es' : endedF s = (if s.st = 0 then ((requestF { s with line := [] } L (L.all no13)).1, [], (requestF { s with line := [] } L (L.all no13)).2) else if s.st = 1 then headerLineF { s with line := [] } L (L.all no13) else if s.st = 3 then ((chunkF { s with line := [] } L (L.all no13)).1, [], (chunkF { s with line := [] } L (L.all no13)).2) else trailerF { s with line := [] } L (L.all no13)) := by
          rw [es, if_neg hbig, if_neg (by rw [hw]; simp)]
        by_cases h0 : s.st = 0
        · have h0' : (s.st : Int) = 0 := by omega
          simp only [sW, sL, aw_block, sXs, sXO, sXP, Int.reduceNegSucc, reduceCtorEq, Nat.reduceEqDiff, ↓reduceIte, Nat.reduceAdd, Int.reduceEq, Int.reduceLT, Int.reduceLE, nil_cell, fldA, l1b, g0, eq_true h0']
          rw [es', if_pos h0]
          refine (reqline_spec ⟨_, _, _, _, P1⟩ L (L.all no13) (by omega)).mono ?_
          rintro v H2 ⟨rfl, hh⟩
          simp only [sW, sL, aw_block, sXs, sXO, sXP, Int.reduceNegSucc, reduceCtorEq, Nat.reduceEqDiff, ↓reduceIte, Nat.reduceAdd, Int.reduceEq, Int.reduceLT, Int.reduceLE]
          exact lift ⟨rfl, hh⟩
        · have h0' : ¬ (s.st : Int) = 0 := by omega
          by_cases h1 : s.st = 1
          · have h1' : (s.st : Int) = 1 := by omega
            simp only [sW, sL, aw_block, sXs, sXO, sXP, Int.reduceNegSucc, reduceCtorEq, Nat.reduceEqDiff, ↓reduceIte, Nat.reduceAdd, Int.reduceEq, Int.reduceLT, Int.reduceLE, nil_cell, fldA, l1b, g0, eq_false h0', eq_true h1']
            rw [es', if_neg h0, if_pos h1]
            refine (hdrline_spec ⟨_, _, _, _, P1⟩ B1 h1 hk hrd L (L.all no13) (by omega)).mono ?_
            rintro v H2 ⟨rfl, hh⟩
            simp only [sW, sL, aw_block, sXs, sXO, sXP, Int.reduceNegSucc, reduceCtorEq, Nat.reduceEqDiff, ↓reduceIte, Nat.reduceAdd, Int.reduceEq, Int.reduceLT, Int.reduceLE]
            exact lift ⟨rfl, hh⟩
          · have h1' : ¬ (s.st : Int) = 1 := by omega
            by_cases h3 : s.st = 3
            · have h3' : (s.st : Int) = 3 := by omega
              simp only [sW, sL, aw_block, sXs, sXO, sXP, Int.reduceNegSucc, reduceCtorEq, Nat.reduceEqDiff, ↓reduceIte, Nat.reduceAdd, Int.reduceEq, Int.reduceLT, Int.reduceLE, nil_cell, fldA, l1b, g0, eq_false h0', eq_false h1', eq_true h3']
              rw [es', if_neg h0, if_neg h1, if_pos h3]
              refine (chunk_spec ⟨_, _, _, _, P1⟩ B1 hk L (L.all no13) (by omega)).mono ?_
              rintro v H2 ⟨rfl, hh⟩
              simp only [sW, sL, aw_block, sXs, sXO, sXP, Int.reduceNegSucc, reduceCtorEq, Nat.reduceEqDiff, ↓reduceIte, Nat.reduceAdd, Int.reduceEq, Int.reduceLT, Int.reduceLE]
              exact lift ⟨rfl, hh⟩
            · have h3' : ¬ (s.st : Int) = 3 := by omega
              simp only [sW, sL, aw_block, sXs, sXO, sXP, Int.reduceNegSucc, reduceCtorEq, Nat.reduceEqDiff, ↓reduceIte, Nat.reduceAdd, Int.reduceEq, Int.reduceLT, Int.reduceLE, nil_cell, fldA, l1b, g0, eq_false h0', eq_false h1', eq_false h3']
              rw [es', if_neg h0, if_neg h1, if_neg h3]
              refine (trailer_spec ⟨_, _, _, _, P1⟩ B1 hk hrd L (L.all no13) (by omega)).mono ?_
              rintro v H2 ⟨rfl, hh⟩
              simp only [sW, sL, aw_block, sXs, sXO, sXP, Int.reduceNegSucc, reduceCtorEq, Nat.reduceEqDiff, ↓reduceIte, Nat.reduceAdd, Int.reduceEq, Int.reduceLT, Int.reduceLE]
              exact lift ⟨rfl, hh⟩
  refine wp_cutAt 5 ?_
  by_cases hz : s.line = []
  · have hw : wh = false := by rw [hwh, hz]; rfl
    have z0 : (s.line.length : Int) = 0 := by rw [hz]; rfl
    have z1 : ¬ ((0 : Int) < (s.line.length : Int)) := by omega
    simp only [c32, cutAt_0, cutAt_s, sW, sL, aw_block, sXs, sXO, sXP, Int.reduceNegSucc, reduceCtorEq, Nat.reduceEqDiff, ↓reduceIte, Nat.reduceAdd, Int.reduceEq, Int.reduceLT, Int.reduceLE, nil_cell, fldA, l3, t0', m1, P.l.1.len, z1]
    exact part _ vl (by simp only [sW, sL, aw_block, sXs, sXO, sXP, Int.reduceNegSucc, reduceCtorEq, Nat.reduceEqDiff, ↓reduceIte, Nat.reduceAdd, Int.reduceEq, Int.reduceLT, Int.reduceLE]; try rfl) (by simp only [sW, sL, aw_block, sXs, sXO, sXP, Int.reduceNegSucc, reduceCtorEq, Nat.reduceEqDiff, ↓reduceIte, Nat.reduceAdd, Int.reduceEq, Int.reduceLT, Int.reduceLE]; try rfl) (by simp only [sW, sL, aw_block, sXs, sXO, sXP, Int.reduceNegSucc, reduceCtorEq, Nat.reduceEqDiff, ↓reduceIte, Nat.reduceAdd, Int.reduceEq, Int.reduceLT, Int.reduceLE]; rw [hw]) (by rw [hL, hw]; exact LL)
  · have hpos := List.length_pos_iff.2 hz
    have z1 : (0 : Int) < (s.line.length : Int) := by omega
    obtain ⟨b, hb⟩ := isSome_of_lt (l := s.line) (i := s.line.length - 1) (by omega)
    have hlast : s.line.getLast? = some b := by rw [List.getLast?_eq_getElem?]; exact hb
    have w1 : IntKind.i64.wrap ((s.line.length : Int) - 1) = ((s.line.length - 1 : Nat) : Int) := by
      rw [wrap64 (by omega) (by omega)]; omega
    obtain ⟨a, a1, a2⟩ := LL.idx hb
    by_cases h13 : b = 13
    · have hw : wh = true := by rw [hwh, hlast, h13]; rfl
      have e13 : ((b.toNat : Nat) : Int) = 13 := by rw [h13]; rfl
      obtain ⟨v2, t2, L2, _⟩ := LL.take (k := s.line.length - 1) (by omega)
      simp only [c32, cutAt_0, cutAt_s, sW, sL, aw_block, sXs, sXO, sXP, Int.reduceNegSucc, reduceCtorEq, Nat.reduceEqDiff, ↓reduceIte, Nat.reduceAdd, Int.reduceEq, Int.reduceLT, Int.reduceLE, nil_cell, fldA, l3, t0', m1, P.l.1.len, z1, w1, a1, a2, e13, t2]
      exact part _ v2 (by simp only [sW, sL, aw_block, sXs, sXO, sXP, Int.reduceNegSucc, reduceCtorEq, Nat.reduceEqDiff, ↓reduceIte, Nat.reduceAdd, Int.reduceEq, Int.reduceLT, Int.reduceLE]; try rfl) (by simp only [sW, sL, aw_block, sXs, sXO, sXP, Int.reduceNegSucc, reduceCtorEq, Nat.reduceEqDiff, ↓reduceIte, Nat.reduceAdd, Int.reduceEq, Int.reduceLT, Int.reduceLE]; try rfl) (by simp only [sW, sL, aw_block, sXs, sXO, sXP, Int.reduceNegSucc, reduceCtorEq, Nat.reduceEqDiff, ↓reduceIte, Nat.reduceAdd, Int.reduceEq, Int.reduceLT, Int.reduceLE]; rw [hw]) (by rw [hL, hw]; exact L2)
    · have hw : wh = false := by rw [hwh, hlast]; simp [h13]
      have e13 : ¬ ((b.toNat : Nat) : Int) = 13 := fun e => h13 (UInt8.toNat_inj.1 (by show b.toNat = 13; omega))
      simp only [c32, cutAt_0, cutAt_s, sW, sL, aw_block, sXs, sXO, sXP, Int.reduceNegSucc, reduceCtorEq, Nat.reduceEqDiff, ↓reduceIte, Nat.reduceAdd, Int.reduceEq, Int.reduceLT, Int.reduceLE, nil_cell, fldA, l3, t0', m1, P.l.1.len, z1, w1, a1, a2, e13]
      exact part _ vl (by simp only [sW, sL, aw_block, sXs, sXO, sXP, Int.reduceNegSucc, reduceCtorEq, Nat.reduceEqDiff, ↓reduceIte, Nat.reduceAdd, Int.reduceEq, Int.reduceLT, Int.reduceLE]; try rfl) (by simp only [sW, sL, aw_block, sXs, sXO, sXP, Int.reduceNegSucc, reduceCtorEq, Nat.reduceEqDiff, ↓reduceIte, Nat.reduceAdd, Int.reduceEq, Int.reduceLT, Int.reduceLE]; try rfl) (by simp only [sW, sL, aw_block, sXs, sXO, sXP, Int.reduceNegSucc, reduceCtorEq, Nat.reduceEqDiff, ↓reduceIte, Nat.reduceAdd, Int.reduceEq, Int.reduceLT, Int.reduceLE]; rw [hw]) (by rw [hL, hw]; exact LL)
end
end Go.Proofs.Ht
/- Http: one byte; many; a new parser; what is ready, one by one: the contracts. -/
namespace Go.Proofs.Ht
open Go.Abs Go.Abs.S
set_option linter.unusedSimpArgs false
section
variable {n : Nat} {τ : Nat → Nat} {H : AHeap} {p : Nat} {s : PS} {rd : List Rq} {vl vh vb vr : AVal}
theorem take_spec (P : PR n τ H p s rd) {k : Nat} (B : Bd k s) (hk : k < 1000000) (hrd : rd.length ≤ 1000000) (c : UInt8) :
    ACalls Try.prog natH 21 [cellR p 15 0, by8 c] H (Told τ H p rd (takeF s c)) := by
  have P0 := P
  obtain ⟨vl, vh, vb, vr, P⟩ := P
  refine acalls_ofN rfl za21 rfl ?_
  obtain ⟨l0, l1, l2, l3, l4, l7, l8, l9, l10, _⟩ := P.lds
  have nn := P.nn
  have pn := P.pn
  have bb := B.body
  have bl := B.line
  have bn := B.need
  have b1 := fun H : AHeap => build1 (.int .u8 0) H (x := by8 c) rfl
  by_cases h24 : s.st = 2 ∨ s.st = 4
  · have hpos := B.pos h24
    obtain ⟨vb', H1, m1, L1, n1, q1, o1⟩ := P.b.1.push c (by omega)
    have m1' : aAppend 1 1 (H.push (.cells [by8 c] 0 false)) vb (oneS H) = some (vb', H1) := m1
    have G := P.grown (k := 4) (H' := H1) (by omega) (by omega) n1 fun x hx ht => o1 x hx (P.b.2.mono fun b hb => by rintro rfl; exact ht hb.2)
    have tp := G.tp
    obtain ⟨H2, m2, r2, k2, o2⟩ := row_st G.row (n := 15) rfl (i := 8) (by omega) (x := vb') L1.one rfl
    have hLC : LC H1.next (upT τ H H1 4) H1 vb' (s.now.body ++ [c]) 4 := by
      refine ⟨L1, ?_⟩
      refine ((q1 (fun b => b < n ∧ τ b = 4) P.b.2).and L1.blk).mono fun b hb => ⟨hb.2, ?_⟩
      rcases hb.1 with h | h
      · rw [upT_old (by omega)]; exact h.2
      · exact upT_new h hb.2
    have P2 : PV H1.next (upT τ H H1 4) H2 p { s with now := { s.now with body := s.now.body ++ [c] } } rd vl vh vb' vr :=
      PV.of (s' := { s with now := { s.now with body := s.now.body ++ [c] } }) r2 k2 o2 G.pn (Nat.le_refl _) G.tp G.tz (G.l (by omega)) (G.h (by omega)) hLC (G.r (by omega))
    have F2 : Fr τ H (upT τ H H1 4) H2 := G.f.trans ⟨by omega, fun x hx h0 => ⟨rfl, o2 x (by rintro rfl; omega)⟩⟩
    obtain ⟨_, _, _, _, _, _, _, _, l10b, _⟩ := P2.lds
    have w1 : IntKind.i64.wrap ((s.need : Int) - 1) = ((s.need - 1 : Nat) : Int) := by rw [wrap64 (by omega) (by omega)]; omega
    obtain ⟨H3, m3, r3, k3, o3⟩ := row_st P2.row (n := 15) rfl (i := 10) (by omega) (x := .int .i64 ((s.need - 1 : Nat) : Int)) rfl rfl
    have P3 : PV H1.next (upT τ H H1 4) H3 p { s with now := { s.now with body := s.now.body ++ [c] }, need := s.need - 1 } rd vl vh vb' vr := P2.own (s' := { s with now := { s.now with body := s.now.body ++ [c] }, need := s.need - 1 }) r3 k3 o3 rfl rfl rfl
    have F3 : Fr τ H (upT τ H H1 4) H3 := F2.trans (fr_own P2 k3 o3)
    have e3 : H3.next = H1.next := by omega
    obtain ⟨_, l1c, _, _, _, _, _, _, l10c, _⟩ := P3.lds
    have et : takeF s c = (if 0 < s.need - 1 then ({ s with now := { s.now with body := s.now.body ++ [c] }, need := s.need - 1 }, [], 0) else if s.st = 2 then ((wholeF { s with now := { s.now with body := s.now.body ++ [c] }, need := s.need - 1 }).1, (wholeF { s with now := { s.now with body := s.now.body ++ [c] }, need := s.need - 1 }).2, 0) else ({ s with now := { s.now with body := s.now.body ++ [c] }, need := s.need - 1, st := 5 }, [], 0)) := by
      unfold takeF; rw [if_pos h24]
    have P3' : PV H3.next (upT τ H H1 4) H3 p { s with now := { s.now with body := s.now.body ++ [c] }, need := s.need - 1 } rd vl vh vb' vr := by rw [e3]; exact P3
    have B3 : Bm (k + 1) { s with now := { s.now with body := s.now.body ++ [c] }, need := s.need - 1 } := by
      have B' := (B.more (Nat.le_succ k)).bm
      exact ⟨B'.m, B'.t, by simp; omega, B'.hs, B'.he⟩
    -- the same in both states
    have main : ∀ (T : Env) (H0 : AHeap), H0 = H3 → True := fun _ _ _ => trivial
    by_cases hn : 0 < s.need - 1
    · have hn' : (0 : Int) < ((s.need - 1 : Nat) : Int) := by omega
      rw [et, if_pos hn]
      by_cases h2 : s.st = 2
      · have h2' : (s.st : Int) = 2 := by omega
        simp only [c21, sW, sL, aw_block, sXs, sXO, sXP, Int.reduceNegSucc, reduceCtorEq, Nat.reduceEqDiff, ↓reduceIte, Nat.reduceAdd, Int.reduceEq, Int.reduceLT, Int.reduceLE, nil_cell, fldA, l1, eq_true h2', l8, b1, m1', m2, l10b, w1, m3, l10c, hn']
        exact told_pv P3' F3 0
      · have h2' : ¬ (s.st : Int) = 2 := by omega
        have h4' : (s.st : Int) = 4 := by omega
        simp only [c21, sW, sL, aw_block, sXs, sXO, sXP, Int.reduceNegSucc, reduceCtorEq, Nat.reduceEqDiff, ↓reduceIte, Nat.reduceAdd, Int.reduceEq, Int.reduceLT, Int.reduceLE, nil_cell, fldA, l1, eq_false h2', eq_true h4', l8, b1, m1', m2, l10b, w1, m3, l10c, hn']
        exact told_pv P3' F3 0
    · have hn' : ¬ (0 : Int) < ((s.need - 1 : Nat) : Int) := by omega
      rw [et, if_neg hn]
      by_cases h2 : s.st = 2
      · have h2' : (s.st : Int) = 2 := by omega
        simp only [c21, sW, sL, aw_block, sXs, sXO, sXP, Int.reduceNegSucc, reduceCtorEq, Nat.reduceEqDiff, ↓reduceIte, Nat.reduceAdd, Int.reduceEq, Int.reduceLT, Int.reduceLE, nil_cell, fldA, l1, eq_true h2', l8, b1, m1', m2, l10b, w1, m3, l10c, hn', l1c]
        rw [if_pos h2]
        refine (whole_spec ⟨_, _, _, _, P3⟩ B3 (by omega) hrd).mono ?_
        rintro v H4 ⟨τ', q1, q2⟩
        simp only [sW, sL, aw_block, sXs, sXO, sXP, Int.reduceNegSucc, reduceCtorEq, Nat.reduceEqDiff, ↓reduceIte, Nat.reduceAdd, Int.reduceEq, Int.reduceLT, Int.reduceLE]
        exact ⟨rfl, τ', q1, F3.trans q2⟩
      · have h2' : ¬ (s.st : Int) = 2 := by omega
        have h4' : (s.st : Int) = 4 := by omega
        obtain ⟨H4, m4, r4, k4, o4⟩ := row_st P3.row (n := 15) rfl (i := 1) (by omega) (x := .int .i64 5) rfl rfl
        simp only [c21, sW, sL, aw_block, sXs, sXO, sXP, Int.reduceNegSucc, reduceCtorEq, Nat.reduceEqDiff, ↓reduceIte, Nat.reduceAdd, Int.reduceEq, Int.reduceLT, Int.reduceLE, nil_cell, fldA, l1, eq_false h2', eq_true h4', l8, b1, m1', m2, l10b, w1, m3, l10c, hn', l1c, m4]
        rw [if_neg h2]
        have P4 : PV H1.next (upT τ H H1 4) H4 p { s with now := { s.now with body := s.now.body ++ [c] }, need := s.need - 1, st := 5 } rd vl vh vb' vr := P3.own (s' := { s with now := { s.now with body := s.now.body ++ [c] }, need := s.need - 1, st := 5 }) r4 k4 o4 rfl rfl rfl
        have e4 : H4.next = H1.next := by omega
        refine told_pv (by rw [e4]; exact P4) (F3.trans (fr_own P3 k4 o4)) 0
  · have n2 : ¬ (s.st : Int) = 2 := by omega
    have n4 : ¬ (s.st : Int) = 4 := by omega
    by_cases h5 : s.st = 5
    · have h5' : (s.st : Int) = 5 := by omega
      have et : takeF s c = (if c.toNat ≠ 13 then (s, [], 22) else ({ s with st := 6 }, [], 0)) := by
        unfold takeF; rw [if_neg h24, if_pos h5]
      by_cases hc : c.toNat = 13
      · have hc' : (c.toNat : Int) = 13 := by omega
        obtain ⟨H1, m1, r1, k1, o1⟩ := row_st P.row (n := 15) rfl (i := 1) (by omega) (x := .int .i64 6) rfl rfl
        simp only [c21, sW, sL, aw_block, sXs, sXO, sXP, Int.reduceNegSucc, reduceCtorEq, Nat.reduceEqDiff, ↓reduceIte, Nat.reduceAdd, Int.reduceEq, Int.reduceLT, Int.reduceLE, nil_cell, fldA, l1, eq_false n2, eq_false n4, eq_true h5', eq_true hc', m1]
        rw [et, if_neg (by omega)]
        exact told_own (P.own (s' := { s with st := 6 }) r1 k1 o1 rfl rfl rfl) (fr_own P k1 o1) 0
      · have hc' : ¬ (c.toNat : Int) = 13 := by omega
        simp only [c21, sW, sL, aw_block, sXs, sXO, sXP, Int.reduceNegSucc, reduceCtorEq, Nat.reduceEqDiff, ↓reduceIte, Nat.reduceAdd, Int.reduceEq, Int.reduceLT, Int.reduceLE, nil_cell, fldA, l1, eq_false n2, eq_false n4, eq_true h5', eq_false hc']
        rw [et, if_pos hc]
        exact told_own P (Fr.refl _ _) 22
    · have n5 : ¬ (s.st : Int) = 5 := by omega
      by_cases h6 : s.st = 6
      · have h6' : (s.st : Int) = 6 := by omega
        have et : takeF s c = (if c.toNat ≠ 10 then (s, [], 22) else ({ s with st := 3 }, [], 0)) := by
          unfold takeF; rw [if_neg h24, if_neg h5, if_pos h6]
        by_cases hc : c.toNat = 10
        · have hc' : (c.toNat : Int) = 10 := by omega
          obtain ⟨H1, m1, r1, k1, o1⟩ := row_st P.row (n := 15) rfl (i := 1) (by omega) (x := .int .i64 3) rfl rfl
          simp only [c21, sW, sL, aw_block, sXs, sXO, sXP, Int.reduceNegSucc, reduceCtorEq, Nat.reduceEqDiff, ↓reduceIte, Nat.reduceAdd, Int.reduceEq, Int.reduceLT, Int.reduceLE, nil_cell, fldA, l1, eq_false n2, eq_false n4, eq_false n5, eq_true h6', eq_true hc', m1]
          rw [et, if_neg (by omega)]
          exact told_own (P.own (s' := { s with st := 3 }) r1 k1 o1 rfl rfl rfl) (fr_own P k1 o1) 0
        · have hc' : ¬ (c.toNat : Int) = 10 := by omega
          simp only [c21, sW, sL, aw_block, sXs, sXO, sXP, Int.reduceNegSucc, reduceCtorEq, Nat.reduceEqDiff, ↓reduceIte, Nat.reduceAdd, Int.reduceEq, Int.reduceLT, Int.reduceLE, nil_cell, fldA, l1, eq_false n2, eq_false n4, eq_false n5, eq_true h6', eq_false hc']
          rw [et, if_pos hc]
          exact told_own P (Fr.refl _ _) 22
      · have n6 : ¬ (s.st : Int) = 6 := by omega
        by_cases hc : c.toNat = 10
        · have hc' : (c.toNat : Int) = 10 := by omega
          have et : takeF s c = endedF s := by
            unfold takeF; rw [if_neg h24, if_neg h5, if_neg h6, if_pos hc]
          simp only [c21, sW, sL, aw_block, sXs, sXO, sXP, Int.reduceNegSucc, reduceCtorEq, Nat.reduceEqDiff, ↓reduceIte, Nat.reduceAdd, Int.reduceEq, Int.reduceLT, Int.reduceLE, nil_cell, fldA, l1, eq_false n2, eq_false n4, eq_false n5, eq_false n6, eq_true hc']
          refine (ended_spec P0 B (by omega) hrd).mono ?_
          rintro v H1 ⟨rfl, hh⟩
          simp only [sW, sL, aw_block, sXs, sXO, sXP, Int.reduceNegSucc, reduceCtorEq, Nat.reduceEqDiff, ↓reduceIte, Nat.reduceAdd, Int.reduceEq, Int.reduceLT, Int.reduceLE]
          rw [et]
          exact ⟨rfl, hh⟩
        · have hc' : ¬ (c.toNat : Int) = 10 := by omega
          obtain ⟨vl', H1, m1, L1, n1, q1, o1⟩ := P.l.1.push c (by omega)
          have m1' : aAppend 1 1 (H.push (.cells [by8 c] 0 false)) vl (oneS H) = some (vl', H1) := m1
          have G := P.grown (k := 2) (H' := H1) (by omega) (by omega) n1 fun x hx ht => o1 x hx (P.l.2.mono fun b hb => by rintro rfl; exact ht hb.2)
          have tp := G.tp
          obtain ⟨H2, m2, r2, k2, o2⟩ := row_st G.row (n := 15) rfl (i := 3) (by omega) (x := vl') L1.one rfl
          have hLC : LC H1.next (upT τ H H1 2) H1 vl' (s.line ++ [c]) 2 := by
            refine ⟨L1, ?_⟩
            refine ((q1 (fun b => b < n ∧ τ b = 2) P.l.2).and L1.blk).mono fun b hb => ⟨hb.2, ?_⟩
            rcases hb.1 with h | h
            · rw [upT_old (by omega)]; exact h.2
            · exact upT_new h hb.2
          have P2 : PV H1.next (upT τ H H1 2) H2 p { s with line := s.line ++ [c] } rd vl' vh vb vr :=
            PV.of (s' := { s with line := s.line ++ [c] }) r2 k2 o2 G.pn (Nat.le_refl _) G.tp G.tz hLC (G.h (by omega)) (G.b (by omega)) (G.r (by omega))
          have F2 : Fr τ H (upT τ H H1 2) H2 := G.f.trans ⟨by omega, fun x hx h0 => ⟨rfl, o2 x (by rintro rfl; omega)⟩⟩
          have k2' : H2.next = H1.next := k2
          have P2' : PV H2.next (upT τ H H1 2) H2 p { s with line := s.line ++ [c] } rd vl' vh vb vr := by rw [k2']; exact P2
          obtain ⟨_, _, _, l3b, _⟩ := P2.lds
          have hlen : aLenK false vl' = some (.int .i64 ((s.line.length + 1 : Nat) : Int)) := by have := L1.len; simpa using this
          by_cases hbig : 2001 < s.line.length + 1
          · have hbig' : (2001 : Int) < ((s.line.length + 1 : Nat) : Int) := by omega
            simp only [c21, sW, sL, aw_block, sXs, sXO, sXP, Int.reduceNegSucc, reduceCtorEq, Nat.reduceEqDiff, ↓reduceIte, Nat.reduceAdd, Int.reduceEq, Int.reduceLT, Int.reduceLE, nil_cell, fldA, l1, eq_false n2, eq_false n4, eq_false n5, eq_false n6, eq_false hc', l3, b1, m1', m2, l3b, hlen, hbig']
            have et : takeF s c = ({ s with line := s.line ++ [c] }, [], 3) := by
              unfold takeF; rw [if_neg h24, if_neg h5, if_neg h6, if_neg hc, if_pos hbig]
            rw [et]
            exact told_pv P2' F2 3
          · have hbig' : ¬ (2001 : Int) < ((s.line.length + 1 : Nat) : Int) := by omega
            simp only [c21, sW, sL, aw_block, sXs, sXO, sXP, Int.reduceNegSucc, reduceCtorEq, Nat.reduceEqDiff, ↓reduceIte, Nat.reduceAdd, Int.reduceEq, Int.reduceLT, Int.reduceLE, nil_cell, fldA, l1, eq_false n2, eq_false n4, eq_false n5, eq_false n6, eq_false hc', l3, b1, m1', m2, l3b, hlen, hbig']
            have et : takeF s c = ({ s with line := s.line ++ [c] }, [], 0) := by
              unfold takeF; rw [if_neg h24, if_neg h5, if_neg h6, if_neg hc, if_neg hbig]
            rw [et]
            exact told_pv P2' F2 0
end
end Go.Proofs.Ht
/- Http: many bytes; a new parser; what is ready, one by one: the contracts. -/
namespace Go.Proofs.Ht
open Go.Abs Go.Abs.S
set_option linter.unusedSimpArgs false
section
variable {n : Nat} {τ : Nat → Nat} {H : AHeap} {p : Nat} {s : PS} {rd : List Rq} {vl vh vb vr : AVal}
theorem feed_len (s : PS) (l : Bs) : (feedF s l).2.length ≤ l.length + 1 := by
  have h1 := pot_feed s l
  have h2 := pot_le s
  omega
theorem feed_spec (P : PR n τ H p s rd) {k : Nat} (B : Bd k s) {v : AVal} {l : Bs} {m : Nat} (hv : Cel m H v (byts l)) (hb : Blk v fun b => b < H.next ∧ τ b = 0) (hk : k + 2 * l.length < 900000) (hrd : rd.length + l.length < 900000) :
    ACalls Try.prog natH 8 [cellR p 15 0, v] H fun w H' => w = .int .i64 ((feedF s l).1.fault : Int) ∧ ∃ τ', PR H'.next τ' H' p (feedF s l).1 (rd ++ (feedF s l).2) ∧ Fr τ H τ' H' := by
  refine acalls_ofN rfl za8 rfl ?_
  simp only [c8, sW, sL, aw_block, sXs, sXO, sXP, Int.reduceNegSucc, reduceCtorEq, Nat.reduceEqDiff, ↓reduceIte, Nat.reduceAdd, Int.reduceEq, Int.reduceLT, Int.reduceLE]
  refine (made_spec P).mono ?_
  rintro w _ ⟨rfl, rfl⟩
  simp only [sW, sL, aw_block, sXs, sXO, sXP, Int.reduceNegSucc, reduceCtorEq, Nat.reduceEqDiff, ↓reduceIte, Nat.reduceAdd, Int.reduceEq, Int.reduceLT, Int.reduceLE, byts_len' hv]
  refine aw_cut (fun (T : Env) H' => T 0 = cellR p 15 0 ∧ ∃ n' τ', PR n' τ' H' p (feedF s l).1 (rd ++ (feedF s l).2) ∧ Fr τ H τ' H') (calls_mono _ _) ?_ ?_
  · refine aw_loop (fun q (T : Env) H' => ∃ j : Nat, j ≤ l.length ∧ q = l.length - j ∧ T 0 = cellR p 15 0 ∧ T 11 = v ∧ T 12 = .int .i64 (l.length : Int) ∧ T 13 = .int .i64 (j : Int) ∧ ∃ n' τ', PR n' τ' H' p (feedF s (l.take j)).1 (rd ++ (feedF s (l.take j)).2) ∧ Fr τ H τ' H') l.length
      ⟨0, Nat.zero_le _, rfl, by simp only [sW, sL, aw_block, sXs, sXO, sXP, Int.reduceNegSucc, reduceCtorEq, Nat.reduceEqDiff, ↓reduceIte, Nat.reduceAdd, Int.reduceEq, Int.reduceLT, Int.reduceLE]; try rfl, by simp only [sW, sL, aw_block, sXs, sXO, sXP, Int.reduceNegSucc, reduceCtorEq, Nat.reduceEqDiff, ↓reduceIte, Nat.reduceAdd, Int.reduceEq, Int.reduceLT, Int.reduceLE]; try rfl, by simp only [sW, sL, aw_block, sXs, sXO, sXP, Int.reduceNegSucc, reduceCtorEq, Nat.reduceEqDiff, ↓reduceIte, Nat.reduceAdd, Int.reduceEq, Int.reduceLT, Int.reduceLE]; try rfl, by simp only [sW, sL, aw_block, sXs, sXO, sXP, Int.reduceNegSucc, reduceCtorEq, Nat.reduceEqDiff, ↓reduceIte, Nat.reduceAdd, Int.reduceEq, Int.reduceLT, Int.reduceLE]; try rfl, n, τ, by simpa [feedF] using P, Fr.refl _ _⟩ ?_
    rintro q T H' ⟨j, hj, rfl, g0, g11, g12, g13, n', τ', P', F'⟩
    have Bj := bd_feed B (l.take j)
    have hlj : (l.take j).length = j := List.length_take_of_le hj
    rw [hlj] at Bj
    have hfl := feed_len s (l.take j)
    rw [hlj] at hfl
    by_cases hlt : j < l.length
    · have hlt' : (j : Int) < (l.length : Int) := by omega
      obtain ⟨c, hc⟩ := isSome_of_lt hlt
      have hv' : Cel (max m H.next) H' v (byts l) := hv.fr (Nat.le_max_left _ _) (hb.mono fun b hb => (F'.2 b hb.1 (.inl hb.2)).2)
      have ix := hv'.idx .i64 (i := j) (by rw [byts_len]; exact hlt)
      have lx := hv'.load (byts_get hc)
      have hnx : feedF s (l.take (j + 1)) = ((stepF (feedF s (l.take j)).1 c).1, (feedF s (l.take j)).2 ++ (stepF (feedF s (l.take j)).1 c).2) := by
        rw [List.take_add_one, hc, Option.toList_some, feed_app, feed_one]
      generalize hX : feedF s (l.take j) = X at *
      obtain ⟨sj, out⟩ := X
      simp only at P' Bj hfl hnx
      obtain ⟨vl, vh, vb, vr, Q⟩ := P'
      obtain ⟨l0, l1, l2, l3, l4, l7, l8, l9, l10, l11, l12, _⟩ := Q.lds
      by_cases h8 : sj.st = 8
      · have h8' : (sj.st : Int) = 8 := by omega
        simp only [sW, sL, aw_block, sXs, sXO, sXP, Int.reduceNegSucc, reduceCtorEq, Nat.reduceEqDiff, ↓reduceIte, Nat.reduceAdd, Int.reduceEq, Int.reduceLT, Int.reduceLE, g0, g11, g12, g13, hlt', ix, lx, nil_cell, fldA, l1, eq_true h8']
        have e : feedF s l = (sj, out) := by
          conv => lhs; rw [← List.take_append_drop j l]
          rw [feed_app, hX, feed_8 h8]; simp
        exact ⟨(by first | trivial | rfl | assumption), n', τ', by rw [e]; exact ⟨_, _, _, _, Q⟩, F'⟩
      · have h8' : ¬ (sj.st : Int) = 8 := by omega
        have bf := Bj.fed
        obtain ⟨H1, m1, r1, k1, o1⟩ := row_st Q.row (n := 15) rfl (i := 12) (by omega) (x := .int .i64 ((sj.fed + 1 : Nat) : Int)) rfl rfl
        have Q1 : PV n' τ' H1 p { sj with fed := sj.fed + 1 } (rd ++ out) vl vh vb vr := Q.own (s' := { sj with fed := sj.fed + 1 }) r1 k1 o1 rfl rfl rfl
        have F1 : Fr τ H τ' H1 := F'.trans (fr_own Q k1 o1)
        simp only [sW, sL, aw_block, sXs, sXO, sXP, Int.reduceNegSucc, reduceCtorEq, Nat.reduceEqDiff, ↓reduceIte, Nat.reduceAdd, Int.reduceEq, Int.reduceLT, Int.reduceLE, g0, g11, g12, g13, hlt', ix, lx, nil_cell, fldA, l1, eq_false h8', l12, wrap1 sj.fed (by omega), m1]
        refine (take_spec ⟨_, _, _, _, Q1⟩ Bj.fedUp (by omega) (by rw [List.length_append]; omega) c).mono ?_
        rintro w H2 ⟨rfl, τ2, P2, F2⟩
        have es : stepF sj c = (if (takeF { sj with fed := sj.fed + 1 } c).2.2 = 0 then ((takeF { sj with fed := sj.fed + 1 } c).1, (takeF { sj with fed := sj.fed + 1 } c).2.1) else (PS.reset { (takeF { sj with fed := sj.fed + 1 } c).1 with fault := (takeF { sj with fed := sj.fed + 1 } c).2.2 } 8, (takeF { sj with fed := sj.fed + 1 } c).2.1)) := by
          unfold stepF; rw [if_neg h8]
        generalize takeF { sj with fed := sj.fed + 1 } c = O at *
        obtain ⟨so, oo, eo⟩ := O
        simp only at P2 es
        by_cases he : eo = 0
        · have he' : (eo : Int) = 0 := by omega
          simp only [sW, sL, aw_block, sXs, sXO, sXP, Int.reduceNegSucc, reduceCtorEq, Nat.reduceEqDiff, ↓reduceIte, Nat.reduceAdd, Int.reduceEq, Int.reduceLT, Int.reduceLE, g0, g11, g12, g13, he', wrap1 j (by omega)]
          rw [if_pos he] at es
          refine ⟨_, by omega, j + 1, by omega, rfl, (by first | trivial | rfl | assumption), (by first | trivial | rfl | assumption), (by first | trivial | rfl | assumption), (by first | trivial | rfl | assumption), H2.next, τ2, ?_, F1.trans F2⟩
          rw [hnx, es, ← List.append_assoc]; exact P2
        · have he' : ¬ (eo : Int) = 0 := by omega
          rw [if_neg he] at es
          obtain ⟨vl2, vh2, vb2, vr2, Q2⟩ := P2
          obtain ⟨H3, m3, r3, k3, o3⟩ := row_st Q2.row (n := 15) rfl (i := 2) (by omega) (x := .int .i64 (eo : Int)) rfl rfl
          have Q3 : PV H2.next τ2 H3 p { so with fault := eo } (rd ++ out ++ oo) vl2 vh2 vb2 vr2 := Q2.own (s' := { so with fault := eo }) r3 k3 o3 rfl rfl rfl
          have F3 : Fr τ H τ2 H3 := (F1.trans F2).trans (fr_own Q2 k3 o3)
          simp only [sW, sL, aw_block, sXs, sXO, sXP, Int.reduceNegSucc, reduceCtorEq, Nat.reduceEqDiff, ↓reduceIte, Nat.reduceAdd, Int.reduceEq, Int.reduceLT, Int.reduceLE, g0, g11, g12, g13, eq_false he', nil_cell, fldA, m3]
          refine (reset_spec Q3 8).mono ?_
          rintro w H4 ⟨Q4, k4, o4⟩
          have tp := Q3.tp
          simp only [sW, sL, aw_block, sXs, sXO, sXP, Int.reduceNegSucc, reduceCtorEq, Nat.reduceEqDiff, ↓reduceIte, Nat.reduceAdd, Int.reduceEq, Int.reduceLT, Int.reduceLE, g0, g11, g12, g13, wrap1 j (by omega)]
          refine ⟨_, by omega, j + 1, by omega, rfl, (by first | trivial | rfl | assumption), (by first | trivial | rfl | assumption), (by first | trivial | rfl | assumption), (by first | trivial | rfl | assumption), H2.next, τ2, ?_, F3.trans ⟨by omega, fun x hx h0 => ⟨rfl, o4 x (by rintro rfl; omega)⟩⟩⟩
          rw [hnx, es, ← List.append_assoc]; exact ⟨_, _, _, _, Q4⟩
    · have hlt' : ¬ (j : Int) < (l.length : Int) := by omega
      rw [List.take_of_length_le (by omega)] at P'
      simp only [sW, sL, aw_block, sXs, sXO, sXP, Int.reduceNegSucc, reduceCtorEq, Nat.reduceEqDiff, ↓reduceIte, Nat.reduceAdd, Int.reduceEq, Int.reduceLT, Int.reduceLE, g0, g11, g12, g13, hlt']
      exact ⟨(by first | trivial | rfl | assumption), n', τ', P', F'⟩
  · rintro T H' ⟨g0, n', τ', ⟨vl, vh, vb, vr, Q⟩, F'⟩
    obtain ⟨l0, l1, l2, _⟩ := Q.lds
    simp only [sW, sL, aw_block, sXs, sXO, sXP, Int.reduceNegSucc, reduceCtorEq, Nat.reduceEqDiff, ↓reduceIte, Nat.reduceAdd, Int.reduceEq, Int.reduceLT, Int.reduceLE, g0, nil_cell, fldA, l2]
    exact ⟨(by first | trivial | rfl | assumption), τ', ⟨_, _, _, _, Q.more Q.nn (Nat.le_refl _)⟩, F'⟩
/-- marks of a parser that is new -/
def newT (p : Nat) : Nat → Nat := fun c => if c = p then 1 else 0
theorem szF_nil : szF [] = 0 := by simp [szF, sumSz, IntKind.wrap_i64]
theorem new_spec (H : AHeap) : ACalls Try.prog natH 7 [] H fun v H' => v = cellR H.next 15 0 ∧ PR (H.next + 1) (newT H.next) H' H.next PS.zero [] ∧ H'.next = H.next + 1 ∧ ∀ c, c < H.next → H'.get c = H.get c := by
  refine acalls_ofN rfl za7 rfl ?_
  obtain ⟨H1, m1, r1, k1, o1⟩ := row_newL H [.ptr none, .int .i64 0, .int .i64 0, .slice none 0 (.known 0), .bool false, .str [], .str [], .slice none 0 (.known 0), .slice none 0 (.known 0), .bool false, .int .i64 0, .int .i64 0, .int .i64 0, .slice none 0 (.known 0), .int .i64 0] (n := 15) rfl
  have bb : aBuild [.ptr none, .int .i64 0, .int .i64 0, .slice none 0 (.known 0), .bool false, .str [], .str [], .slice none 0 (.known 0), .slice none 0 (.known 0), .bool false, .int .i64 0, .int .i64 0, .int .i64 0, .slice none 0 (.known 0), .int .i64 0] [] = some (.agg [.ptr none, .int .i64 0, .int .i64 0, .slice none 0 (.known 0), .bool false, .str [], .str [], .slice none 0 (.known 0), .slice none 0 (.known 0), .bool false, .int .i64 0, .int .i64 0, .int .i64 0, .slice none 0 (.known 0), .int .i64 0]) := rfl
  obtain ⟨H2, m2, r2, k2, o2⟩ := row_st r1 (n := 15) rfl (i := 0) (by omega) (x := cellR H.next 15 0) rfl rfl
  simp only [c7, sW, sL, aw_block, sXs, sXO, sXP, Int.reduceNegSucc, reduceCtorEq, Nat.reduceEqDiff, ↓reduceIte, Nat.reduceAdd, Int.reduceEq, Int.reduceLT, Int.reduceLE, bb, cells_agg, m1, nil_cell, fldA, m2]
  refine ⟨(by first | trivial | rfl | assumption), ⟨nilS, nilS, nilS, nilS, ?_⟩, by omega, fun c hc => by rw [o2 c (by omega), o1 c (by omega)]⟩
  have hr : Row H2 H.next (pC H.next PS.zero nilS nilS nilS nilS (szF [])) := by rw [szF_nil]; exact r2
  exact ⟨hr, by omega, by omega, by simp [newT], fun c hc => by simp only [newT]; rw [if_neg (by omega)], ⟨Lin.nil _, blk_nil _⟩, ⟨AppN.nil _ _ _, blk_nil _⟩, ⟨Lin.nil _, blk_nil _⟩, .inl ⟨rfl, rfl⟩⟩
/-- the first one that is ready -/
theorem RC.next {r : Rq} {rest : List Rq} {v : AVal} (h : RC 5 n τ H v (r :: rest)) :
    ∃ b lim o vh vb v' H1, aIdxA 5 v (.int .i64 0) = some (cellR b lim o) ∧ oLoad true 5 H (cellR b lim o) = some (.agg (rqC r vh vb)) ∧ RqAt n τ H (rqC r vh vb) r ∧ b < n ∧ τ b = 5 ∧
      oStore 5 H (cellR b lim o) (.agg [.str [], .str [], .slice none 0 (.known 0), .slice none 0 (.known 0), .bool false]) = some H1 ∧ H1.next = H.next ∧ (∀ c, c ≠ b → H1.get c = H.get c) ∧
      aSl 5 v (some (.int .i64 1)) none none = some v' ∧ v'.one = true ∧ RC 5 n τ H1 v' rest := by
  rcases h with ⟨_, h⟩ | ⟨b, o, low, L, rfl, h2, h3, h4, h5, h6, h7⟩
  · simp at h
  · simp only [List.length_cons] at h4
    obtain ⟨vh, vb, e1, e2, e3, e4, e5, e6, e7⟩ := h7 0 r rfl
    have hR : Row H b L := ⟨low, h2, h3⟩
    have hld := row_loadK hR rfl (i := o) (k := 5) (by omega)
    have e1' : (L.drop o).take 5 = rqC r vh vb := by simpa using e1
    rw [e1'] at hld
    obtain ⟨H1, m1, r1, k1, o1⟩ := row_storeK hR rfl (i := o) (k := 5) (by omega) (xs := [.str [], .str [], .slice none 0 (.known 0), .slice none 0 (.known 0), .bool false]) rfl rfl
    have hlen : (L.take o ++ ([AVal.str [], .str [], .slice none 0 (.known 0), .slice none 0 (.known 0), .bool false] ++ L.drop (o + 5))).length = L.length := by simp; omega
    refine ⟨b, L.length, o, vh, vb, .slice (some ⟨b, L.length, o + 5⟩) rest.length (.open_ 5), H1, ?_, hld, ⟨vh, vb, rfl, e2, e3, e4, e5, e6, e7⟩, h5, h6, m1, k1, o1, ?_, rfl, .inr ?_⟩
    · show (bif Nat.blt 0 (rest.length + 1) then some (AVal.ptr (some ⟨b, L.length, o + 0 * 5⟩)) else none) = _
      rfl
    · have hb1 : aBnd (rest.length + 1) ((L.length - o) / 5) (some (.int .i64 1)) none none = some (1, rest.length + 1, none) := by
        have : bd (.int .i64 1) (rest.length + 1) = some 1 := bd_nat (n := 1) (by omega)
        simp only [aBnd, bdO, this]
      simp only [aSl, Nat.beq_refl, cond_true, List.length_cons, hb1]
      rw [Nat.ble_eq_true_of_le (show o + (rest.length + 1) * 5 ≤ L.length by omega), cond_true]
      congr 2
    · obtain ⟨low', q1, q2⟩ := r1
      refine ⟨b, o + 5, low', _, by rw [hlen], q1, q2, by rw [hlen]; omega, h5, h6, fun i q hq => ?_⟩
      have := h7 (i + 1) q (by simpa using hq)
      have hd : (L.take o ++ ([AVal.str [], .str [], .slice none 0 (.known 0), .slice none 0 (.known 0), .bool false] ++ L.drop (o + 5))).drop (o + 5 + i * 5) = L.drop (o + (i + 1) * 5) := by
        have hl5 : (L.take o ++ [AVal.str [], .str [], .slice none 0 (.known 0), .slice none 0 (.known 0), .bool false]).length = o + 5 := by simp; omega
        rw [← List.append_assoc, ← List.drop_drop, List.drop_left' hl5, List.drop_drop]
        congr 1; omega
      rw [hd]
      exact this.fr (Nat.le_refl _) (fun _ _ h => h) fun c _ h0 => o1 c (by rintro rfl; omega)
def noRq : List AVal := [.str [], .str [], .slice none 0 (.known 0), .slice none 0 (.known 0), .bool false]
theorem szF_sub (r : Rq) (rest : List Rq) : IntKind.i64.wrap (szF (r :: rest) - (rqSz r : Int)) = szF rest := by
  have : sumSz (r :: rest) = rqSz r + sumSz rest := by simp [sumSz]
  rw [szF, szF, this, IntKind.wrap_i64, IntKind.wrap_i64, IntKind.wrap_i64]
  omega
theorem fin_ct5 {T : Env} {H : AHeap} (i j : Nat) (K : AVal → AHeap → Prop) {v : AVal} (h : oLoad true 5 H (T i) = some v) (hk : K (.tuple [v, T j]) H) : fin [.cell true 5 i, .t j] K .ret T H := by
  simp only [fin, wRes, h, OptP_some]; exact hk
theorem next_none (P : PR n τ H p s []) : ACalls Try.prog natH 12 [cellR p 15 0] H fun v H' => v = .tuple [.agg noRq, .bool false] ∧ Ext H.next H H' := by
  have P0 := P
  obtain ⟨vl, vh, vb, vr, P⟩ := P
  refine acalls_ofN rfl za12 rfl ?_
  obtain ⟨H1, m1, r1, k1, o1⟩ := row_newL H noRq (n := 5) rfl
  have m1' : oNew H [.str [], .str [], .slice none 0 (.known 0), .slice none 0 (.known 0), .bool false] = (cellR H.next 5 0, H1) := m1
  have nn := P.nn
  have E1 : Ext H.next H H1 := Ext.of_new k1 o1 (Nat.le_refl _)
  have P1 := P.ext E1.next fun c hc => E1.old c (by omega)
  obtain ⟨l0, l1, l2, l3, l4, l7, l8, l9, l10, l11, l12, l13, _⟩ := P1.lds
  have hlen := P1.r.len
  have hlen' : aLenK false vr = some (.int .i64 0) := hlen
  obtain ⟨H2, m2, r2, k2, o2⟩ := row_storeN r1 (n := 5) rfl (xs := noRq) rfl rfl
  have m2' : oStore 5 H1 (cellR H.next 5 0) (.agg [.str [], .str [], .slice none 0 (.known 0), .slice none 0 (.known 0), .bool false]) = some H2 := m2
  have b0 : aBuild [.str [], .str [], .slice none 0 (.known 0), .slice none 0 (.known 0), .bool false] [] = some (.agg [.str [], .str [], .slice none 0 (.known 0), .slice none 0 (.known 0), .bool false]) := rfl
  simp only [c12, sW, sL, aw_block, sXs, sXO, sXP, Int.reduceNegSucc, reduceCtorEq, Nat.reduceEqDiff, ↓reduceIte, Nat.reduceAdd, Int.reduceEq, Int.reduceLT, Int.reduceLE, m1']
  refine (made_spec ⟨_, _, _, _, P1⟩).mono ?_
  rintro w _ ⟨rfl, rfl⟩
  simp only [sW, sL, aw_block, sXs, sXO, sXP, Int.reduceNegSucc, reduceCtorEq, Nat.reduceEqDiff, ↓reduceIte, Nat.reduceAdd, Int.reduceEq, Int.reduceLT, Int.reduceLE, nil_cell, fldA, l13, hlen', b0, m2']
  refine fin_ct5 _ _ _ (by simp only [sW, sL, aw_block, sXs, sXO, sXP, Int.reduceNegSucc, reduceCtorEq, Nat.reduceEqDiff, ↓reduceIte, Nat.reduceAdd, Int.reduceEq, Int.reduceLT, Int.reduceLE]; exact row_loadN r2 (n := 5) rfl) ⟨by simp only [sW, sL, aw_block, sXs, sXO, sXP, Int.reduceNegSucc, reduceCtorEq, Nat.reduceEqDiff, ↓reduceIte, Nat.reduceAdd, Int.reduceEq, Int.reduceLT, Int.reduceLE]; try rfl, ⟨by omega, fun c hc => by rw [o2 c (by omega)]; exact E1.old c hc⟩⟩
theorem next_some' {r : Rq} {rest : List Rq} (P : PR n τ H p s (r :: rest)) {k : Nat} (hk : k ≤ 1000000) (b1 : r.m.length ≤ k) (b2 : r.t.length ≤ k) (b3 : r.body.length ≤ k) (b4 : r.hs.length ≤ k) (b5 : ∀ h ∈ r.hs, h.1.length ≤ k ∧ h.2.length ≤ k) :
    ACalls Try.prog natH 12 [cellR p 15 0] H fun v H' => ∃ vh vb, v = .tuple [.agg (rqC r vh vb), .bool true] ∧ RqAt n τ H' (rqC r vh vb) r ∧ PR n τ H' p s rest ∧ H.next ≤ H'.next ∧ ∀ c, c < H.next → c ≠ p → τ c ≠ 5 → H'.get c = H.get c := by
  have P0 := P
  obtain ⟨vl, vh, vb, vr, P⟩ := P
  refine acalls_ofN rfl za12 rfl ?_
  obtain ⟨H1, m1, r1, k1, o1⟩ := row_newL H noRq (n := 5) rfl
  have m1' : oNew H [.str [], .str [], .slice none 0 (.known 0), .slice none 0 (.known 0), .bool false] = (cellR H.next 5 0, H1) := m1
  have nn := P.nn
  have pn := P.pn
  have tp := P.tp
  have E1 : Ext H.next H H1 := Ext.of_new k1 o1 (Nat.le_refl _)
  have P1 := P.ext E1.next fun c hc => E1.old c (by omega)
  obtain ⟨l0, l1, l2, l3, l4, l7, l8, l9, l10, l11, l12, l13, l14, _⟩ := P1.lds
  have hlen := P1.r.len
  have hne : ¬ (((r :: rest).length : Nat) : Int) = 0 := by simp; omega
  obtain ⟨b, lim, o, wh, wb, v', H2, a1, a2, a3, a4, a5, a6, a7, a8, a9, a10, a11⟩ := P1.r.next
  -- r is put aside
  obtain ⟨H3, m3, r3, k3, o3⟩ := row_newL H1 noRq (n := 5) rfl
  have m3' : oNew H1 [.str [], .str [], .slice none 0 (.known 0), .slice none 0 (.known 0), .bool false] = (cellR H1.next 5 0, H3) := m3
  have ho : (rqC r wh wb).all AVal.one = true := by
    obtain ⟨vh', vb', e1, e2, e3, _⟩ := a3
    have : rqC r wh wb = rqC r vh' vb' := e1
    rw [this]
    simp only [rqC, List.all_cons, List.all_nil, e2, e3, Bool.and_true]; rfl
  obtain ⟨H4, m4, r4, k4, o4⟩ := row_storeN r3 (n := 5) rfl (xs := rqC r wh wb) rfl ho
  have P4 := P1.ext (H' := H4) (by omega) fun c hc => by rw [o4 c (by omega), o3 c (by omega)]
  obtain ⟨b', lim', o', wh', wb', v2, H5, c1, c2, c3, c4, c5, c6, c7, c8, c9, c10, c11⟩ := P4.r.next
  have eb : cellR b' lim' o' = cellR b lim o := by rw [a1] at c1; simpa using c1.symm
  have ev : v2 = v' := by rw [a9] at c9; simpa using c9.symm
  subst ev
  have R5 : Row H5 p (pC p s vl vh vb vr (szF (r :: rest))) := P4.row.same (c8 p (by rintro rfl; omega))
  obtain ⟨H6, m6, r6, k6, o6⟩ := row_st R5 (n := 15) rfl (i := 13) (by omega) (x := v2) c10 rfl
  have r6' : Row H6 p (pC p s vl vh vb v2 (szF (r :: rest))) := r6
  have l13' : oLoad false 1 H4 (cellR p 15 13) = some vr := row_load P4.row rfl rfl
  have l13b : oLoad false 1 H5 (cellR p 15 13) = some vr := row_load R5 rfl rfl
  have l14b : oLoad false 1 H6 (cellR p 15 14) = some (.int .i64 (szF (r :: rest))) := row_load r6' rfl rfl
  have hbn : b' ≠ H1.next := by omega
  have R6 : Row H6 H1.next (rqC r wh wb) := r4.same (by rw [o6 _ (by omega), c8 _ (by omega)])
  have lr6 : oLoad true 5 H6 (cellR H1.next 5 0) = some (.agg (rqC r wh wb)) := row_loadN R6 (n := 5) rfl
  have b0 : aBuild [.str [], .str [], .slice none 0 (.known 0), .slice none 0 (.known 0), .bool false] [] = some (.agg [.str [], .str [], .slice none 0 (.known 0), .slice none 0 (.known 0), .bool false]) := rfl
  have fz : ∀ c, c < n → τ c = 6 → H6.get c = H4.get c := fun c hc h0 => by rw [o6 c (by rintro rfl; omega), c8 c (by rintro rfl; omega)]
  have hA6 : RqAt n τ H6 (rqC r wh wb) r := (a3.fr (H' := H4) (Nat.le_refl _) (fun _ _ h => h) fun c hc h0 => by rw [o4 c (by omega), o3 c (by omega)]).fr (Nat.le_refl _) (fun _ _ h => h) fz
  have hA6' := hA6
  obtain ⟨vh3, vb3, e1, e2, e3, e4, e5, _, _⟩ := hA6'
  have ee : wh = vh3 ∧ wb = vb3 := by
    simp only [rqC, List.cons.injEq, and_true, true_and] at e1
    exact ⟨e1.1, e1.2⟩
  obtain ⟨rfl, rfl⟩ := ee
  simp only [c12, sW, sL, aw_block, sXs, sXO, sXP, Int.reduceNegSucc, reduceCtorEq, Nat.reduceEqDiff, ↓reduceIte, Nat.reduceAdd, Int.reduceEq, Int.reduceLT, Int.reduceLE, m1']
  refine (made_spec ⟨_, _, _, _, P1⟩).mono ?_
  rintro w _ ⟨rfl, rfl⟩
  have c6' : oStore 5 H4 (cellR b lim o) (.agg [.str [], .str [], .slice none 0 (.known 0), .slice none 0 (.known 0), .bool false]) = some H5 := by rw [← eb]; exact c6
  have m6' : oStore 1 H5 (cellR p 15 13) v2 = some H6 := m6
  simp only [sW, sL, aw_block, sXs, sXO, sXP, Int.reduceNegSucc, reduceCtorEq, Nat.reduceEqDiff, ↓reduceIte, Nat.reduceAdd, Int.reduceEq, Int.reduceLT, Int.reduceLE, nil_cell, fldA, l13, hlen, hne, a1, a2, m3', m4, l13', b0, c6', l13b, c9, m6']
  refine aw_drawC rfl ?_
  simp only [sW, sL, aw_block, sXs, sXO, sXP, Int.reduceNegSucc, reduceCtorEq, Nat.reduceEqDiff, ↓reduceIte, Nat.reduceAdd, Int.reduceEq, Int.reduceLT, Int.reduceLE, sR, nil_cell, fldA, l14b, lr6]
  have e5l : aLenK false wb = some (.int .i64 (r.body.length : Int)) := byts_len' e5
  have nn6 : n ≤ H6.next := by omega
  refine (size_spec r e4 e5l nn6 hk b1 b2 b3 b4 b5).mono ?_
  rintro w H7 ⟨rfl, E7⟩
  have R7 : Row H7 p (pC p s vl vh vb v2 (szF (r :: rest))) := r6'.same (E7.old p (by omega))
  obtain ⟨H8, m8, r8, k8, o8⟩ := row_st R7 (n := 15) rfl (i := 14) (by omega) (x := .int .i64 (szF rest)) rfl rfl
  have l14c : oLoad false 1 H7 (cellR p 15 14) = some (.int .i64 (szF (r :: rest))) := row_load R7 rfl rfl
  have n7 := E7.next
  simp only [sW, sL, aw_block, sXs, sXO, sXP, Int.reduceNegSucc, reduceCtorEq, Nat.reduceEqDiff, ↓reduceIte, Nat.reduceAdd, Int.reduceEq, Int.reduceLT, Int.reduceLE, sR, nil_cell, fldA, szF_sub, m8]
  simp only [ck_nil', ck_cons, ckP_load, ckP_nil, ck_end, and_true, true_and, List.map_cons, List.map_nil, sW, sL, aw_block, sXs, sXO, sXP, Int.reduceNegSucc, reduceCtorEq, Nat.reduceEqDiff, ↓reduceIte, Nat.reduceAdd, Int.reduceEq, Int.reduceLT, Int.reduceLE, fldA, l14c]
  refine ⟨⟨_, rfl, fun _ => ⟨_, l14c, aeq_int _ _⟩⟩, ?_⟩
  have R8 : Row H8 H1.next (rqC r wh wb) := R6.same (by rw [o8 _ (by omega), E7.old _ (by omega)])
  have lr8 : oLoad true 5 H8 (cellR H1.next 5 0) = some (.agg (rqC r wh wb)) := row_loadN R8 (n := 5) rfl
  have R8r : Row H8 H.next noRq := r1.same (by rw [o8 _ (by omega), E7.old _ (by omega), o6 _ (by omega), c8 _ (by omega), o4 _ (by omega), o3 _ (by omega)])
  obtain ⟨H9, m9, r9, k9, o9⟩ := row_storeN R8r (n := 5) rfl (xs := rqC r wh wb) rfl ho
  simp only [sW, sL, aw_block, sXs, sXO, sXP, Int.reduceNegSucc, reduceCtorEq, Nat.reduceEqDiff, ↓reduceIte, Nat.reduceAdd, Int.reduceEq, Int.reduceLT, Int.reduceLE, lr8, m9]
  have keep : ∀ c, c < H.next → c ≠ p → τ c ≠ 5 → H9.get c = H.get c := fun c hc h1 h5 => by
    rw [o9 c (by omega), o8 c h1, E7.old c (by omega), o6 c h1, c8 c (by rintro rfl; omega), o4 c (by omega), o3 c (by omega)]; exact E1.old c hc
  have k9' : ∀ c, c < n → c ≠ p → H9.get c = H5.get c := fun c hc h1 => by
    rw [o9 c (by omega), o8 c h1, E7.old c (by omega), o6 c h1]
  refine fin_ct5 _ _ _ (by simp only [sW, sL, aw_block, sXs, sXO, sXP, Int.reduceNegSucc, reduceCtorEq, Nat.reduceEqDiff, ↓reduceIte, Nat.reduceAdd, Int.reduceEq, Int.reduceLT, Int.reduceLE]; exact row_loadN r9 (n := 5) rfl) ⟨wh, wb, by simp only [sW, sL, aw_block, sXs, sXO, sXP, Int.reduceNegSucc, reduceCtorEq, Nat.reduceEqDiff, ↓reduceIte, Nat.reduceAdd, Int.reduceEq, Int.reduceLT, Int.reduceLE], hA6.fr (Nat.le_refl _) (fun _ _ h => h) (fun c hc h0 => ?_), ⟨vl, vh, vb, v2, ?_⟩, by omega, keep⟩
  · rw [o9 c (by omega), o8 c (by rintro rfl; omega), E7.old c (by omega)]
  · have f9 : ∀ k, k ≠ 1 → k ≠ 5 → ∀ c, c < n → τ c = k → H9.get c = H4.get c := fun k h1 h5 c hc hk => by
      rw [k9' c hc (by rintro rfl; omega), c8 c (by rintro rfl; omega)]
    have r9p : Row H9 p (pC p s vl vh vb v2 (szF rest)) := by
      have : Row H8 p (pC p s vl vh vb v2 (szF rest)) := r8
      exact this.same (o9 p (by omega))
    exact ⟨r9p, pn, by omega, tp, P.tz, P4.l.fr (Nat.le_refl _) (by omega) (fun _ _ h => h) (f9 2 (by omega) (by omega)), P4.h.fr (Nat.le_refl _) (by omega) (fun _ _ h => h) (f9 3 (by omega) (by omega)), P4.b.fr (Nat.le_refl _) (by omega) (fun _ _ h => h) (f9 4 (by omega) (by omega)),
      c11.fr (Nat.le_refl _) (fun _ _ _ => rfl) fun c hc hk => k9' c hc (by rintro rfl; omega)⟩
end
end Go.Proofs.Ht
/- A parser of requests, in plain words: how great a request is that comes of so many bytes. Plain Lean. -/
namespace Go.Proofs.Ht
open Go.Abs Go.Abs.S
structure RB (k : Nat) (r : Rq) : Prop where
  m : r.m.length ≤ k
  t : r.t.length ≤ k
  body : r.body.length ≤ k
  hs : r.hs.length ≤ k
  he : ∀ h ∈ r.hs, h.1.length ≤ k ∧ h.2.length ≤ k
theorem RB.more {k m : Nat} {r : Rq} (h : RB k r) (hm : k ≤ m) : RB m r :=
  ⟨by have := h.m; omega, by have := h.t; omega, by have := h.body; omega, by have := h.hs; omega, fun x hx => by have := h.he x hx; omega⟩
theorem Bd.rb {k : Nat} {s : PS} (h : Bd k s) : RB k s.now := ⟨h.m, h.t, h.body, h.hs, h.he⟩
theorem rb_whole {k : Nat} {s : PS} (h : RB k s.now) : ∀ r ∈ (wholeF s).2, RB k r := by
  intro r hr
  have : r = s.now := by simpa [wholeF] using hr
  rw [this]; exact h
theorem rb_headersEnd {k : Nat} {s : PS} (h : Bd k s) : ∀ r ∈ (headersEndF s).2.1, RB k r := by
  have z : ∀ (x : PS) (e : Nat), ∀ r ∈ ((x, ([] : List Rq), e) : Out).2.1, RB k r := fun x e r hr => by simp at hr
  unfold headersEndF
  simp only
  split
  · exact z _ _
  · split
    · exact z _ _
    · split
      · split
        · exact z _ _
        · split
          · exact z _ _
          · split
            · exact z _ _
            · split
              · exact z _ _
              · exact rb_whole ⟨h.m, h.t, h.body, h.hs, h.he⟩
      · split
        · exact z _ _
        · split
          · exact z _ _
          · exact rb_whole ⟨h.m, h.t, h.body, h.hs, h.he⟩
theorem rb_ended {k : Nat} {s : PS} (h : Bd k s) : ∀ r ∈ (endedF s).2.1, RB k r := by
  have z : ∀ (x : PS) (e : Nat), ∀ r ∈ ((x, ([] : List Rq), e) : Out).2.1, RB k r := fun x e r hr => by simp at hr
  have hs : Bd k { s with line := [] } := ⟨h.st, h.fault, Nat.zero_le _, h.m, h.t, h.body, h.hs, h.he, h.trailers, h.fed, h.need, h.pos⟩
  unfold endedF
  simp only
  generalize (if decide (s.line.getLast? = some 13) = true then s.line.take (s.line.length - 1) else s.line) = L
  split
  · exact z _ _
  · split
    · exact z _ _
    · split
      · exact z _ _
      · split
        · unfold headerLineF
          split
          · exact z _ _
          · split
            · exact z _ _
            · split
              · exact rb_headersEnd hs
              · split <;> exact z _ _
        · split
          · exact z _ _
          · unfold trailerF
            split
            · exact z _ _
            · split
              · exact z _ _
              · split
                · exact rb_whole hs.rb
                · split <;> exact z _ _
theorem rb_take {k : Nat} {s : PS} (h : Bd k s) (c : UInt8) : ∀ r ∈ (takeF s c).2.1, RB (k + 1) r := by
  have z : ∀ (x : PS) (e : Nat), ∀ r ∈ ((x, ([] : List Rq), e) : Out).2.1, RB (k + 1) r := fun x e r hr => by simp at hr
  have h' := h.more (Nat.le_succ k)
  unfold takeF
  split
  · dsimp only
    split
    · exact z _ _
    · split
      · exact rb_whole ⟨h'.m, h'.t, by have := h.body; simp; omega, h'.hs, h'.he⟩
      · exact z _ _
  · split
    · split <;> exact z _ _
    · split
      · split <;> exact z _ _
      · split
        · exact fun r hr => (rb_ended h r hr).more (Nat.le_succ k)
        · split <;> exact z _ _
theorem rb_step {k : Nat} {s : PS} (h : Bd k s) (c : UInt8) : ∀ r ∈ (stepF s c).2, RB (k + 2) r := by
  unfold stepF
  split
  · intro r hr; simp at hr
  · have := rb_take h.fedUp c
    dsimp only
    split
    · exact this
    · exact this
theorem rb_feed {k : Nat} {s : PS} (h : Bd k s) (l : Bs) : ∀ r ∈ (feedF s l).2, RB (k + 2 * l.length) r := by
  induction l generalizing s k with
  | nil => intro r hr; simp [feedF] at hr
  | cons c t ih =>
    intro r hr
    simp only [feedF, List.mem_append] at hr
    rcases hr with hr | hr
    · exact (rb_step h c r hr).more (by simp; omega)
    · exact (ih (bd_step h c) r hr).more (by simp; omega)
end Go.Proofs.Ht
