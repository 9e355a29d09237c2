/- Part of a proof (H9 H10 P1 HB1); no condition. -/
import Derived.KernelRfl
import Derived.Shelf.Strings.CaseAny
import Derived.Test.YticgfaajkcdfaaaGreatDoorP7
import Derived.Test.YticgfaajkcdfaaaGreatDoorP9
import Derived.Test.YticgfaajkcdfaaaGreatDoorP10
set_option linter.unusedSimpArgs false
set_option linter.unusedVariables false
set_option linter.unnecessarySimpa false
namespace Go.Proofs.Ht
open Go.Abs Go.Abs.S
set_option linter.unusedSimpArgs false
section
variable {n : Nat} {τ : Nat → Nat} {H : AHeap} {p : Nat} {s : PS} {rd : List Rq} {vl vh vb vr : AVal}
theorem take_spec (P : PR n τ H p s rd) {k : Nat} (B : Bd k s) (hk : k < 1000000) (hrd : rd.length ≤ 1000000) (c : UInt8) :
    ACalls Tryz.prog natX 47 [cellR p 15 0, by8 c] H (Told τ H p rd (takeF s c)) := by
  have P0 := P
  obtain ⟨vl, vh, vb, vr, P⟩ := P
  refine acalls_ofN rfl za47 rfl ?_
  obtain ⟨l0, l1, l2, l3, l4, l7, l8, l9, l10, _⟩ := P.lds
  have nn := P.nn
  have pn := P.pn
  have bb := B.body
  have bl := B.line
  have bn := B.need
  have b1 := fun H : AHeap => build1 (.int .u8 0) H (x := by8 c) rfl
  by_cases h24 : s.st = 2 ∨ s.st = 4
  · have hpos := B.pos h24
    obtain ⟨vb', H1, m1, L1, n1, q1, o1⟩ := P.b.1.push c (by omega)
    have m1' : aAppend 1 1 (H.push (.cells [by8 c] 0 false)) vb (oneS H) = some (vb', H1) := m1
    have G := P.grown (k := 4) (H' := H1) (by omega) (by omega) n1 fun x hx ht => o1 x hx (P.b.2.mono fun b hb => by rintro rfl; exact ht hb.2)
    have tp := G.tp
    obtain ⟨H2, m2, r2, k2, o2⟩ := row_st G.row (n := 15) rfl (i := 8) (by omega) (x := vb') L1.one rfl
    have hLC : LC H1.next (upT τ H H1 4) H1 vb' (s.now.body ++ [c]) 4 := by
      refine ⟨L1, ?_⟩
      refine ((q1 (fun b => b < n ∧ τ b = 4) P.b.2).and L1.blk).mono fun b hb => ⟨hb.2, ?_⟩
      rcases hb.1 with h | h
      · rw [upT_old (by omega)]; exact h.2
      · exact upT_new h hb.2
    have P2 : PV H1.next (upT τ H H1 4) H2 p { s with now := { s.now with body := s.now.body ++ [c] } } rd vl vh vb' vr :=
      PV.of (s' := { s with now := { s.now with body := s.now.body ++ [c] } }) r2 k2 o2 G.pn (Nat.le_refl _) G.tp G.tz (G.l (by omega)) (G.h (by omega)) hLC (G.r (by omega))
    have F2 : Fr τ H (upT τ H H1 4) H2 := G.f.trans ⟨by omega, fun x hx h0 => ⟨rfl, o2 x (by rintro rfl; omega)⟩⟩
    obtain ⟨_, _, _, _, _, _, _, _, l10b, _⟩ := P2.lds
    have w1 : IntKind.i64.wrap ((s.need : Int) - 1) = ((s.need - 1 : Nat) : Int) := by rw [wrap64 (by omega) (by omega)]; omega
    obtain ⟨H3, m3, r3, k3, o3⟩ := row_st P2.row (n := 15) rfl (i := 10) (by omega) (x := .int .i64 ((s.need - 1 : Nat) : Int)) rfl rfl
    have P3 : PV H1.next (upT τ H H1 4) H3 p { s with now := { s.now with body := s.now.body ++ [c] }, need := s.need - 1 } rd vl vh vb' vr := P2.own (s' := { s with now := { s.now with body := s.now.body ++ [c] }, need := s.need - 1 }) r3 k3 o3 rfl rfl rfl
    have F3 : Fr τ H (upT τ H H1 4) H3 := F2.trans (fr_own P2 k3 o3)
    have e3 : H3.next = H1.next := by omega
    obtain ⟨_, l1c, _, _, _, _, _, _, l10c, _⟩ := P3.lds
    have et : takeF s c = (if 0 < s.need - 1 then ({ s with now := { s.now with body := s.now.body ++ [c] }, need := s.need - 1 }, [], 0) else if s.st = 2 then ((wholeF { s with now := { s.now with body := s.now.body ++ [c] }, need := s.need - 1 }).1, (wholeF { s with now := { s.now with body := s.now.body ++ [c] }, need := s.need - 1 }).2, 0) else ({ s with now := { s.now with body := s.now.body ++ [c] }, need := s.need - 1, st := 5 }, [], 0)) := by
      unfold takeF; rw [if_pos h24]
    have P3' : PV H3.next (upT τ H H1 4) H3 p { s with now := { s.now with body := s.now.body ++ [c] }, need := s.need - 1 } rd vl vh vb' vr := by rw [e3]; exact P3
    have B3 : Bm (k + 1) { s with now := { s.now with body := s.now.body ++ [c] }, need := s.need - 1 } := by
      have B' := (B.more (Nat.le_succ k)).bm
      exact ⟨B'.m, B'.t, by simp; omega, B'.hs, B'.he⟩
    have main : ∀ (T : Env) (H0 : AHeap), H0 = H3 → True := fun _ _ _ => trivial
    by_cases hn : 0 < s.need - 1
    · have hn' : (0 : Int) < ((s.need - 1 : Nat) : Int) := by omega
      rw [et, if_pos hn]
      by_cases h2 : s.st = 2
      · have h2' : (s.st : Int) = 2 := by omega
        simp only [c47, sA, Int.reduceNegSucc, reduceCtorEq, Nat.reduceEqDiff, ↓reduceIte, Nat.reduceAdd, Int.reduceEq, Int.reduceLT, Int.reduceLE, Nat.reduceLT, nil_cell, fldA, l1, eq_true h2', l8, b1, m1', m2, l10b, w1, m3, l10c, hn']
        exact told_pv P3' F3 0
      · have h2' : ¬ (s.st : Int) = 2 := by omega
        have h4' : (s.st : Int) = 4 := by omega
        simp only [c47, sA, Int.reduceNegSucc, reduceCtorEq, Nat.reduceEqDiff, ↓reduceIte, Nat.reduceAdd, Int.reduceEq, Int.reduceLT, Int.reduceLE, Nat.reduceLT, nil_cell, fldA, l1, eq_false h2', eq_true h4', l8, b1, m1', m2, l10b, w1, m3, l10c, hn']
        exact told_pv P3' F3 0
    · have hn' : ¬ (0 : Int) < ((s.need - 1 : Nat) : Int) := by omega
      rw [et, if_neg hn]
      by_cases h2 : s.st = 2
      · have h2' : (s.st : Int) = 2 := by omega
        simp only [c47, sA, Int.reduceNegSucc, reduceCtorEq, Nat.reduceEqDiff, ↓reduceIte, Nat.reduceAdd, Int.reduceEq, Int.reduceLT, Int.reduceLE, Nat.reduceLT, nil_cell, fldA, l1, eq_true h2', l8, b1, m1', m2, l10b, w1, m3, l10c, hn', l1c]
        rw [if_pos h2]
        refine (whole_spec ⟨_, _, _, _, P3⟩ B3 (by omega) hrd).mono ?_
        rintro v H4 ⟨τ', q1, q2⟩
        simp only [sA, Int.reduceNegSucc, reduceCtorEq, Nat.reduceEqDiff, ↓reduceIte, Nat.reduceAdd, Int.reduceEq, Int.reduceLT, Int.reduceLE, Nat.reduceLT]
        exact ⟨rfl, τ', q1, F3.trans q2⟩
      · have h2' : ¬ (s.st : Int) = 2 := by omega
        have h4' : (s.st : Int) = 4 := by omega
        obtain ⟨H4, m4, r4, k4, o4⟩ := row_st P3.row (n := 15) rfl (i := 1) (by omega) (x := .int .i64 5) rfl rfl
        simp only [c47, sA, Int.reduceNegSucc, reduceCtorEq, Nat.reduceEqDiff, ↓reduceIte, Nat.reduceAdd, Int.reduceEq, Int.reduceLT, Int.reduceLE, Nat.reduceLT, nil_cell, fldA, l1, eq_false h2', eq_true h4', l8, b1, m1', m2, l10b, w1, m3, l10c, hn', l1c, m4]
        rw [if_neg h2]
        have P4 : PV H1.next (upT τ H H1 4) H4 p { s with now := { s.now with body := s.now.body ++ [c] }, need := s.need - 1, st := 5 } rd vl vh vb' vr := P3.own (s' := { s with now := { s.now with body := s.now.body ++ [c] }, need := s.need - 1, st := 5 }) r4 k4 o4 rfl rfl rfl
        have e4 : H4.next = H1.next := by omega
        refine told_pv (by rw [e4]; exact P4) (F3.trans (fr_own P3 k4 o4)) 0
  · have n2 : ¬ (s.st : Int) = 2 := by omega
    have n4 : ¬ (s.st : Int) = 4 := by omega
    by_cases h5 : s.st = 5
    · have h5' : (s.st : Int) = 5 := by omega
      have et : takeF s c = (if c.toNat ≠ 13 then (s, [], 22) else ({ s with st := 6 }, [], 0)) := by
        unfold takeF; rw [if_neg h24, if_pos h5]
      by_cases hc : c.toNat = 13
      · have hc' : (c.toNat : Int) = 13 := by omega
        obtain ⟨H1, m1, r1, k1, o1⟩ := row_st P.row (n := 15) rfl (i := 1) (by omega) (x := .int .i64 6) rfl rfl
        simp only [c47, sA, Int.reduceNegSucc, reduceCtorEq, Nat.reduceEqDiff, ↓reduceIte, Nat.reduceAdd, Int.reduceEq, Int.reduceLT, Int.reduceLE, Nat.reduceLT, nil_cell, fldA, l1, eq_false n2, eq_false n4, eq_true h5', eq_true hc', m1]
        rw [et, if_neg (by omega)]
        exact told_own (P.own (s' := { s with st := 6 }) r1 k1 o1 rfl rfl rfl) (fr_own P k1 o1) 0
      · have hc' : ¬ (c.toNat : Int) = 13 := by omega
        simp only [c47, sA, Int.reduceNegSucc, reduceCtorEq, Nat.reduceEqDiff, ↓reduceIte, Nat.reduceAdd, Int.reduceEq, Int.reduceLT, Int.reduceLE, Nat.reduceLT, nil_cell, fldA, l1, eq_false n2, eq_false n4, eq_true h5', eq_false hc']
        rw [et, if_pos hc]
        exact told_own P (Fr.refl _ _) 22
    · have n5 : ¬ (s.st : Int) = 5 := by omega
      by_cases h6 : s.st = 6
      · have h6' : (s.st : Int) = 6 := by omega
        have et : takeF s c = (if c.toNat ≠ 10 then (s, [], 22) else ({ s with st := 3 }, [], 0)) := by
          unfold takeF; rw [if_neg h24, if_neg h5, if_pos h6]
        by_cases hc : c.toNat = 10
        · have hc' : (c.toNat : Int) = 10 := by omega
          obtain ⟨H1, m1, r1, k1, o1⟩ := row_st P.row (n := 15) rfl (i := 1) (by omega) (x := .int .i64 3) rfl rfl
          simp only [c47, sA, Int.reduceNegSucc, reduceCtorEq, Nat.reduceEqDiff, ↓reduceIte, Nat.reduceAdd, Int.reduceEq, Int.reduceLT, Int.reduceLE, Nat.reduceLT, nil_cell, fldA, l1, eq_false n2, eq_false n4, eq_false n5, eq_true h6', eq_true hc', m1]
          rw [et, if_neg (by omega)]
          exact told_own (P.own (s' := { s with st := 3 }) r1 k1 o1 rfl rfl rfl) (fr_own P k1 o1) 0
        · have hc' : ¬ (c.toNat : Int) = 10 := by omega
          simp only [c47, sA, Int.reduceNegSucc, reduceCtorEq, Nat.reduceEqDiff, ↓reduceIte, Nat.reduceAdd, Int.reduceEq, Int.reduceLT, Int.reduceLE, Nat.reduceLT, nil_cell, fldA, l1, eq_false n2, eq_false n4, eq_false n5, eq_true h6', eq_false hc']
          rw [et, if_pos hc]
          exact told_own P (Fr.refl _ _) 22
      · have n6 : ¬ (s.st : Int) = 6 := by omega
        by_cases hc : c.toNat = 10
        · have hc' : (c.toNat : Int) = 10 := by omega
          have et : takeF s c = endedF s := by
            unfold takeF; rw [if_neg h24, if_neg h5, if_neg h6, if_pos hc]
          simp only [c47, sA, Int.reduceNegSucc, reduceCtorEq, Nat.reduceEqDiff, ↓reduceIte, Nat.reduceAdd, Int.reduceEq, Int.reduceLT, Int.reduceLE, Nat.reduceLT, nil_cell, fldA, l1, eq_false n2, eq_false n4, eq_false n5, eq_false n6, eq_true hc']
          refine (ended_spec P0 B (by omega) hrd).mono ?_
          rintro v H1 ⟨rfl, hh⟩
          simp only [sA, Int.reduceNegSucc, reduceCtorEq, Nat.reduceEqDiff, ↓reduceIte, Nat.reduceAdd, Int.reduceEq, Int.reduceLT, Int.reduceLE, Nat.reduceLT]
          rw [et]
          exact ⟨rfl, hh⟩
        · have hc' : ¬ (c.toNat : Int) = 10 := by omega
          obtain ⟨vl', H1, m1, L1, n1, q1, o1⟩ := P.l.1.push c (by omega)
          have m1' : aAppend 1 1 (H.push (.cells [by8 c] 0 false)) vl (oneS H) = some (vl', H1) := m1
          have G := P.grown (k := 2) (H' := H1) (by omega) (by omega) n1 fun x hx ht => o1 x hx (P.l.2.mono fun b hb => by rintro rfl; exact ht hb.2)
          have tp := G.tp
          obtain ⟨H2, m2, r2, k2, o2⟩ := row_st G.row (n := 15) rfl (i := 3) (by omega) (x := vl') L1.one rfl
          have hLC : LC H1.next (upT τ H H1 2) H1 vl' (s.line ++ [c]) 2 := by
            refine ⟨L1, ?_⟩
            refine ((q1 (fun b => b < n ∧ τ b = 2) P.l.2).and L1.blk).mono fun b hb => ⟨hb.2, ?_⟩
            rcases hb.1 with h | h
            · rw [upT_old (by omega)]; exact h.2
            · exact upT_new h hb.2
          have P2 : PV H1.next (upT τ H H1 2) H2 p { s with line := s.line ++ [c] } rd vl' vh vb vr :=
            PV.of (s' := { s with line := s.line ++ [c] }) r2 k2 o2 G.pn (Nat.le_refl _) G.tp G.tz hLC (G.h (by omega)) (G.b (by omega)) (G.r (by omega))
          have F2 : Fr τ H (upT τ H H1 2) H2 := G.f.trans ⟨by omega, fun x hx h0 => ⟨rfl, o2 x (by rintro rfl; omega)⟩⟩
          have k2' : H2.next = H1.next := k2
          have P2' : PV H2.next (upT τ H H1 2) H2 p { s with line := s.line ++ [c] } rd vl' vh vb vr := by rw [k2']; exact P2
          obtain ⟨_, _, _, l3b, _⟩ := P2.lds
          have hlen : aLenK false vl' = some (.int .i64 ((s.line.length + 1 : Nat) : Int)) := by have := L1.len; simpa using this
          by_cases hbig : 2001 < s.line.length + 1
          · have hbig' : (2001 : Int) < ((s.line.length + 1 : Nat) : Int) := by omega
            simp only [c47, sA, Int.reduceNegSucc, reduceCtorEq, Nat.reduceEqDiff, ↓reduceIte, Nat.reduceAdd, Int.reduceEq, Int.reduceLT, Int.reduceLE, Nat.reduceLT, nil_cell, fldA, l1, eq_false n2, eq_false n4, eq_false n5, eq_false n6, eq_false hc', l3, b1, m1', m2, l3b, hlen, hbig']
            have et : takeF s c = ({ s with line := s.line ++ [c] }, [], 3) := by
              unfold takeF; rw [if_neg h24, if_neg h5, if_neg h6, if_neg hc, if_pos hbig]
            rw [et]
            exact told_pv P2' F2 3
          · have hbig' : ¬ (2001 : Int) < ((s.line.length + 1 : Nat) : Int) := by omega
            simp only [c47, sA, Int.reduceNegSucc, reduceCtorEq, Nat.reduceEqDiff, ↓reduceIte, Nat.reduceAdd, Int.reduceEq, Int.reduceLT, Int.reduceLE, Nat.reduceLT, nil_cell, fldA, l1, eq_false n2, eq_false n4, eq_false n5, eq_false n6, eq_false hc', l3, b1, m1', m2, l3b, hlen, hbig']
            have et : takeF s c = ({ s with line := s.line ++ [c] }, [], 0) := by
              unfold takeF; rw [if_neg h24, if_neg h5, if_neg h6, if_neg hc, if_neg hbig]
            rw [et]
            exact told_pv P2' F2 0
end
end Go.Proofs.Ht
namespace Go.Proofs.Ht
open Go.Abs Go.Abs.S
set_option linter.unusedSimpArgs false
section
variable {n : Nat} {τ : Nat → Nat} {H : AHeap} {p : Nat} {s : PS} {rd : List Rq} {vl vh vb vr : AVal}
theorem feed_len (s : PS) (l : Bs) : (feedF s l).2.length ≤ l.length + 1 := by
  have h1 := pot_feed s l
  have h2 := pot_le s
  omega
theorem feed_spec (P : PR n τ H p s rd) {k : Nat} (B : Bd k s) {v : AVal} {l : Bs} {m : Nat} (hv : Cel m H v (byts l)) (hb : Blk v fun b => b < H.next ∧ τ b = 0) (hk : k + 2 * l.length < 900000) (hrd : rd.length + l.length < 900000) :
    ACalls Tryz.prog natX 28 [cellR p 15 0, v] H fun w H' => w = .int .i64 ((feedF s l).1.fault : Int) ∧ ∃ τ', PR H'.next τ' H' p (feedF s l).1 (rd ++ (feedF s l).2) ∧ Fr τ H τ' H' := by
  refine acalls_ofN rfl za28 rfl ?_
  simp only [c28, sA, Int.reduceNegSucc, reduceCtorEq, Nat.reduceEqDiff, ↓reduceIte, Nat.reduceAdd, Int.reduceEq, Int.reduceLT, Int.reduceLE, Nat.reduceLT]
  refine (made_spec P).mono ?_
  rintro w _ ⟨rfl, rfl⟩
  simp only [sA, Int.reduceNegSucc, reduceCtorEq, Nat.reduceEqDiff, ↓reduceIte, Nat.reduceAdd, Int.reduceEq, Int.reduceLT, Int.reduceLE, Nat.reduceLT, byts_len' hv]
  refine aw_cut (fun (T : Env) H' => T 0 = cellR p 15 0 ∧ ∃ n' τ', PR n' τ' H' p (feedF s l).1 (rd ++ (feedF s l).2) ∧ Fr τ H τ' H') (calls_mono _ _) ?_ ?_
  · refine aw_loop (fun q (T : Env) H' => ∃ j : Nat, j ≤ l.length ∧ q = l.length - j ∧ T 0 = cellR p 15 0 ∧ T 11 = v ∧ T 12 = .int .i64 (l.length : Int) ∧ T 13 = .int .i64 (j : Int) ∧ ∃ n' τ', PR n' τ' H' p (feedF s (l.take j)).1 (rd ++ (feedF s (l.take j)).2) ∧ Fr τ H τ' H') l.length
      ⟨0, Nat.zero_le _, rfl, by simp only [sA, Int.reduceNegSucc, reduceCtorEq, Nat.reduceEqDiff, ↓reduceIte, Nat.reduceAdd, Int.reduceEq, Int.reduceLT, Int.reduceLE, Nat.reduceLT]; try rfl, by simp only [sA, Int.reduceNegSucc, reduceCtorEq, Nat.reduceEqDiff, ↓reduceIte, Nat.reduceAdd, Int.reduceEq, Int.reduceLT, Int.reduceLE, Nat.reduceLT]; try rfl, by simp only [sA, Int.reduceNegSucc, reduceCtorEq, Nat.reduceEqDiff, ↓reduceIte, Nat.reduceAdd, Int.reduceEq, Int.reduceLT, Int.reduceLE, Nat.reduceLT]; try rfl, by simp only [sA, Int.reduceNegSucc, reduceCtorEq, Nat.reduceEqDiff, ↓reduceIte, Nat.reduceAdd, Int.reduceEq, Int.reduceLT, Int.reduceLE, Nat.reduceLT]; try rfl, n, τ, by simpa [feedF] using P, Fr.refl _ _⟩ ?_
    rintro q T H' ⟨j, hj, rfl, g0, g11, g12, g13, n', τ', P', F'⟩
    have Bj := bd_feed B (l.take j)
    have hlj : (l.take j).length = j := List.length_take_of_le hj
    rw [hlj] at Bj
    have hfl := feed_len s (l.take j)
    rw [hlj] at hfl
    by_cases hlt : j < l.length
    · have hlt' : (j : Int) < (l.length : Int) := by omega
      obtain ⟨c, hc⟩ := isSome_of_lt hlt
      have hv' : Cel (max m H.next) H' v (byts l) := hv.fr (Nat.le_max_left _ _) (hb.mono fun b hb => (F'.2 b hb.1 (.inl hb.2)).2)
      have ix := hv'.idx .i64 (i := j) (by rw [byts_len]; exact hlt)
      have lx := hv'.load (byts_get hc)
      have hnx : feedF s (l.take (j + 1)) = ((stepF (feedF s (l.take j)).1 c).1, (feedF s (l.take j)).2 ++ (stepF (feedF s (l.take j)).1 c).2) := by
        rw [List.take_add_one, hc, Option.toList_some, feed_app, feed_one]
      generalize hX : feedF s (l.take j) = X at *
      obtain ⟨sj, out⟩ := X
      simp only at P' Bj hfl hnx
      obtain ⟨vl, vh, vb, vr, Q⟩ := P'
      obtain ⟨l0, l1, l2, l3, l4, l7, l8, l9, l10, l11, l12, _⟩ := Q.lds
      by_cases h8 : sj.st = 8
      · have h8' : (sj.st : Int) = 8 := by omega
        simp only [sA, Int.reduceNegSucc, reduceCtorEq, Nat.reduceEqDiff, ↓reduceIte, Nat.reduceAdd, Int.reduceEq, Int.reduceLT, Int.reduceLE, Nat.reduceLT, g0, g11, g12, g13, hlt', ix, lx, nil_cell, fldA, l1, eq_true h8']
        have e : feedF s l = (sj, out) := by
          conv => lhs; rw [← List.take_append_drop j l]
          rw [feed_app, hX, feed_8 h8]; simp
        exact ⟨(by first | with_reducible rfl | trivial | rfl | assumption), n', τ', by rw [e]; exact ⟨_, _, _, _, Q⟩, F'⟩
      · have h8' : ¬ (sj.st : Int) = 8 := by omega
        have bf := Bj.fed
        obtain ⟨H1, m1, r1, k1, o1⟩ := row_st Q.row (n := 15) rfl (i := 12) (by omega) (x := .int .i64 ((sj.fed + 1 : Nat) : Int)) rfl rfl
        have Q1 : PV n' τ' H1 p { sj with fed := sj.fed + 1 } (rd ++ out) vl vh vb vr := Q.own (s' := { sj with fed := sj.fed + 1 }) r1 k1 o1 rfl rfl rfl
        have F1 : Fr τ H τ' H1 := F'.trans (fr_own Q k1 o1)
        simp only [sA, Int.reduceNegSucc, reduceCtorEq, Nat.reduceEqDiff, ↓reduceIte, Nat.reduceAdd, Int.reduceEq, Int.reduceLT, Int.reduceLE, Nat.reduceLT, g0, g11, g12, g13, hlt', ix, lx, nil_cell, fldA, l1, eq_false h8', l12, wrap1 sj.fed (by omega), m1]
        refine (take_spec ⟨_, _, _, _, Q1⟩ Bj.fedUp (by omega) (by rw [List.length_append]; omega) c).mono ?_
        rintro w H2 ⟨rfl, τ2, P2, F2⟩
        have es : stepF sj c = (if (takeF { sj with fed := sj.fed + 1 } c).2.2 = 0 then ((takeF { sj with fed := sj.fed + 1 } c).1, (takeF { sj with fed := sj.fed + 1 } c).2.1) else (PS.reset { (takeF { sj with fed := sj.fed + 1 } c).1 with fault := (takeF { sj with fed := sj.fed + 1 } c).2.2 } 8, (takeF { sj with fed := sj.fed + 1 } c).2.1)) := by
          unfold stepF; rw [if_neg h8]
        generalize takeF { sj with fed := sj.fed + 1 } c = O at *
        obtain ⟨so, oo, eo⟩ := O
        simp only at P2 es
        by_cases he : eo = 0
        · have he' : (eo : Int) = 0 := by omega
          simp only [sA, Int.reduceNegSucc, reduceCtorEq, Nat.reduceEqDiff, ↓reduceIte, Nat.reduceAdd, Int.reduceEq, Int.reduceLT, Int.reduceLE, Nat.reduceLT, g0, g11, g12, g13, he', wrap1 j (by omega)]
          rw [if_pos he] at es
          refine ⟨_, by omega, j + 1, by omega, rfl, (by first | with_reducible rfl | trivial | rfl | assumption), (by first | with_reducible rfl | trivial | rfl | assumption), (by first | with_reducible rfl | trivial | rfl | assumption), (by first | with_reducible rfl | trivial | rfl | assumption), H2.next, τ2, ?_, F1.trans F2⟩
          rw [hnx, es, ← List.append_assoc]; exact P2
        · have he' : ¬ (eo : Int) = 0 := by omega
          rw [if_neg he] at es
          obtain ⟨vl2, vh2, vb2, vr2, Q2⟩ := P2
          obtain ⟨H3, m3, r3, k3, o3⟩ := row_st Q2.row (n := 15) rfl (i := 2) (by omega) (x := .int .i64 (eo : Int)) rfl rfl
          have Q3 : PV H2.next τ2 H3 p { so with fault := eo } (rd ++ out ++ oo) vl2 vh2 vb2 vr2 := Q2.own (s' := { so with fault := eo }) r3 k3 o3 rfl rfl rfl
          have F3 : Fr τ H τ2 H3 := (F1.trans F2).trans (fr_own Q2 k3 o3)
          simp only [sA, Int.reduceNegSucc, reduceCtorEq, Nat.reduceEqDiff, ↓reduceIte, Nat.reduceAdd, Int.reduceEq, Int.reduceLT, Int.reduceLE, Nat.reduceLT, g0, g11, g12, g13, eq_false he', nil_cell, fldA, m3]
          refine (reset_spec Q3 8).mono ?_
          rintro w H4 ⟨Q4, k4, o4⟩
          have tp := Q3.tp
          simp only [sA, Int.reduceNegSucc, reduceCtorEq, Nat.reduceEqDiff, ↓reduceIte, Nat.reduceAdd, Int.reduceEq, Int.reduceLT, Int.reduceLE, Nat.reduceLT, g0, g11, g12, g13, wrap1 j (by omega)]
          refine ⟨_, by omega, j + 1, by omega, rfl, (by first | with_reducible rfl | trivial | rfl | assumption), (by first | with_reducible rfl | trivial | rfl | assumption), (by first | with_reducible rfl | trivial | rfl | assumption), (by first | with_reducible rfl | trivial | rfl | assumption), H2.next, τ2, ?_, F3.trans ⟨by omega, fun x hx h0 => ⟨rfl, o4 x (by rintro rfl; omega)⟩⟩⟩
          rw [hnx, es, ← List.append_assoc]; exact ⟨_, _, _, _, Q4⟩
    · have hlt' : ¬ (j : Int) < (l.length : Int) := by omega
      rw [List.take_of_length_le (by omega)] at P'
      simp only [sA, Int.reduceNegSucc, reduceCtorEq, Nat.reduceEqDiff, ↓reduceIte, Nat.reduceAdd, Int.reduceEq, Int.reduceLT, Int.reduceLE, Nat.reduceLT, g0, g11, g12, g13, hlt']
      exact ⟨(by first | with_reducible rfl | trivial | rfl | assumption), n', τ', P', F'⟩
  · rintro T H' ⟨g0, n', τ', ⟨vl, vh, vb, vr, Q⟩, F'⟩
    obtain ⟨l0, l1, l2, _⟩ := Q.lds
    simp only [sA, Int.reduceNegSucc, reduceCtorEq, Nat.reduceEqDiff, ↓reduceIte, Nat.reduceAdd, Int.reduceEq, Int.reduceLT, Int.reduceLE, Nat.reduceLT, g0, nil_cell, fldA, l2]
    exact ⟨(by first | with_reducible rfl | trivial | rfl | assumption), τ', ⟨_, _, _, _, Q.more Q.nn (Nat.le_refl _)⟩, F'⟩
def newT (p : Nat) : Nat → Nat := fun c => if c = p then 1 else 0
theorem szF_nil : szF [] = 0 := by simp [szF, sumSz, IntKind.wrap_i64]
theorem new_spec (H : AHeap) : ACalls Tryz.prog natX 27 [] H fun v H' => v = cellR H.next 15 0 ∧ PR (H.next + 1) (newT H.next) H' H.next PS.zero [] ∧ H'.next = H.next + 1 ∧ ∀ c, c < H.next → H'.get c = H.get c := by
  refine acalls_ofN rfl za27 rfl ?_
  obtain ⟨H1, m1, r1, k1, o1⟩ := row_newL H [.ptr none, .int .i64 0, .int .i64 0, .slice none 0 (.known 0), .bool false, .str [], .str [], .slice none 0 (.known 0), .slice none 0 (.known 0), .bool false, .int .i64 0, .int .i64 0, .int .i64 0, .slice none 0 (.known 0), .int .i64 0] (n := 15) rfl
  have bb : aBuild [.ptr none, .int .i64 0, .int .i64 0, .slice none 0 (.known 0), .bool false, .str [], .str [], .slice none 0 (.known 0), .slice none 0 (.known 0), .bool false, .int .i64 0, .int .i64 0, .int .i64 0, .slice none 0 (.known 0), .int .i64 0] [] = some (.agg [.ptr none, .int .i64 0, .int .i64 0, .slice none 0 (.known 0), .bool false, .str [], .str [], .slice none 0 (.known 0), .slice none 0 (.known 0), .bool false, .int .i64 0, .int .i64 0, .int .i64 0, .slice none 0 (.known 0), .int .i64 0]) := rfl
  obtain ⟨H2, m2, r2, k2, o2⟩ := row_st r1 (n := 15) rfl (i := 0) (by omega) (x := cellR H.next 15 0) rfl rfl
  simp only [c27, sA, Int.reduceNegSucc, reduceCtorEq, Nat.reduceEqDiff, ↓reduceIte, Nat.reduceAdd, Int.reduceEq, Int.reduceLT, Int.reduceLE, Nat.reduceLT, bb, cells_agg, m1, nil_cell, fldA, m2]
  refine ⟨(by first | with_reducible rfl | trivial | rfl | assumption), ⟨nilS, nilS, nilS, nilS, ?_⟩, by omega, fun c hc => by rw [o2 c (by omega), o1 c (by omega)]⟩
  have hr : Row H2 H.next (pC H.next PS.zero nilS nilS nilS nilS (szF [])) := by rw [szF_nil]; exact r2
  exact ⟨hr, by omega, by omega, by simp [newT], fun c hc => by simp only [newT]; rw [if_neg (by omega)], ⟨Lin.nil _, blk_nil _⟩, ⟨AppN.nil _ _ _, blk_nil _⟩, ⟨Lin.nil _, blk_nil _⟩, .inl ⟨rfl, rfl⟩⟩
theorem RC.next {r : Rq} {rest : List Rq} {v : AVal} (h : RC 5 n τ H v (r :: rest)) :
    ∃ b lim o vh vb v' H1, aIdxA 5 v (.int .i64 0) = some (cellR b lim o) ∧ oLoad true 5 H (cellR b lim o) = some (.agg (rqC r vh vb)) ∧ RqAt n τ H (rqC r vh vb) r ∧ b < n ∧ τ b = 5 ∧
      oStore 5 H (cellR b lim o) (.agg [.str [], .str [], .slice none 0 (.known 0), .slice none 0 (.known 0), .bool false]) = some H1 ∧ H1.next = H.next ∧ (∀ c, c ≠ b → H1.get c = H.get c) ∧
      aSl 5 v (some (.int .i64 1)) none none = some v' ∧ v'.one = true ∧ RC 5 n τ H1 v' rest := by
  rcases h with ⟨_, h⟩ | ⟨b, o, low, L, rfl, h2, h3, h4, h5, h6, h7⟩
  · simp at h
  · simp only [List.length_cons] at h4
    obtain ⟨vh, vb, e1, e2, e3, e4, e5, e6, e7⟩ := h7 0 r rfl
    have hR : Row H b L := ⟨low, h2, h3⟩
    have hld := row_loadK hR rfl (i := o) (k := 5) (by omega)
    have e1' : (L.drop o).take 5 = rqC r vh vb := by simpa using e1
    rw [e1'] at hld
    obtain ⟨H1, m1, r1, k1, o1⟩ := row_storeK hR rfl (i := o) (k := 5) (by omega) (xs := [.str [], .str [], .slice none 0 (.known 0), .slice none 0 (.known 0), .bool false]) rfl rfl
    have hlen : (L.take o ++ ([AVal.str [], .str [], .slice none 0 (.known 0), .slice none 0 (.known 0), .bool false] ++ L.drop (o + 5))).length = L.length := by simp; omega
    refine ⟨b, L.length, o, vh, vb, .slice (some ⟨b, L.length, o + 5⟩) rest.length (.open_ 5), H1, ?_, hld, ⟨vh, vb, rfl, e2, e3, e4, e5, e6, e7⟩, h5, h6, m1, k1, o1, ?_, rfl, .inr ?_⟩
    · show (bif Nat.blt 0 (rest.length + 1) then some (AVal.ptr (some ⟨b, L.length, o + 0 * 5⟩)) else none) = _
      rfl
    · have hb1 : aBnd (rest.length + 1) ((L.length - o) / 5) (some (.int .i64 1)) none none = some (1, rest.length + 1, none) := by
        have : bd (.int .i64 1) (rest.length + 1) = some 1 := bd_nat (n := 1) (by omega)
        simp only [aBnd, bdO, this]
      simp only [aSl, Nat.beq_refl, cond_true, List.length_cons, hb1]
      rw [Nat.ble_eq_true_of_le (show o + (rest.length + 1) * 5 ≤ L.length by omega), cond_true]
      congr 2
    · obtain ⟨low', q1, q2⟩ := r1
      refine ⟨b, o + 5, low', _, by rw [hlen], q1, q2, by rw [hlen]; omega, h5, h6, fun i q hq => ?_⟩
      have := h7 (i + 1) q (by simpa using hq)
      have hd : (L.take o ++ ([AVal.str [], .str [], .slice none 0 (.known 0), .slice none 0 (.known 0), .bool false] ++ L.drop (o + 5))).drop (o + 5 + i * 5) = L.drop (o + (i + 1) * 5) := by
        have hl5 : (L.take o ++ [AVal.str [], .str [], .slice none 0 (.known 0), .slice none 0 (.known 0), .bool false]).length = o + 5 := by simp; omega
        rw [← List.append_assoc, ← List.drop_drop, List.drop_left' hl5, List.drop_drop]
        congr 1; omega
      rw [hd]
      exact this.fr (Nat.le_refl _) (fun _ _ h => h) fun c _ h0 => o1 c (by rintro rfl; omega)
def noRq : List AVal := [.str [], .str [], .slice none 0 (.known 0), .slice none 0 (.known 0), .bool false]
theorem szF_sub (r : Rq) (rest : List Rq) : IntKind.i64.wrap (szF (r :: rest) - (rqSz r : Int)) = szF rest := by
  have : sumSz (r :: rest) = rqSz r + sumSz rest := by simp [sumSz]
  rw [szF, szF, this, IntKind.wrap_i64, IntKind.wrap_i64, IntKind.wrap_i64]
  omega
theorem fin_ct5 {T : Env} {H : AHeap} (i j : Nat) (K : AVal → AHeap → Prop) {v : AVal} (h : oLoad true 5 H (T i) = some v) (hk : K (.tuple [v, T j]) H) : fin [.cell true 5 i, .t j] K .ret T H := by
  simp only [fin, wRes, h, OptP_some]; exact hk
theorem next_none (P : PR n τ H p s []) : ACalls Tryz.prog natX 29 [cellR p 15 0] H fun v H' => v = .tuple [.agg noRq, .bool false] ∧ Ext H.next H H' := by
  have P0 := P
  obtain ⟨vl, vh, vb, vr, P⟩ := P
  refine acalls_ofN rfl za29 rfl ?_
  obtain ⟨H1, m1, r1, k1, o1⟩ := row_newL H noRq (n := 5) rfl
  have m1' : oNew H [.str [], .str [], .slice none 0 (.known 0), .slice none 0 (.known 0), .bool false] = (cellR H.next 5 0, H1) := m1
  have nn := P.nn
  have E1 : Ext H.next H H1 := Ext.of_new k1 o1 (Nat.le_refl _)
  have P1 := P.ext E1.next fun c hc => E1.old c (by omega)
  obtain ⟨l0, l1, l2, l3, l4, l7, l8, l9, l10, l11, l12, l13, _⟩ := P1.lds
  have hlen := P1.r.len
  have hlen' : aLenK false vr = some (.int .i64 0) := hlen
  obtain ⟨H2, m2, r2, k2, o2⟩ := row_storeN r1 (n := 5) rfl (xs := noRq) rfl rfl
  have m2' : oStore 5 H1 (cellR H.next 5 0) (.agg [.str [], .str [], .slice none 0 (.known 0), .slice none 0 (.known 0), .bool false]) = some H2 := m2
  have b0 : aBuild [.str [], .str [], .slice none 0 (.known 0), .slice none 0 (.known 0), .bool false] [] = some (.agg [.str [], .str [], .slice none 0 (.known 0), .slice none 0 (.known 0), .bool false]) := rfl
  simp only [c29, sA, Int.reduceNegSucc, reduceCtorEq, Nat.reduceEqDiff, ↓reduceIte, Nat.reduceAdd, Int.reduceEq, Int.reduceLT, Int.reduceLE, Nat.reduceLT, m1']
  refine (made_spec ⟨_, _, _, _, P1⟩).mono ?_
  rintro w _ ⟨rfl, rfl⟩
  simp only [sA, Int.reduceNegSucc, reduceCtorEq, Nat.reduceEqDiff, ↓reduceIte, Nat.reduceAdd, Int.reduceEq, Int.reduceLT, Int.reduceLE, Nat.reduceLT, nil_cell, fldA, l13, hlen', b0, m2']
  refine fin_ct5 _ _ _ (by simp only [sA, Int.reduceNegSucc, reduceCtorEq, Nat.reduceEqDiff, ↓reduceIte, Nat.reduceAdd, Int.reduceEq, Int.reduceLT, Int.reduceLE, Nat.reduceLT]; exact row_loadN r2 (n := 5) rfl) ⟨by simp only [sA, Int.reduceNegSucc, reduceCtorEq, Nat.reduceEqDiff, ↓reduceIte, Nat.reduceAdd, Int.reduceEq, Int.reduceLT, Int.reduceLE, Nat.reduceLT]; try rfl, ⟨by omega, fun c hc => by rw [o2 c (by omega)]; exact E1.old c hc⟩⟩
theorem next_some' {r : Rq} {rest : List Rq} (P : PR n τ H p s (r :: rest)) {k : Nat} (hk : k ≤ 1000000) (b1 : r.m.length ≤ k) (b2 : r.t.length ≤ k) (b3 : r.body.length ≤ k) (b4 : r.hs.length ≤ k) (b5 : ∀ h ∈ r.hs, h.1.length ≤ k ∧ h.2.length ≤ k) :
    ACalls Tryz.prog natX 29 [cellR p 15 0] H fun v H' => ∃ vh vb, v = .tuple [.agg (rqC r vh vb), .bool true] ∧ RqAt n τ H' (rqC r vh vb) r ∧ PR n τ H' p s rest ∧ H.next ≤ H'.next ∧ ∀ c, c < H.next → c ≠ p → τ c ≠ 5 → H'.get c = H.get c := by
  have P0 := P
  obtain ⟨vl, vh, vb, vr, P⟩ := P
  refine acalls_ofN rfl za29 rfl ?_
  obtain ⟨H1, m1, r1, k1, o1⟩ := row_newL H noRq (n := 5) rfl
  have m1' : oNew H [.str [], .str [], .slice none 0 (.known 0), .slice none 0 (.known 0), .bool false] = (cellR H.next 5 0, H1) := m1
  have nn := P.nn
  have pn := P.pn
  have tp := P.tp
  have E1 : Ext H.next H H1 := Ext.of_new k1 o1 (Nat.le_refl _)
  have P1 := P.ext E1.next fun c hc => E1.old c (by omega)
  obtain ⟨l0, l1, l2, l3, l4, l7, l8, l9, l10, l11, l12, l13, l14, _⟩ := P1.lds
  have hlen := P1.r.len
  have hne : ¬ (((r :: rest).length : Nat) : Int) = 0 := by simp; omega
  obtain ⟨b, lim, o, wh, wb, v', H2, a1, a2, a3, a4, a5, a6, a7, a8, a9, a10, a11⟩ := P1.r.next
  obtain ⟨H3, m3, r3, k3, o3⟩ := row_newL H1 noRq (n := 5) rfl
  have m3' : oNew H1 [.str [], .str [], .slice none 0 (.known 0), .slice none 0 (.known 0), .bool false] = (cellR H1.next 5 0, H3) := m3
  have ho : (rqC r wh wb).all AVal.one = true := by
    obtain ⟨vh', vb', e1, e2, e3, _⟩ := a3
    have : rqC r wh wb = rqC r vh' vb' := e1
    rw [this]
    simp only [rqC, List.all_cons, List.all_nil, e2, e3, Bool.and_true]; rfl
  obtain ⟨H4, m4, r4, k4, o4⟩ := row_storeN r3 (n := 5) rfl (xs := rqC r wh wb) rfl ho
  have P4 := P1.ext (H' := H4) (by omega) fun c hc => by rw [o4 c (by omega), o3 c (by omega)]
  obtain ⟨b', lim', o', wh', wb', v2, H5, c1, c2, c3, c4, c5, c6, c7, c8, c9, c10, c11⟩ := P4.r.next
  have eb : cellR b' lim' o' = cellR b lim o := by rw [a1] at c1; simpa using c1.symm
  have ev : v2 = v' := by rw [a9] at c9; simpa using c9.symm
  subst ev
  have R5 : Row H5 p (pC p s vl vh vb vr (szF (r :: rest))) := P4.row.same (c8 p (by rintro rfl; omega))
  obtain ⟨H6, m6, r6, k6, o6⟩ := row_st R5 (n := 15) rfl (i := 13) (by omega) (x := v2) c10 rfl
  have r6' : Row H6 p (pC p s vl vh vb v2 (szF (r :: rest))) := r6
  have l13' : oLoad false 1 H4 (cellR p 15 13) = some vr := row_load P4.row rfl rfl
  have l13b : oLoad false 1 H5 (cellR p 15 13) = some vr := row_load R5 rfl rfl
  have l14b : oLoad false 1 H6 (cellR p 15 14) = some (.int .i64 (szF (r :: rest))) := row_load r6' rfl rfl
  have hbn : b' ≠ H1.next := by omega
  have R6 : Row H6 H1.next (rqC r wh wb) := r4.same (by rw [o6 _ (by omega), c8 _ (by omega)])
  have lr6 : oLoad true 5 H6 (cellR H1.next 5 0) = some (.agg (rqC r wh wb)) := row_loadN R6 (n := 5) rfl
  have b0 : aBuild [.str [], .str [], .slice none 0 (.known 0), .slice none 0 (.known 0), .bool false] [] = some (.agg [.str [], .str [], .slice none 0 (.known 0), .slice none 0 (.known 0), .bool false]) := rfl
  have fz : ∀ c, c < n → τ c = 6 → H6.get c = H4.get c := fun c hc h0 => by rw [o6 c (by rintro rfl; omega), c8 c (by rintro rfl; omega)]
  have hA6 : RqAt n τ H6 (rqC r wh wb) r := (a3.fr (H' := H4) (Nat.le_refl _) (fun _ _ h => h) fun c hc h0 => by rw [o4 c (by omega), o3 c (by omega)]).fr (Nat.le_refl _) (fun _ _ h => h) fz
  have hA6' := hA6
  obtain ⟨vh3, vb3, e1, e2, e3, e4, e5, _, _⟩ := hA6'
  have ee : wh = vh3 ∧ wb = vb3 := by
    simp only [rqC, List.cons.injEq, and_true, true_and] at e1
    exact ⟨e1.1, e1.2⟩
  obtain ⟨rfl, rfl⟩ := ee
  simp only [c29, sA, Int.reduceNegSucc, reduceCtorEq, Nat.reduceEqDiff, ↓reduceIte, Nat.reduceAdd, Int.reduceEq, Int.reduceLT, Int.reduceLE, Nat.reduceLT, m1']
  refine (made_spec ⟨_, _, _, _, P1⟩).mono ?_
  rintro w _ ⟨rfl, rfl⟩
  have c6' : oStore 5 H4 (cellR b lim o) (.agg [.str [], .str [], .slice none 0 (.known 0), .slice none 0 (.known 0), .bool false]) = some H5 := by rw [← eb]; exact c6
  have m6' : oStore 1 H5 (cellR p 15 13) v2 = some H6 := m6
  simp only [sA, Int.reduceNegSucc, reduceCtorEq, Nat.reduceEqDiff, ↓reduceIte, Nat.reduceAdd, Int.reduceEq, Int.reduceLT, Int.reduceLE, Nat.reduceLT, nil_cell, fldA, l13, hlen, hne, a1, a2, m3', m4, l13', b0, c6', l13b, c9, m6']
  refine aw_drawC rfl ?_
  simp only [sA, Int.reduceNegSucc, reduceCtorEq, Nat.reduceEqDiff, ↓reduceIte, Nat.reduceAdd, Int.reduceEq, Int.reduceLT, Int.reduceLE, Nat.reduceLT, sR, nil_cell, fldA, l14b, lr6]
  have e5l : aLenK false wb = some (.int .i64 (r.body.length : Int)) := byts_len' e5
  have nn6 : n ≤ H6.next := by omega
  refine (size_spec r e4 e5l nn6 hk b1 b2 b3 b4 b5).mono ?_
  rintro w H7 ⟨rfl, E7⟩
  have R7 : Row H7 p (pC p s vl vh vb v2 (szF (r :: rest))) := r6'.same (E7.old p (by omega))
  obtain ⟨H8, m8, r8, k8, o8⟩ := row_st R7 (n := 15) rfl (i := 14) (by omega) (x := .int .i64 (szF rest)) rfl rfl
  have l14c : oLoad false 1 H7 (cellR p 15 14) = some (.int .i64 (szF (r :: rest))) := row_load R7 rfl rfl
  have n7 := E7.next
  simp only [sA, Int.reduceNegSucc, reduceCtorEq, Nat.reduceEqDiff, ↓reduceIte, Nat.reduceAdd, Int.reduceEq, Int.reduceLT, Int.reduceLE, Nat.reduceLT, sR, nil_cell, fldA, szF_sub, m8]
  simp only [ck_nil', ck_cons, ckP_load, ckP_nil, ck_end, and_true, true_and, List.map_cons, List.map_nil, sA, Int.reduceNegSucc, reduceCtorEq, Nat.reduceEqDiff, ↓reduceIte, Nat.reduceAdd, Int.reduceEq, Int.reduceLT, Int.reduceLE, Nat.reduceLT, fldA, l14c]
  refine ⟨⟨_, rfl, fun _ => ⟨_, l14c, aeq_int _ _⟩⟩, ?_⟩
  have R8 : Row H8 H1.next (rqC r wh wb) := R6.same (by rw [o8 _ (by omega), E7.old _ (by omega)])
  have lr8 : oLoad true 5 H8 (cellR H1.next 5 0) = some (.agg (rqC r wh wb)) := row_loadN R8 (n := 5) rfl
  have R8r : Row H8 H.next noRq := r1.same (by rw [o8 _ (by omega), E7.old _ (by omega), o6 _ (by omega), c8 _ (by omega), o4 _ (by omega), o3 _ (by omega)])
  obtain ⟨H9, m9, r9, k9, o9⟩ := row_storeN R8r (n := 5) rfl (xs := rqC r wh wb) rfl ho
  simp only [sA, Int.reduceNegSucc, reduceCtorEq, Nat.reduceEqDiff, ↓reduceIte, Nat.reduceAdd, Int.reduceEq, Int.reduceLT, Int.reduceLE, Nat.reduceLT, lr8, m9]
  have keep : ∀ c, c < H.next → c ≠ p → τ c ≠ 5 → H9.get c = H.get c := fun c hc h1 h5 => by
    rw [o9 c (by omega), o8 c h1, E7.old c (by omega), o6 c h1, c8 c (by rintro rfl; omega), o4 c (by omega), o3 c (by omega)]; exact E1.old c hc
  have k9' : ∀ c, c < n → c ≠ p → H9.get c = H5.get c := fun c hc h1 => by
    rw [o9 c (by omega), o8 c h1, E7.old c (by omega), o6 c h1]
  refine fin_ct5 _ _ _ (by simp only [sA, Int.reduceNegSucc, reduceCtorEq, Nat.reduceEqDiff, ↓reduceIte, Nat.reduceAdd, Int.reduceEq, Int.reduceLT, Int.reduceLE, Nat.reduceLT]; exact row_loadN r9 (n := 5) rfl) ⟨wh, wb, by simp only [sA, Int.reduceNegSucc, reduceCtorEq, Nat.reduceEqDiff, ↓reduceIte, Nat.reduceAdd, Int.reduceEq, Int.reduceLT, Int.reduceLE, Nat.reduceLT], hA6.fr (Nat.le_refl _) (fun _ _ h => h) (fun c hc h0 => ?_), ⟨vl, vh, vb, v2, ?_⟩, by omega, keep⟩
  · rw [o9 c (by omega), o8 c (by rintro rfl; omega), E7.old c (by omega)]
  · have f9 : ∀ k, k ≠ 1 → k ≠ 5 → ∀ c, c < n → τ c = k → H9.get c = H4.get c := fun k h1 h5 c hc hk => by
      rw [k9' c hc (by rintro rfl; omega), c8 c (by rintro rfl; omega)]
    have r9p : Row H9 p (pC p s vl vh vb v2 (szF rest)) := by
      have : Row H8 p (pC p s vl vh vb v2 (szF rest)) := r8
      exact this.same (o9 p (by omega))
    exact ⟨r9p, pn, by omega, tp, P.tz, P4.l.fr (Nat.le_refl _) (by omega) (fun _ _ h => h) (f9 2 (by omega) (by omega)), P4.h.fr (Nat.le_refl _) (by omega) (fun _ _ h => h) (f9 3 (by omega) (by omega)), P4.b.fr (Nat.le_refl _) (by omega) (fun _ _ h => h) (f9 4 (by omega) (by omega)),
      c11.fr (Nat.le_refl _) (fun _ _ _ => rfl) fun c hc hk => k9' c hc (by rintro rfl; omega)⟩
end
end Go.Proofs.Ht
namespace Go.Proofs.Ht
open Go.Abs Go.Abs.S
def crlf : Bs := [13, 10]
def lnS (k : Nat) : Prop := k = 0 ∨ k = 1 ∨ k = 3 ∨ k = 7
theorem step_of {s o : PS} {q : List Rq} {c : UInt8} (h8 : s.st ≠ 8) (h : takeF { s with fed := s.fed + 1 } c = (o, q, 0)) : stepF s c = (o, q) := by
  unfold stepF
  rw [if_neg h8]
  simp only [h]
  rfl
theorem feed_char {s : PS} (hs : lnS s.st) {c : UInt8} (hc : c.toNat ≠ 10) (hl : s.line.length + 1 ≤ 2001) : stepF s c = ({ s with line := s.line ++ [c], fed := s.fed + 1 }, []) := by
  unfold lnS at hs
  refine step_of (by omega) ?_
  unfold takeF
  simp only
  rw [if_neg (by omega), if_neg (by omega), if_neg (by omega), if_neg hc, if_neg (by omega)]
theorem feed_chars : ∀ (l : Bs) (s : PS), lnS s.st → (∀ c ∈ l, c.toNat ≠ 10) → s.line.length + l.length ≤ 2001 → feedF s l = ({ s with line := s.line ++ l, fed := s.fed + l.length }, [])
  | [], s, _, _, _ => by simp [feedF]
  | c :: l, s, hs, hc, hl => by
    simp only [List.length_cons] at hl
    have h1 := feed_char hs (hc c (by simp)) (by omega)
    have h2 := feed_chars l { s with line := s.line ++ [c], fed := s.fed + 1 } hs (fun x hx => hc x (by simp [hx])) (by simp only [List.length_append, List.length_cons, List.length_nil]; omega)
    simp only [feedF, h1, h2, List.nil_append, List.append_assoc, List.cons_append, List.length_cons, Prod.mk.injEq, and_true]
    congr 1
    omega
def lineStep (s : PS) (l : Bs) : Out :=
  if s.st = 0 then ((requestF s l true).1, [], (requestF s l true).2)
  else if s.st = 1 then headerLineF s l true
  else if s.st = 3 then ((chunkF s l true).1, [], (chunkF s l true).2)
  else trailerF s l true
theorem feed_line {s : PS} {l : Bs} (hs : lnS s.st) (h0 : s.line = []) (hc : ∀ c ∈ l, c.toNat ≠ 10 ∧ c.toNat ≠ 13) (hl : l.length ≤ 2000) {o : PS} {q : List Rq} (ho : lineStep { s with fed := s.fed + l.length + 2 } l = (o, q, 0)) : feedF s (l ++ crlf) = (o, q) := by
  have e : l ++ crlf = (l ++ [13]) ++ [10] := by simp [crlf]
  rw [e, feed_app, feed_chars (l ++ [13]) s hs (fun c hx => by
    rcases List.mem_append.1 hx with h | h
    · exact (hc c h).1
    · simp only [List.mem_singleton] at h; subst h; decide) (by rw [h0, List.length_append]; simp; omega), h0]
  simp only [List.nil_append, feed_one]
  have hs8 : s.st ≠ 8 := by unfold lnS at hs; omega
  refine step_of hs8 ?_
  have hT : takeF { s with line := l ++ [13], fed := s.fed + (l ++ [13]).length + 1 } 10 = lineStep { s with fed := s.fed + l.length + 2 } l := by
    unfold lnS at hs
    unfold takeF
    simp only
    rw [if_neg (by omega), if_neg (by omega), if_neg (by omega), if_pos (by decide)]
    unfold endedF
    have e1 : (l ++ [13]).getLast? = some (13 : UInt8) := by simp
    have e2 : (l ++ [(13 : UInt8)]).take ((l ++ [13]).length - 1) = l := by simp
    simp only [e1, decide_true, if_true, e2]
    rw [if_neg (by omega)]
    have e3 : l.all no13 = true := List.all_eq_true.2 fun c hx => by
      have := (hc c hx).2
      simp [no13, this]
    simp only [e3, List.length_append, List.length_cons, List.length_nil]
    rw [if_neg (by simp)]
    have e4 : ({ st := s.st, fault := s.fault, line := [], blank := s.blank, now := s.now, need := s.need, trailers := s.trailers, fed := s.fed + (l.length + (0 + 1)) + 1 } : PS) = { s with fed := s.fed + l.length + 2 } := by
      cases s; simp only at h0; subst h0; rfl
    rw [e4]
    rfl
  exact hT.trans ho
structure HOk (p : Bs × Bs) : Prop where
  tok : token p.1 = true
  val : p.2.all valB = true
  h1 : p.2.dropWhile blk = p.2
  h2 : p.2.reverse.dropWhile blk = p.2.reverse
  len : p.1.length + p.2.length ≤ 1000
def hline (p : Bs × Bs) : Bs := p.1 ++ [58, 32] ++ p.2
theorem tok_all {s : Bs} (h : token s = true) : s ≠ [] ∧ ∀ c ∈ s, tch c = true := by
  unfold token at h
  simp only [Bool.and_eq_true, Bool.not_eq_true', decide_eq_false_iff_not] at h
  exact ⟨h.1, List.all_eq_true.1 h.2⟩
theorem tch_no {c : UInt8} (h : tch c = true) : c.toNat ≠ 10 ∧ c.toNat ≠ 13 ∧ c ≠ 58 := by
  refine ⟨fun e => ?_, fun e => ?_, fun e => ?_⟩
  · have : c = 10 := UInt8.toNat_inj.1 e
    subst this; revert h; decide
  · have : c = 13 := UInt8.toNat_inj.1 e
    subst this; revert h; decide
  · subst e; revert h; decide
theorem val_no {c : UInt8} (h : valB c = true) : c.toNat ≠ 10 ∧ c.toNat ≠ 13 := by
  refine ⟨fun e => ?_, fun e => ?_⟩
  · have : c = 10 := UInt8.toNat_inj.1 e
    subst this; revert h; decide
  · have : c = 13 := UInt8.toNat_inj.1 e
    subst this; revert h; decide
theorem fnd_free {s r : Bs} {d : UInt8} (h : ∀ b ∈ s, b ≠ d) : fnd (s ++ d :: r) d = s.length := by
  induction s with
  | nil => simp [fnd, List.findIdx_cons]
  | cons b s ih =>
    have hb : (b == d) = false := by simpa using h b (by simp)
    have := ih fun c hc => h c (by simp [hc])
    unfold fnd at this ⊢
    simp only [List.cons_append, List.findIdx_cons, hb, cond_false, this, List.length_cons]
theorem cut_free {s r : Bs} {d : UInt8} (h : ∀ b ∈ s, b ≠ d) : cutF (s ++ d :: r) d = (s, r, true) := by
  unfold cutF
  rw [fnd_free h, if_pos (by simp), List.take_left]
  have : (s ++ d :: r).drop (s.length + 1) = r := by
    rw [show s ++ d :: r = (s ++ [d]) ++ r by simp, show s.length + 1 = (s ++ [d]).length by simp, List.drop_left]
  rw [this]
theorem cut_none {s : Bs} {d : UInt8} (h : ∀ b ∈ s, b ≠ d) : cutF s d = (s, [], false) := by
  unfold cutF
  rw [if_neg]
  have : fnd s d = s.length := List.findIdx_eq_length.2 fun b hb => by simpa using h b hb
  omega
theorem header_ok {p : Bs × Bs} (h : HOk p) : headerF (hline p) = some (low p.1, p.2) := by
  obtain ⟨n, v⟩ := p
  obtain ⟨ht, hv, h1, h2, hl⟩ := h
  simp only at ht hv h1 h2
  have hc : cutF (hline (n, v)) 58 = (n, 32 :: v, true) := by
    unfold hline
    rw [List.append_assoc]
    exact cut_free fun b hb => (tch_no ((tok_all ht).2 b hb)).2.2
  have htr : trimF (32 :: v) = v := by
    unfold trimF
    have : (32 :: v : Bs).dropWhile blk = v := by
      rw [List.dropWhile_cons, if_pos (by decide), h1]
    rw [this, h2, List.reverse_reverse]
  unfold headerF
  rw [hc]
  simp only [ht, htr, hv]
  rfl
theorem hline_no {p : Bs × Bs} (h : HOk p) : (∀ c ∈ hline p, c.toNat ≠ 10 ∧ c.toNat ≠ 13) ∧ (hline p).length ≤ 2000 ∧ hline p ≠ [] := by
  refine ⟨fun c hc => ?_, ?_, ?_⟩
  · unfold hline at hc
    rcases List.mem_append.1 hc with hc | hc
    · rcases List.mem_append.1 hc with hc | hc
      · have := tch_no ((tok_all h.tok).2 c hc)
        exact ⟨this.1, this.2.1⟩
      · simp only [List.mem_cons, List.not_mem_nil, or_false] at hc
        rcases hc with rfl | rfl <;> decide
    · exact val_no (List.all_eq_true.1 h.val c hc)
  · have := h.len
    unfold hline
    simp only [List.length_append, List.length_cons, List.length_nil]; omega
  · unfold hline; simp
def hdrs (l : List (Bs × Bs)) : Bs := l.flatMap fun p => hline p ++ crlf
def lowP (p : Bs × Bs) : Bs × Bs := (low p.1, p.2)
theorem feed_hdrs : ∀ (l : List (Bs × Bs)) (s : PS), s.st = 1 → s.line = [] → (∀ p ∈ l, HOk p) → s.now.hs.length + l.length ≤ 40 → ∃ f, feedF s (hdrs l) = ({ s with now := { s.now with hs := s.now.hs ++ l.map lowP }, fed := f }, [])
  | [], s, _, _, _, _ => ⟨s.fed, by simp [hdrs, feedF]⟩
  | p :: l, s, h1, h0, hp, hl => by
    simp only [List.length_cons] at hl
    have hk := hp p (by simp)
    obtain ⟨q1, q2, q3⟩ := hline_no hk
    have hst : lineStep { s with fed := s.fed + (hline p).length + 2 } (hline p) = ({ s with now := { s.now with hs := s.now.hs ++ [lowP p] }, fed := s.fed + (hline p).length + 2 }, [], 0) := by
      unfold lineStep
      simp only
      rw [if_neg (by omega), if_pos h1]
      unfold headerLineF
      simp only
      rw [if_neg (by omega), if_neg (by simp), if_neg q3, header_ok hk]
      rfl
    have e1 := feed_line (s := s) (.inr (.inl h1)) h0 q1 q2 hst
    obtain ⟨f, e2⟩ := feed_hdrs l { s with now := { s.now with hs := s.now.hs ++ [lowP p] }, fed := s.fed + (hline p).length + 2 } h1 h0 (fun x hx => hp x (by simp [hx])) (by simp only [List.length_append, List.length_cons, List.length_nil]; omega)
    refine ⟨f, ?_⟩
    have e : hdrs (p :: l) = (hline p ++ crlf) ++ hdrs l := by simp [hdrs]
    rw [e, feed_app, e1, e2]
    simp
theorem feed_trs : ∀ (l : List (Bs × Bs)) (s : PS), s.st = 7 → s.line = [] → (∀ p ∈ l, HOk p) → s.trailers + l.length ≤ 40 → ∃ f t, feedF s (hdrs l) = ({ s with trailers := t, fed := f }, [])
  | [], s, _, _, _, _ => ⟨s.fed, s.trailers, by simp [hdrs, feedF]⟩
  | p :: l, s, h1, h0, hp, hl => by
    simp only [List.length_cons] at hl
    have hk := hp p (by simp)
    obtain ⟨q1, q2, q3⟩ := hline_no hk
    have hst : lineStep { s with fed := s.fed + (hline p).length + 2 } (hline p) = ({ s with trailers := s.trailers + 1, fed := s.fed + (hline p).length + 2 }, [], 0) := by
      unfold lineStep
      simp only
      rw [if_neg (by omega), if_neg (by omega), if_neg (by omega)]
      unfold trailerF
      simp only
      rw [if_neg (by omega), if_neg (by simp), if_neg q3, header_ok hk]
    have e1 := feed_line (s := s) (.inr (.inr (.inr h1))) h0 q1 q2 hst
    obtain ⟨f, t, e2⟩ := feed_trs l { s with trailers := s.trailers + 1, fed := s.fed + (hline p).length + 2 } h1 h0 (fun x hx => hp x (by simp [hx])) (by simp only; omega)
    refine ⟨f, t, ?_⟩
    have e : hdrs (p :: l) = (hline p ++ crlf) ++ hdrs l := by simp [hdrs]
    rw [e, feed_app, e1, e2]
    simp
theorem feed_body : ∀ (b : Bs) (s : PS), s.st = 2 → s.need = b.length → 0 < b.length → s.now.close = false → feedF s b = (s.reset 0, [{ s.now with body := s.now.body ++ b }])
  | [], s, _, _, h, _ => by simp at h
  | c :: b, s, h1, h2, _, hcl => by
    simp only [List.length_cons] at h2
    by_cases hb : b = []
    · subst hb
      have hstep : stepF s c = (s.reset 0, [{ s.now with body := s.now.body ++ [c] }]) := by
        refine step_of (by omega) ?_
        unfold takeF
        simp only
        rw [if_pos (.inl h1), if_neg (by simp only [List.length_nil] at h2; omega), if_pos h1]
        simp [wholeF, PS.reset, hcl]
      simp only [feedF, hstep, List.append_nil]
    · have hbl : 0 < b.length := List.length_pos_iff.2 hb
      have hstep : stepF s c = ({ s with now := { s.now with body := s.now.body ++ [c] }, need := s.need - 1, fed := s.fed + 1 }, []) := by
        refine step_of (by omega) ?_
        unfold takeF
        simp only
        rw [if_pos (.inl h1), if_pos (by omega)]
      have ih := feed_body b { s with now := { s.now with body := s.now.body ++ [c] }, need := s.need - 1, fed := s.fed + 1 } h1 (by simp only; omega) hbl hcl
      simp only [feedF, hstep, ih, PS.reset, List.append_assoc, List.nil_append, List.cons_append]
theorem feed_data : ∀ (b : Bs) (s : PS), s.st = 4 → s.need = b.length → 0 < b.length → ∃ f, feedF s b = ({ s with now := { s.now with body := s.now.body ++ b }, need := 0, st := 5, fed := f }, [])
  | [], s, _, _, h => by simp at h
  | c :: b, s, h1, h2, _ => by
    simp only [List.length_cons] at h2
    by_cases hb : b = []
    · subst hb
      refine ⟨s.fed + 1, ?_⟩
      have hn : s.need - 1 = 0 := by simp only [List.length_nil] at h2; omega
      have hstep : stepF s c = ({ s with now := { s.now with body := s.now.body ++ [c] }, need := 0, st := 5, fed := s.fed + 1 }, []) := by
        refine step_of (by omega) ?_
        unfold takeF
        simp only
        rw [if_pos (.inr h1), if_neg (by omega), if_neg (by omega), hn]
      simp only [feedF, hstep, List.append_nil]
    · have hbl : 0 < b.length := List.length_pos_iff.2 hb
      have hstep : stepF s c = ({ s with now := { s.now with body := s.now.body ++ [c] }, need := s.need - 1, fed := s.fed + 1 }, []) := by
        refine step_of (by omega) ?_
        unfold takeF
        simp only
        rw [if_pos (.inr h1), if_pos (by omega)]
      obtain ⟨f, ih⟩ := feed_data b { s with now := { s.now with body := s.now.body ++ [c] }, need := s.need - 1, fed := s.fed + 1 } h1 (by simp only; omega) hbl
      exact ⟨f, by simp only [feedF, hstep, ih, List.append_assoc, List.nil_append, List.cons_append]⟩
structure XOk (h : Bs) (n : Nat) : Prop where
  l1 : 1 ≤ h.length
  l7 : h.length ≤ 7
  hex : h.all hexB = true
  says : hexF h = n
theorem hex_no {c : UInt8} (h : hexB c = true) : c.toNat ≠ 10 ∧ c.toNat ≠ 13 ∧ c ≠ 59 := by
  refine ⟨fun e => ?_, fun e => ?_, fun e => ?_⟩
  · have : c = 10 := UInt8.toNat_inj.1 e
    subst this; revert h; decide
  · have : c = 13 := UInt8.toNat_inj.1 e
    subst this; revert h; decide
  · subst e; revert h; decide
theorem chunk_line {s : PS} {h : Bs} {n : Nat} (hx : XOk h n) (hb : s.now.body.length + n ≤ 65536) : chunkF s h true = if n = 0 then ({ s with st := 7 }, 0) else ({ s with need := n, st := 4 }, 0) := by
  have hc : cutF h 59 = (h, [], false) := cut_none fun b hb => (hex_no (List.all_eq_true.1 hx.hex b hb)).2.2
  unfold chunkF
  rw [if_neg (by simp)]
  simp only [hc, hx.says]
  rw [if_neg (by
    rintro (h1 | h1 | h1 | h1)
    · have := hx.l1; omega
    · have := hx.l7; omega
    · rw [hx.hex] at h1; cases h1
    · cases h1)]
  by_cases h0 : n = 0
  · rw [if_pos h0, if_pos h0]
  · rw [if_neg h0, if_neg (by omega), if_neg h0]
theorem feed_chunk {s : PS} {h b : Bs} (h3 : s.st = 3) (h0 : s.line = []) (hx : XOk h b.length) (hb : 0 < b.length) (hl : s.now.body.length + b.length ≤ 65536) : ∃ f, feedF s (h ++ crlf ++ b ++ crlf) = ({ s with now := { s.now with body := s.now.body ++ b }, need := 0, fed := f }, []) := by
  have hno : ∀ c ∈ h, c.toNat ≠ 10 ∧ c.toNat ≠ 13 := fun c hc => by
    have := hex_no (List.all_eq_true.1 hx.hex c hc)
    exact ⟨this.1, this.2.1⟩
  have hl7 := hx.l7
  have hst : lineStep { s with fed := s.fed + h.length + 2 } h = ({ s with need := b.length, st := 4, fed := s.fed + h.length + 2 }, [], 0) := by
    unfold lineStep
    simp only
    rw [if_neg (by omega), if_neg (by omega), if_pos h3, chunk_line (s := { s with fed := s.fed + h.length + 2 }) hx hl, if_neg (by omega)]
  have e1 := feed_line (s := s) (.inr (.inr (.inl h3))) h0 hno (by omega) hst
  obtain ⟨f, e2⟩ := feed_data b { s with need := b.length, st := 4, fed := s.fed + h.length + 2 } rfl rfl hb
  refine ⟨f + 2, ?_⟩
  rw [show h ++ crlf ++ b ++ crlf = (h ++ crlf) ++ (b ++ crlf) by simp, feed_app, e1, feed_app, e2]
  have p1 : stepF { s with now := { s.now with body := s.now.body ++ b }, need := 0, st := 5, fed := f } 13 = ({ s with now := { s.now with body := s.now.body ++ b }, need := 0, st := 6, fed := f + 1 }, []) := step_of (by simp) rfl
  have p2 : stepF { s with now := { s.now with body := s.now.body ++ b }, need := 0, st := 6, fed := f + 1 } 10 = ({ s with now := { s.now with body := s.now.body ++ b }, need := 0, st := 3, fed := f + 2 }, []) := step_of (by simp) rfl
  simp only [crlf, feedF, p1, p2, List.append_nil]
  cases s
  simp only at h3
  subst h3
  rfl
theorem feed_chunks : ∀ (cs : List (Bs × Bs)) (s : PS), s.st = 3 → s.line = [] → s.need = 0 → (∀ x ∈ cs, XOk x.1 x.2.length ∧ 0 < x.2.length) → s.now.body.length + (cs.flatMap (·.2)).length ≤ 65536 → ∃ f, feedF s (cs.flatMap fun x => x.1 ++ crlf ++ x.2 ++ crlf) = ({ s with now := { s.now with body := s.now.body ++ cs.flatMap (·.2) }, fed := f }, [])
  | [], s, _, _, _, _, _ => ⟨s.fed, by simp [feedF]⟩
  | x :: cs, s, h3, h0, hn, hx, hl => by
    simp only [List.flatMap_cons, List.length_append] at hl
    obtain ⟨k1, k2⟩ := hx x (by simp)
    obtain ⟨f, e1⟩ := feed_chunk h3 h0 k1 k2 (by omega)
    obtain ⟨f2, e2⟩ := feed_chunks cs { s with now := { s.now with body := s.now.body ++ x.2 }, need := 0, fed := f } h3 h0 rfl (fun y hy => hx y (by simp [hy])) (by simp only [List.length_append]; omega)
    refine ⟨f2, ?_⟩
    rw [List.flatMap_cons, feed_app, e1, e2]
    simp [hn]
def postL : Bs := [80, 79, 83, 84, 32, 47, 32, 72, 84, 84, 80, 47, 49, 46, 49]
def postM : Bs := [80, 79, 83, 84]
def hostP : Bs × Bs := (hostN, [97])
theorem feed_first : feedF PS.zero (postL ++ crlf) = ({ PS.zero with now := { Rq.none with m := postM, t := [47] }, st := 1, fed := 17 }, []) :=
  feed_line (.inl rfl) rfl (by decide) (by decide) (by kernel_rfl)
theorem host_ok : HOk hostP := ⟨by decide +kernel, by decide +kernel, by decide +kernel, by decide +kernel, by decide⟩
theorem values_app (a b : List (Bs × Bs)) (n : Bs) : valuesF (a ++ b) n = valuesF a n ++ valuesF b n := by simp [valuesF]
theorem values_no {l : List (Bs × Bs)} {n : Bs} (h : ∀ p ∈ l, low p.1 ≠ n) : valuesF (l.map lowP) n = [] := by
  unfold valuesF
  rw [List.map_eq_nil_iff, List.filter_eq_nil_iff]
  intro p hp
  obtain ⟨q, hq, rfl⟩ := List.mem_map.1 hp
  have := h q hq
  simp [lowP, this]
def Oth (l : List (Bs × Bs)) : Prop := ∀ p ∈ l, low p.1 ≠ clN ∧ low p.1 ≠ teN ∧ low p.1 ≠ hostN ∧ low p.1 ≠ conN
theorem feed_head {l : List (Bs × Bs)} {x : Bs × Bs} (hl : ∀ p ∈ l, HOk p) (hx : HOk x) (h38 : l.length ≤ 38) : ∃ f, feedF PS.zero (postL ++ crlf ++ hdrs (hostP :: l ++ [x])) = ({ PS.zero with now := ⟨postM, [47], hostP :: l.map lowP ++ [lowP x], [], false⟩, st := 1, fed := f }, []) := by
  obtain ⟨f, e⟩ := feed_hdrs (hostP :: l ++ [x]) { PS.zero with now := { Rq.none with m := postM, t := [47] }, st := 1, fed := 17 } rfl rfl (fun p hp => by
    simp only [List.cons_append, List.mem_cons, List.mem_append, List.not_mem_nil, or_false] at hp
    rcases hp with rfl | hp | rfl
    · exact host_ok
    · exact hl p hp
    · exact hx) (by simp [Rq.none]; omega)
  refine ⟨f, ?_⟩
  rw [feed_app, feed_first, e]
  have : lowP hostP = hostP := by decide +kernel
  simp [Rq.none, this]
theorem whole_back {l : List (Bs × Bs)} {N d body : Bs} (hl : ∀ p ∈ l, HOk p) (ho : Oth l) (h38 : l.length ≤ 38) (hN : low N = clN) (hx : HOk (N, d)) (hd : numberF d = some body.length) (hb : body.length ≤ 65536) :
    feedF PS.zero (postL ++ crlf ++ hdrs (hostP :: l ++ [(N, d)]) ++ crlf ++ body) = (PS.zero, [⟨postM, [47], hostP :: l.map lowP ++ [(clN, d)], body, false⟩]) := by
  obtain ⟨f, e⟩ := feed_head hl hx h38
  have hlp : lowP (N, d) = (clN, d) := by unfold lowP; rw [hN]
  rw [hlp] at e
  have v1 : valuesF (hostP :: l.map lowP ++ [(clN, d)]) clN = [d] := by
    rw [show hostP :: l.map lowP ++ [(clN, d)] = [hostP] ++ l.map lowP ++ [(clN, d)] by simp, values_app, values_app, values_no fun p hp => (ho p hp).1]
    have a : valuesF [hostP] clN = [] := by decide +kernel
    rw [a]; simp [valuesF]
  have v2 : valuesF (hostP :: l.map lowP ++ [(clN, d)]) teN = [] := by
    rw [show hostP :: l.map lowP ++ [(clN, d)] = [hostP] ++ l.map lowP ++ [(clN, d)] by simp, values_app, values_app, values_no fun p hp => (ho p hp).2.1]
    have a : valuesF [hostP] teN = [] := by decide +kernel
    have b : clN ≠ teN := by decide +kernel
    rw [a]; simp [valuesF, b]
  have v3 : valuesF (hostP :: l.map lowP ++ [(clN, d)]) hostN = [[97]] := by
    rw [show hostP :: l.map lowP ++ [(clN, d)] = [hostP] ++ l.map lowP ++ [(clN, d)] by simp, values_app, values_app, values_no fun p hp => (ho p hp).2.2.1]
    have a : valuesF [hostP] hostN = [[97]] := by decide +kernel
    have b : clN ≠ hostN := by decide +kernel
    rw [a]; simp [valuesF, b]
  have v4 : valuesF (hostP :: l.map lowP ++ [(clN, d)]) conN = [] := by
    rw [show hostP :: l.map lowP ++ [(clN, d)] = [hostP] ++ l.map lowP ++ [(clN, d)] by simp, values_app, values_app, values_no fun p hp => (ho p hp).2.2.2]
    have a : valuesF [hostP] conN = [] := by decide +kernel
    have b : clN ≠ conN := by decide +kernel
    rw [a]; simp [valuesF, b]
  generalize hostP :: l.map lowP ++ [(clN, d)] = hs at *
  have hend : headersEndF { PS.zero with now := ⟨postM, [47], hs, [], false⟩, st := 1, fed := f + 2 } = if 0 < body.length then ({ PS.zero with now := ⟨postM, [47], hs, [], false⟩, st := 2, need := body.length, fed := f + 2 }, [], 0) else (PS.zero, [⟨postM, [47], hs, [], false⟩], 0) := by
    unfold headersEndF
    simp only [v1, v2, v3, v4]
    rw [if_neg (by simp), if_neg (by simp), if_pos (show [d].length = 1 from rfl)]
    simp only [List.headD_cons, hd]
    rw [if_neg (by omega), if_neg (by simp)]
    split
    · rfl
    · rename_i h0
      have : body.length = 0 := by omega
      simp [wholeF, PS.reset, PS.zero]
  rw [feed_app, feed_app, e]
  simp only [List.append_nil]
  by_cases h0 : 0 < body.length
  · rw [if_pos h0] at hend
    have e2 := feed_line (s := { PS.zero with now := ⟨postM, [47], hs, [], false⟩, st := 1, fed := f }) (l := []) (.inr (.inl rfl)) rfl (by simp) (by simp) (o := { PS.zero with now := ⟨postM, [47], hs, [], false⟩, st := 2, need := body.length, fed := f + 2 }) (q := []) hend
    have e3 := feed_body body { PS.zero with now := ⟨postM, [47], hs, [], false⟩, st := 2, need := body.length, fed := f + 2 } rfl rfl h0 rfl
    simp only [List.nil_append] at e2
    rw [e2, e3]
    simp [PS.reset, PS.zero]
  · rw [if_neg h0] at hend
    have hbn : body = [] := List.eq_nil_of_length_eq_zero (by omega)
    subst hbn
    have e2 := feed_line (s := { PS.zero with now := ⟨postM, [47], hs, [], false⟩, st := 1, fed := f }) (l := []) (.inr (.inl rfl)) rfl (by simp) (by simp) (o := PS.zero) (q := [⟨postM, [47], hs, [], false⟩]) hend
    simp only [List.nil_append] at e2
    rw [e2]
    simp [feedF]
theorem chunk_back {l tr : List (Bs × Bs)} {N : Bs} {cs : List (Bs × Bs)} (hl : ∀ p ∈ l, HOk p) (ho : Oth l) (h38 : l.length ≤ 38) (hN : low N = teN) (hx : HOk (N, chW)) (hc : ∀ x ∈ cs, XOk x.1 x.2.length ∧ 0 < x.2.length) (hb : (cs.flatMap (·.2)).length ≤ 65536) (ht : ∀ p ∈ tr, HOk p) (ht40 : tr.length ≤ 40) :
    feedF PS.zero (postL ++ crlf ++ hdrs (hostP :: l ++ [(N, chW)]) ++ crlf ++ (cs.flatMap fun x => x.1 ++ crlf ++ x.2 ++ crlf) ++ ([48] ++ crlf) ++ hdrs tr ++ crlf) = (PS.zero, [⟨postM, [47], hostP :: l.map lowP ++ [(teN, chW)], cs.flatMap (·.2), false⟩]) := by
  obtain ⟨f, e⟩ := feed_head hl hx h38
  have hlp : lowP (N, chW) = (teN, chW) := by unfold lowP; rw [hN]
  rw [hlp] at e
  have v1 : valuesF (hostP :: l.map lowP ++ [(teN, chW)]) clN = [] := by
    rw [show hostP :: l.map lowP ++ [(teN, chW)] = [hostP] ++ l.map lowP ++ [(teN, chW)] by simp, values_app, values_app, values_no fun p hp => (ho p hp).1]
    have a : valuesF [hostP] clN = [] := by decide +kernel
    have b : valuesF [(teN, chW)] clN = [] := by decide +kernel
    rw [a, b]; rfl
  have v2 : valuesF (hostP :: l.map lowP ++ [(teN, chW)]) teN = [chW] := by
    rw [show hostP :: l.map lowP ++ [(teN, chW)] = [hostP] ++ l.map lowP ++ [(teN, chW)] by simp, values_app, values_app, values_no fun p hp => (ho p hp).2.1]
    have a : valuesF [hostP] teN = [] := by decide +kernel
    have b : valuesF [(teN, chW)] teN = [chW] := by decide +kernel
    rw [a, b]; rfl
  have v3 : valuesF (hostP :: l.map lowP ++ [(teN, chW)]) hostN = [[97]] := by
    rw [show hostP :: l.map lowP ++ [(teN, chW)] = [hostP] ++ l.map lowP ++ [(teN, chW)] by simp, values_app, values_app, values_no fun p hp => (ho p hp).2.2.1]
    have a : valuesF [hostP] hostN = [[97]] := by decide +kernel
    have b : valuesF [(teN, chW)] hostN = [] := by decide +kernel
    rw [a, b]; rfl
  have v4 : valuesF (hostP :: l.map lowP ++ [(teN, chW)]) conN = [] := by
    rw [show hostP :: l.map lowP ++ [(teN, chW)] = [hostP] ++ l.map lowP ++ [(teN, chW)] by simp, values_app, values_app, values_no fun p hp => (ho p hp).2.2.2]
    have a : valuesF [hostP] conN = [] := by decide +kernel
    have b : valuesF [(teN, chW)] conN = [] := by decide +kernel
    rw [a, b]; rfl
  generalize hostP :: l.map lowP ++ [(teN, chW)] = hs at *
  have lc : low chW = chW := by decide +kernel
  have hend : headersEndF { PS.zero with now := ⟨postM, [47], hs, [], false⟩, st := 1, fed := f + 2 } = ({ PS.zero with now := ⟨postM, [47], hs, [], false⟩, st := 3, fed := f + 2 }, [], 0) := by
    unfold headersEndF
    simp only [v1, v2, v3, v4]
    rw [if_neg (by simp), if_neg (by simp [lc]), if_neg (by simp), if_pos (show [chW].length = 1 from rfl)]
    rfl
  have e2 := feed_line (s := { PS.zero with now := ⟨postM, [47], hs, [], false⟩, st := 1, fed := f }) (l := []) (.inr (.inl rfl)) rfl (by simp) (by simp) (o := { PS.zero with now := ⟨postM, [47], hs, [], false⟩, st := 3, fed := f + 2 }) (q := []) hend
  simp only [List.nil_append] at e2
  obtain ⟨f3, e3⟩ := feed_chunks cs { PS.zero with now := ⟨postM, [47], hs, [], false⟩, st := 3, fed := f + 2 } rfl rfl rfl hc (by simpa using hb)
  simp only [List.nil_append] at e3
  generalize cs.flatMap (·.2) = body at *
  have e4 := feed_line (s := { PS.zero with now := ⟨postM, [47], hs, body, false⟩, st := 3, fed := f3 }) (l := [48]) (.inr (.inr (.inl rfl))) rfl (by decide) (by decide) (o := { PS.zero with now := ⟨postM, [47], hs, body, false⟩, st := 7, fed := f3 + 3 }) (q := []) (by
    unfold lineStep
    simp only
    rw [if_neg (by simp), if_neg (by simp), if_pos trivial, chunk_line (n := 0) ⟨by decide, by decide, by decide, by decide⟩ (by simpa using hb), if_pos rfl]
    rfl)
  obtain ⟨f5, t5, e5⟩ := feed_trs tr { PS.zero with now := ⟨postM, [47], hs, body, false⟩, st := 7, fed := f3 + 3 } rfl rfl ht (by simpa [PS.zero] using ht40)
  have e6 := feed_line (s := { PS.zero with now := ⟨postM, [47], hs, body, false⟩, st := 7, trailers := t5, fed := f5 }) (l := []) (.inr (.inr (.inr rfl))) rfl (by simp) (by simp) (o := PS.zero) (q := [⟨postM, [47], hs, body, false⟩]) (by
    unfold lineStep
    simp only
    rw [if_neg (by simp), if_neg (by simp), if_neg (by simp)]
    unfold trailerF
    simp [wholeF, PS.reset, PS.zero])
  simp only [List.nil_append] at e6
  rw [feed_app (b := crlf), feed_app (b := hdrs tr), feed_app (b := [48] ++ crlf), feed_app (b := cs.flatMap fun x => x.1 ++ crlf ++ x.2 ++ crlf), feed_app (a := postL ++ crlf ++ hdrs (hostP :: l ++ [(N, chW)])), e, e2, e3, e4, e5, e6]
  simp
end Go.Proofs.Ht
namespace Go.Proofs.Ht
open Go.Abs Go.Abs.S
set_option linter.unusedSimpArgs false
open Go.Lib (toLowerD toLowerA lowerB itoa)
theorem low_eq (s : Bs) : toLowerA s = low s := by
  unfold toLowerA low
  refine List.map_congr_left fun b _ => ?_
  unfold lowerB lowB Go.Lib.isUpperB
  by_cases h : 65 ≤ b.toNat ∧ b.toNat ≤ 90
  · rw [if_pos h, if_pos (by first | simpa using h | (simp only [Bool.and_eq_true, decide_eq_true_eq]; exact h))]
  · rw [if_neg h, if_neg (by first | simpa using h | (simp only [Bool.and_eq_true, decide_eq_true_eq]; exact h))]
theorem tch_lt {c : UInt8} (h : tch c = true) : c.toNat < 128 := by
  unfold tch digB at h
  simp only [Bool.or_eq_true, Bool.and_eq_true, decide_eq_true_eq] at h
  rcases h with h | (h | h) | h
  · omega
  · omega
  · omega
  · simp only [tcL, List.mem_cons, List.not_mem_nil, or_false] at h
    rcases h with rfl | rfl | rfl | rfl | rfl | rfl | rfl | rfl | rfl | rfl | rfl | rfl | rfl | rfl | rfl <;> decide
theorem low_tch {s : Bs} (h : s.all tch = true) : toLowerD s = low s := by
  rw [Go.Lib.toLowerD_ascii _ fun b hb => tch_lt (List.all_eq_true.1 h b hb), low_eq]
def nameB (s : Bs) : Bool := (!decide (s = []) && s.all tch) && (!decide (low s = clN) && !decide (low s = teN))
def headOK (s : Bs) : Bool := match s with
  | [] => true
  | b :: _ => !blk b
def lastOK (s : Bs) : Bool := headOK s.reverse
def valueB (s : Bs) : Bool := s.all valB && (headOK s && lastOK s)
def hdrB (p : Bs × Bs) : Bool := nameB p.1 && valueB p.2
def checkF (l : List (Bs × Bs)) : Nat := if 40 < l.length then 3 else if l.all hdrB then 0 else 21
def reasons : List (Int × Bs) := [(200, [79, 75]), (201, [67, 114, 101, 97, 116, 101, 100]), (204, [78, 111, 32, 67, 111, 110, 116, 101, 110, 116]), (400, [66, 97, 100, 32, 82, 101, 113, 117, 101, 115, 116]), (401, [85, 110, 97, 117, 116, 104, 111, 114, 105, 122, 101, 100]), (404, [78, 111, 116, 32, 70, 111, 117, 110, 100]), (405, [77, 101, 116, 104, 111, 100, 32, 78, 111, 116, 32, 65, 108, 108, 111, 119, 101, 100]), (409, [67, 111, 110, 102, 108, 105, 99, 116]), (413, [67, 111, 110, 116, 101, 110, 116, 32, 84, 111, 111, 32, 76, 97, 114, 103, 101]), (422, [85, 110, 112, 114, 111, 99, 101, 115, 115, 97, 98, 108, 101, 32, 67, 111, 110, 116, 101, 110, 116]), (429, [84, 111, 111, 32, 77, 97, 110, 121, 32, 82, 101, 113, 117, 101, 115, 116, 115]), (500, [73, 110, 116, 101, 114, 110, 97, 108, 32, 83, 101, 114, 118, 101, 114, 32, 69, 114, 114, 111, 114]), (503, [83, 101, 114, 118, 105, 99, 101, 32, 85, 110, 97, 118, 97, 105, 108, 97, 98, 108, 101]), (507, [73, 110, 115, 117, 102, 102, 105, 99, 105, 101, 110, 116, 32, 83, 116, 111, 114, 97, 103, 101])]
def reasonF (n : Int) : Bs := match reasons.find? (·.1 == n) with
  | some p => p.2
  | none => []
theorem says_rval : Says 67 valB := by
  intro c H
  refine acalls_ofN rfl za67 rfl ?_
  rw [valB_int]
  by_cases h1 : (c.toNat : Int) = 9 <;> by_cases h2 : (32 : Int) ≤ (c.toNat : Int) <;> by_cases h3 : (c.toNat : Int) = 127 <;> (simp only [c67, sA, Int.reduceNegSucc, reduceCtorEq, Nat.reduceEqDiff, ↓reduceIte, Nat.reduceAdd, Int.reduceEq, Int.reduceLT, Int.reduceLE, Nat.reduceLT, h1, h2, h3]; exact ⟨by simp, (by first | with_reducible rfl | trivial | rfl | assumption)⟩)
theorem says_rblk : Says 68 blk := by
  intro c H
  refine acalls_ofN rfl za68 rfl ?_
  rw [blk_int]
  by_cases h1 : (c.toNat : Int) = 32 <;> by_cases h2 : (c.toNat : Int) = 9 <;> (simp only [c68, sA, Int.reduceNegSucc, reduceCtorEq, Nat.reduceEqDiff, ↓reduceIte, Nat.reduceAdd, Int.reduceEq, Int.reduceLT, Int.reduceLE, Nat.reduceLT, h1, h2]; exact ⟨by simp, (by first | with_reducible rfl | trivial | rfl | assumption)⟩)
theorem says_rtch : Says 66 tch := by
  intro c H
  refine acalls_ofN rfl za66 rfl ?_
  rw [tch_int]
  have hd : digB c = (decide ((48 : Int) ≤ c.toNat) && decide ((c.toNat : Int) ≤ 57)) := by
    rw [Bool.eq_iff_iff]; simp only [digB, Bool.and_eq_true, decide_eq_true_eq]; omega
  rw [hd]
  have ib : ∀ {H : AHeap}, ACalls Tryz.prog natX 88 [.str [33, 35, 36, 37, 38, 39, 42, 43, 45, 46, 94, 95, 96, 124, 126], by8 c] H fun v H' => v = .int .i64 (ibF c tcL 0) ∧ H = H' := ib_spec tcL c
  by_cases h1 : (97 : Int) ≤ (c.toNat : Int) <;> by_cases h2 : (c.toNat : Int) ≤ 122 <;> by_cases h3 : (65 : Int) ≤ (c.toNat : Int) <;> by_cases h4 : (c.toNat : Int) ≤ 90 <;> by_cases h5 : (48 : Int) ≤ (c.toNat : Int) <;> by_cases h6 : (c.toNat : Int) ≤ 57
  all_goals first
    | (exfalso; omega)
    | (simp only [c66, sA, Int.reduceNegSucc, reduceCtorEq, Nat.reduceEqDiff, ↓reduceIte, Nat.reduceAdd, Int.reduceEq, Int.reduceLT, Int.reduceLE, Nat.reduceLT, h1, h2, h3, h4, h5, h6]; exact ⟨by simp, (by first | with_reducible rfl | trivial | rfl | assumption)⟩)
    | (simp only [c66, sA, Int.reduceNegSucc, reduceCtorEq, Nat.reduceEqDiff, ↓reduceIte, Nat.reduceAdd, Int.reduceEq, Int.reduceLT, Int.reduceLE, Nat.reduceLT, h1, h2, h3, h4, h5, h6]
       refine ib.mono ?_
       rintro v _ ⟨rfl, rfl⟩
       simp only [sA, Int.reduceNegSucc, reduceCtorEq, Nat.reduceEqDiff, ↓reduceIte, Nat.reduceAdd, Int.reduceEq, Int.reduceLT, Int.reduceLE, Nat.reduceLT]
       exact ⟨by simp, (by first | with_reducible rfl | trivial | rfl | assumption)⟩)
theorem rall_spec {g : Nat} {p : UInt8 → Bool} (hp : Says g p) {H : AHeap} (s : Bs) (hs : s.length ≤ 4611686018427387904) (hg : g < 1024 := by decide) :
    ACalls Tryz.prog natX 65 [.str s, .func (.func g) [] []] H fun v H' => v = .bool (s.all p) ∧ H = H' := by
  refine acalls_ofN rfl za65 rfl ?_
  simp only [c65, sA, Int.reduceNegSucc, reduceCtorEq, Nat.reduceEqDiff, ↓reduceIte, Nat.reduceAdd, Int.reduceEq, Int.reduceLT, Int.reduceLE, Nat.reduceLT]
  refine aw_loop (fun q (T : Env) H' => ∃ j : Nat, j ≤ s.length ∧ q = s.length - j ∧ T 0 = .str s ∧ T 1 = .func (.func g) [] [] ∧ T 7 = .int .i64 (s.length : Int) ∧ T 8 = .int .i64 (j : Int) ∧ (s.take j).all p = true ∧ H = H') s.length
    ⟨0, Nat.zero_le _, rfl, by simp only [sA, Int.reduceNegSucc, reduceCtorEq, Nat.reduceEqDiff, ↓reduceIte, Nat.reduceAdd, Int.reduceEq, Int.reduceLT, Int.reduceLE, Nat.reduceLT]; try rfl, by simp only [sA, Int.reduceNegSucc, reduceCtorEq, Nat.reduceEqDiff, ↓reduceIte, Nat.reduceAdd, Int.reduceEq, Int.reduceLT, Int.reduceLE, Nat.reduceLT]; try rfl, by simp only [sA, Int.reduceNegSucc, reduceCtorEq, Nat.reduceEqDiff, ↓reduceIte, Nat.reduceAdd, Int.reduceEq, Int.reduceLT, Int.reduceLE, Nat.reduceLT]; try rfl, by simp only [sA, Int.reduceNegSucc, reduceCtorEq, Nat.reduceEqDiff, ↓reduceIte, Nat.reduceAdd, Int.reduceEq, Int.reduceLT, Int.reduceLE, Nat.reduceLT]; try rfl, rfl, rfl⟩ ?_
  rintro q T _ ⟨j, hj, rfl, g0, g1, g7, g8, hA, rfl⟩
  by_cases hlt : j < s.length
  · have hlt' : (j : Int) < (s.length : Int) := by omega
    obtain ⟨c, hc⟩ := isSome_of_lt hlt
    simp only [sA, Int.reduceNegSucc, reduceCtorEq, Nat.reduceEqDiff, ↓reduceIte, Nat.reduceAdd, Int.reduceEq, Int.reduceLT, Int.reduceLE, Nat.reduceLT, g0, g1, g7, g8, hlt', str_idx hc, hg]
    refine (hp c H).mono ?_
    rintro v _ ⟨rfl, rfl⟩
    cases hpc : p c with
    | true =>
      simp only [sA, Int.reduceNegSucc, reduceCtorEq, Nat.reduceEqDiff, ↓reduceIte, Nat.reduceAdd, Int.reduceEq, Int.reduceLT, Int.reduceLE, Nat.reduceLT, g0, g1, g7, g8, wrap1 j (by omega)]
      refine ⟨_, by omega, j + 1, by omega, rfl, (by first | with_reducible rfl | trivial | rfl | assumption), (by first | with_reducible rfl | trivial | rfl | assumption), (by first | with_reducible rfl | trivial | rfl | assumption), (by first | with_reducible rfl | trivial | rfl | assumption), ?_, (by first | with_reducible rfl | trivial | rfl | assumption)⟩
      rw [List.take_add_one, hc, List.all_append, hA]; simp [hpc]
    | false =>
      simp only [sA, Int.reduceNegSucc, reduceCtorEq, Nat.reduceEqDiff, ↓reduceIte, Nat.reduceAdd, Int.reduceEq, Int.reduceLT, Int.reduceLE, Nat.reduceLT, g0, g1, g7, g8]
      refine ⟨?_, (by first | with_reducible rfl | trivial | rfl | assumption)⟩
      have : s.all p = false := by
        rw [Bool.eq_false_iff]
        intro h
        have := List.all_eq_true.1 h c (List.mem_of_getElem? hc)
        rw [hpc] at this; simp at this
      rw [this]
  · have hlt' : ¬ (j : Int) < (s.length : Int) := by omega
    simp only [sA, Int.reduceNegSucc, reduceCtorEq, Nat.reduceEqDiff, ↓reduceIte, Nat.reduceAdd, Int.reduceEq, Int.reduceLT, Int.reduceLE, Nat.reduceLT, g0, g1, g7, g8, hlt']
    refine ⟨?_, (by first | with_reducible rfl | trivial | rfl | assumption)⟩
    rw [List.take_of_length_le (by omega)] at hA
    rw [hA]
theorem name_spec {m : Nat} {H : AHeap} (hG : GX m H) (s : Bs) (hs : s.length ≤ 1000000) : ACalls Tryz.prog natX 51 [.str s] H fun v H' => v = .bool (nameB s) ∧ H = H' := by
  refine acalls_ofN rfl za51 rfl ?_
  by_cases h0 : s = []
  · subst h0
    simp only [c51, sA, Int.reduceNegSucc, reduceCtorEq, Nat.reduceEqDiff, ↓reduceIte, Nat.reduceAdd, Int.reduceEq, Int.reduceLT, Int.reduceLE, Nat.reduceLT]
    exact ⟨by simp [nameB], (by first | with_reducible rfl | trivial | rfl | assumption)⟩
  · simp only [c51, sA, Int.reduceNegSucc, reduceCtorEq, Nat.reduceEqDiff, ↓reduceIte, Nat.reduceAdd, Int.reduceEq, Int.reduceLT, Int.reduceLE, Nat.reduceLT, h0]
    refine (rall_spec says_rtch s (by omega)).mono ?_
    rintro v _ ⟨rfl, rfl⟩
    cases ha : s.all tch with
    | false =>
      simp only [sA, Int.reduceNegSucc, reduceCtorEq, Nat.reduceEqDiff, ↓reduceIte, Nat.reduceAdd, Int.reduceEq, Int.reduceLT, Int.reduceLE, Nat.reduceLT]
      exact ⟨by simp [nameB, ha], (by first | with_reducible rfl | trivial | rfl | assumption)⟩
    | true =>
      simp only [sA, Int.reduceNegSucc, reduceCtorEq, Nat.reduceEqDiff, ↓reduceIte, Nat.reduceAdd, Int.reduceEq, Int.reduceLT, Int.reduceLE, Nat.reduceLT]
      refine tolower_call hG s (by omega) ?_
      rw [low_tch ha]
      have e : nameB s = (!decide (low s = clN) && !decide (low s = teN)) := by simp [nameB, ha, h0]
      rw [e]
      show kont _ _ _ _ _ (.str (low s)) _
      by_cases h1 : low s = clN
      · simp only [sA, Int.reduceNegSucc, reduceCtorEq, Nat.reduceEqDiff, ↓reduceIte, Nat.reduceAdd, Int.reduceEq, Int.reduceLT, Int.reduceLE, Nat.reduceLT, h1]
        exact ⟨(by first | with_reducible rfl | trivial | rfl | assumption), (by first | with_reducible rfl | trivial | rfl | assumption)⟩
      · have h1' : ¬ low s = [99, 111, 110, 116, 101, 110, 116, 45, 108, 101, 110, 103, 116, 104] := h1
        by_cases h2 : low s = teN
        · have h2' : low s = [116, 114, 97, 110, 115, 102, 101, 114, 45, 101, 110, 99, 111, 100, 105, 110, 103] := h2
          simp only [sA, Int.reduceNegSucc, reduceCtorEq, Nat.reduceEqDiff, ↓reduceIte, Nat.reduceAdd, Int.reduceEq, Int.reduceLT, Int.reduceLE, Nat.reduceLT, h1', h2']
          exact ⟨by rw [← h2', h2]; simp, (by first | with_reducible rfl | trivial | rfl | assumption)⟩
        · have h2' : ¬ low s = [116, 114, 97, 110, 115, 102, 101, 114, 45, 101, 110, 99, 111, 100, 105, 110, 103] := h2
          simp only [sA, Int.reduceNegSucc, reduceCtorEq, Nat.reduceEqDiff, ↓reduceIte, Nat.reduceAdd, Int.reduceEq, Int.reduceLT, Int.reduceLE, Nat.reduceLT, h1', h2']
          exact ⟨by simp [h1, h2], (by first | with_reducible rfl | trivial | rfl | assumption)⟩
theorem valueB_cons {b l : UInt8} {s : Bs} (h : s ≠ []) (hb : s[0]? = some b) (hl : s[s.length - 1]? = some l) : valueB s = (s.all valB && (!blk b && !blk l)) := by
  have e1 : headOK s = !blk b := by
    cases s with
    | nil => simp at h
    | cons c r => simp only [List.getElem?_cons_zero, Option.some.injEq] at hb; subst hb; rfl
  have e2 : lastOK s = !blk l := by
    have hr : s.reverse[0]? = some l := by
      rw [List.getElem?_reverse (by have := List.length_pos_iff.2 h; omega), Nat.sub_zero]
      exact hl
    unfold lastOK
    cases hs : s.reverse with
    | nil => exact absurd (List.reverse_eq_nil_iff.1 hs) h
    | cons c r => rw [hs] at hr; simp only [List.getElem?_cons_zero, Option.some.injEq] at hr; subst hr; rfl
  rw [valueB, e1, e2]
theorem value_spec {H : AHeap} (s : Bs) (hs : s.length ≤ 1000000) : ACalls Tryz.prog natX 52 [.str s] H fun v H' => v = .bool (valueB s) ∧ H = H' := by
  refine acalls_ofN rfl za52 rfl ?_
  by_cases h0 : s = []
  · subst h0
    simp only [c52, sA, Int.reduceNegSucc, reduceCtorEq, Nat.reduceEqDiff, ↓reduceIte, Nat.reduceAdd, Int.reduceEq, Int.reduceLT, Int.reduceLE, Nat.reduceLT]
    exact ⟨by simp [valueB, headOK, lastOK], (by first | with_reducible rfl | trivial | rfl | assumption)⟩
  · have hpos := List.length_pos_iff.2 h0
    obtain ⟨b, hb⟩ := isSome_of_lt (l := s) (i := 0) hpos
    obtain ⟨l, hl⟩ := isSome_of_lt (l := s) (i := s.length - 1) (by omega)
    rw [valueB_cons h0 hb hl]
    simp only [c52, sA, Int.reduceNegSucc, reduceCtorEq, Nat.reduceEqDiff, ↓reduceIte, Nat.reduceAdd, Int.reduceEq, Int.reduceLT, Int.reduceLE, Nat.reduceLT, h0]
    refine (rall_spec says_rval s (by omega)).mono ?_
    rintro v _ ⟨rfl, rfl⟩
    cases ha : s.all valB with
    | false =>
      simp only [sA, Int.reduceNegSucc, reduceCtorEq, Nat.reduceEqDiff, ↓reduceIte, Nat.reduceAdd, Int.reduceEq, Int.reduceLT, Int.reduceLE, Nat.reduceLT]
      exact ⟨by simp, (by first | with_reducible rfl | trivial | rfl | assumption)⟩
    | true =>
      have i0 : aIdxS (.str s) (.int .i64 0) = some (by8 b) := str_idx (i := 0) hb .i64
      simp only [sA, Int.reduceNegSucc, reduceCtorEq, Nat.reduceEqDiff, ↓reduceIte, Nat.reduceAdd, Int.reduceEq, Int.reduceLT, Int.reduceLE, Nat.reduceLT, i0]
      refine (says_rblk b H).mono ?_
      rintro v _ ⟨rfl, rfl⟩
      cases hbb : blk b with
      | true =>
        simp only [sA, Int.reduceNegSucc, reduceCtorEq, Nat.reduceEqDiff, ↓reduceIte, Nat.reduceAdd, Int.reduceEq, Int.reduceLT, Int.reduceLE, Nat.reduceLT]
        exact ⟨by simp, (by first | with_reducible rfl | trivial | rfl | assumption)⟩
      | false =>
        have w1 : IntKind.i64.wrap ((s.length : Int) - 1) = ((s.length - 1 : Nat) : Int) := by
          rw [wrap64 (by omega) (by omega)]; omega
        simp only [sA, Int.reduceNegSucc, reduceCtorEq, Nat.reduceEqDiff, ↓reduceIte, Nat.reduceAdd, Int.reduceEq, Int.reduceLT, Int.reduceLE, Nat.reduceLT, w1, str_idx hl]
        refine (says_rblk l H).mono ?_
        rintro v _ ⟨rfl, rfl⟩
        simp only [sA, Int.reduceNegSucc, reduceCtorEq, Nat.reduceEqDiff, ↓reduceIte, Nat.reduceAdd, Int.reduceEq, Int.reduceLT, Int.reduceLE, Nat.reduceLT]
        exact ⟨by simp, (by first | with_reducible rfl | trivial | rfl | assumption)⟩
structure Sm (l : List (Bs × Bs)) : Prop where
  n : l.length ≤ 60
  e : ∀ p ∈ l, p.1.length + p.2.length ≤ 200
theorem check_spec {n m : Nat} {H : AHeap} (hG : GX m H) {s : AVal} {l : List (Bs × Bs)} (hl : Prs n H s l) (h4 : m ≤ H.next) (hn : n ≤ H.next) (hS : Sm l) :
    ACalls Tryz.prog natX 33 [s] H fun v H' => v = .int .i64 (checkF l : Int) ∧ Ext H.next H H' := by
  refine acalls_ofN rfl za33 rfl ?_
  have hln := hS.n
  by_cases h40 : 40 < l.length
  · have h40' : (40 : Int) < (l.length : Int) := by omega
    simp only [c33, sA, Int.reduceNegSucc, reduceCtorEq, Nat.reduceEqDiff, ↓reduceIte, Nat.reduceAdd, Int.reduceEq, Int.reduceLT, Int.reduceLE, Nat.reduceLT, hl.len, h40']
    exact ⟨by simp [checkF, h40], Ext.refl _ _⟩
  · have h40' : ¬ (40 : Int) < (l.length : Int) := by omega
    simp only [c33, sA, Int.reduceNegSucc, reduceCtorEq, Nat.reduceEqDiff, ↓reduceIte, Nat.reduceAdd, Int.reduceEq, Int.reduceLT, Int.reduceLE, Nat.reduceLT, hl.len, h40']
    refine aw_loop (fun q (T : Env) H' => ∃ j : Nat, j ≤ l.length ∧ q = l.length - j ∧ T 8 = s ∧ T 9 = .int .i64 (l.length : Int) ∧ T 10 = .int .i64 (j : Int) ∧ (l.take j).all hdrB = true ∧ Ext H.next H H') l.length
      ⟨0, Nat.zero_le _, rfl, by simp only [sA, Int.reduceNegSucc, reduceCtorEq, Nat.reduceEqDiff, ↓reduceIte, Nat.reduceAdd, Int.reduceEq, Int.reduceLT, Int.reduceLE, Nat.reduceLT]; try rfl, by simp only [sA, Int.reduceNegSucc, reduceCtorEq, Nat.reduceEqDiff, ↓reduceIte, Nat.reduceAdd, Int.reduceEq, Int.reduceLT, Int.reduceLE, Nat.reduceLT]; try rfl, by simp only [sA, Int.reduceNegSucc, reduceCtorEq, Nat.reduceEqDiff, ↓reduceIte, Nat.reduceAdd, Int.reduceEq, Int.reduceLT, Int.reduceLE, Nat.reduceLT]; try rfl, rfl, Ext.refl _ _⟩ ?_
    rintro q T H' ⟨j, hj, rfl, g8, g9, g10, hA, E⟩
    by_cases hlt : j < l.length
    · have hlt' : (j : Int) < (l.length : Int) := by omega
      obtain ⟨p, hp⟩ := isSome_of_lt hlt
      have hpm := List.mem_of_getElem? hp
      have hpe := hS.e p hpm
      obtain ⟨a, m1, m2, _⟩ := (hl.ext (E.less hn)).at hp
      obtain ⟨H1, m3, r1, k1, o1⟩ := row_newL H' [.str [], .str []] (n := 2) rfl
      obtain ⟨H2, m4, r2, k2, o2⟩ := row_storeN r1 (n := 2) rfl (xs := [.str p.1, .str p.2]) rfl rfl
      have E2 : Ext H.next H H2 := ⟨by have := E.next; omega, fun c hc => by rw [o2 _ (by have := E.next; omega), o1 _ (by have := E.next; omega), E.old c hc]⟩
      have G2 : GX m H2 := hG.ext (E2.less h4)
      simp only [sA, Int.reduceNegSucc, reduceCtorEq, Nat.reduceEqDiff, ↓reduceIte, Nat.reduceAdd, Int.reduceEq, Int.reduceLT, Int.reduceLE, Nat.reduceLT, g8, g9, g10, hlt', m1, m2, m3, m4, fld0, row_load r2 (n := 2) rfl (i := 0) rfl]
      refine (name_spec G2 p.1 (by omega)).mono ?_
      rintro v _ ⟨rfl, rfl⟩
      have no : hdrB p = false → checkF l = 21 := fun h => by
        have : l.all hdrB = false := by
          rw [Bool.eq_false_iff]
          intro h'
          have := List.all_eq_true.1 h' p hpm
          rw [h] at this; simp at this
        simp [checkF, h40, this]
      cases hnm : nameB p.1 with
      | false =>
        simp only [sA, Int.reduceNegSucc, reduceCtorEq, Nat.reduceEqDiff, ↓reduceIte, Nat.reduceAdd, Int.reduceEq, Int.reduceLT, Int.reduceLE, Nat.reduceLT, g8, g9, g10]
        exact ⟨by rw [no (by simp [hdrB, hnm])]; rfl, E2⟩
      | true =>
        simp only [sA, Int.reduceNegSucc, reduceCtorEq, Nat.reduceEqDiff, ↓reduceIte, Nat.reduceAdd, Int.reduceEq, Int.reduceLT, Int.reduceLE, Nat.reduceLT, g8, g9, g10, fld0, row_load r2 (n := 2) rfl (i := 1) rfl]
        refine (value_spec p.2 (by omega)).mono ?_
        rintro v _ ⟨rfl, rfl⟩
        cases hvl : valueB p.2 with
        | false =>
          simp only [sA, Int.reduceNegSucc, reduceCtorEq, Nat.reduceEqDiff, ↓reduceIte, Nat.reduceAdd, Int.reduceEq, Int.reduceLT, Int.reduceLE, Nat.reduceLT, g8, g9, g10]
          exact ⟨by rw [no (by simp [hdrB, hvl])]; rfl, E2⟩
        | true =>
          simp only [sA, Int.reduceNegSucc, reduceCtorEq, Nat.reduceEqDiff, ↓reduceIte, Nat.reduceAdd, Int.reduceEq, Int.reduceLT, Int.reduceLE, Nat.reduceLT, g8, g9, g10, wrap1 j (by omega)]
          refine ⟨_, by omega, j + 1, by omega, rfl, (by first | with_reducible rfl | trivial | rfl | assumption), (by first | with_reducible rfl | trivial | rfl | assumption), (by first | with_reducible rfl | trivial | rfl | assumption), ?_, E2⟩
          rw [List.take_add_one, hp, List.all_append, hA]; simp [hdrB, hnm, hvl]
    · have hlt' : ¬ (j : Int) < (l.length : Int) := by omega
      rw [List.take_of_length_le (by omega)] at hA
      simp only [sA, Int.reduceNegSucc, reduceCtorEq, Nat.reduceEqDiff, ↓reduceIte, Nat.reduceAdd, Int.reduceEq, Int.reduceLT, Int.reduceLE, Nat.reduceLT, g8, g9, g10, hlt']
      exact ⟨by simp [checkF, h40, hA], E⟩
theorem hdrs_len {l : List (Bs × Bs)} (h : ∀ p ∈ l, p.1.length + p.2.length ≤ 200) : (hdrs l).length ≤ 204 * l.length := by
  induction l with
  | nil => simp [hdrs]
  | cons p l ih =>
    have h1 := ih fun q hq => h q (by simp [hq])
    have h2 := h p (by simp)
    simp only [hdrs, List.flatMap_cons, List.length_append, List.length_cons, hline, crlf, List.length_nil] at h1 ⊢
    omega
theorem Sm.take {l : List (Bs × Bs)} (h : Sm l) (j : Nat) : (hdrs (l.take j)).length ≤ 12240 := by
  have h1 := hdrs_len (l := l.take j) fun p hp => h.e p (List.mem_of_mem_take hp)
  have h2 := List.length_take_le' j l
  have h3 := h.n
  omega
theorem hdrs_snoc (l : List (Bs × Bs)) (p : Bs × Bs) : hdrs (l ++ [p]) = hdrs l ++ (hline p ++ crlf) := by simp [hdrs]
def lnsF (l : List Bs) : Bs := l.flatMap (· ++ crlf)
theorem lns_snoc (l : List Bs) (s : Bs) : lnsF (l ++ [s]) = lnsF l ++ s ++ crlf := by simp [lnsF]
theorem lns_len {m : Nat} {l : List Bs} (h : ∀ s ∈ l, s.length ≤ m) : (lnsF l).length ≤ (m + 2) * l.length := by
  induction l with
  | nil => simp [lnsF]
  | cons p l ih =>
    have h1 := ih fun q hq => h q (by simp [hq])
    have h2 := h p (by simp)
    have h3 : (m + 2) * (l.length + 1) = (m + 2) * l.length + (m + 2) := by rw [Nat.mul_add, Nat.mul_one]
    simp only [lnsF, List.flatMap_cons, List.length_append, List.length_cons, crlf, List.length_nil] at h1 ⊢
    omega
theorem lines_spec {n : Nat} {H : AHeap} {tv : AVal} {t : Bs} {b : Nat} {ls : List Bs} (hA : App n H tv (byts t)) (hn : n ≤ H.next) (hR : Row H b (strs ls)) (hb : b < H.next) (hd : Apart tv b) (ht : t.length ≤ 1000000) (hl : ls.length ≤ 2) (hs : ∀ s ∈ ls, s.length ≤ 100000) {k : Nat} (hk : ls.length = k) :
    ACalls Tryz.prog natX 23 [tv, slR b k (.known k)] H fun v H' => App n H' v (byts (t ++ lnsF ls)) ∧ Ext n H H' := by
  subst hk
  refine acalls_ofN rfl za23 rfl ?_
  simp only [c23, sA, Int.reduceNegSucc, reduceCtorEq, Nat.reduceEqDiff, ↓reduceIte, Nat.reduceAdd, Int.reduceEq, Int.reduceLT, Int.reduceLE, Nat.reduceLT, row_len]
  refine aw_loop (fun q (T : Env) H' => ∃ j : Nat, j ≤ ls.length ∧ q = ls.length - j ∧ T 7 = slR b ls.length (.known ls.length) ∧ T 8 = .int .i64 (ls.length : Int) ∧ T 9 = .int .i64 (j : Int) ∧ App n H' (T 0) (byts (t ++ lnsF (ls.take j))) ∧ Apart (T 0) b ∧ Row H' b (strs ls) ∧ b < H'.next ∧ Ext n H H') ls.length
    ⟨0, Nat.zero_le _, rfl, by simp only [sA, Int.reduceNegSucc, reduceCtorEq, Nat.reduceEqDiff, ↓reduceIte, Nat.reduceAdd, Int.reduceEq, Int.reduceLT, Int.reduceLE, Nat.reduceLT]; try rfl, by simp only [sA, Int.reduceNegSucc, reduceCtorEq, Nat.reduceEqDiff, ↓reduceIte, Nat.reduceAdd, Int.reduceEq, Int.reduceLT, Int.reduceLE, Nat.reduceLT]; try rfl, by simp only [sA, Int.reduceNegSucc, reduceCtorEq, Nat.reduceEqDiff, ↓reduceIte, Nat.reduceAdd, Int.reduceEq, Int.reduceLT, Int.reduceLE, Nat.reduceLT]; try rfl, by simp only [sA, Int.reduceNegSucc, reduceCtorEq, Nat.reduceEqDiff, ↓reduceIte, Nat.reduceAdd, Int.reduceEq, Int.reduceLT, Int.reduceLE, Nat.reduceLT]; simpa [lnsF] using hA, by simp only [sA, Int.reduceNegSucc, reduceCtorEq, Nat.reduceEqDiff, ↓reduceIte, Nat.reduceAdd, Int.reduceEq, Int.reduceLT, Int.reduceLE, Nat.reduceLT]; exact hd, hR, hb, Ext.refl _ _⟩ ?_
  rintro q T H' ⟨j, hj, rfl, g7, g8, g9, hA', hd', hR', hb', E⟩
  have hsl : (strs ls).length = ls.length := by simp [strs]
  by_cases hlt : j < ls.length
  · have hlt' : (j : Int) < (ls.length : Int) := by omega
    obtain ⟨s, hsj⟩ := isSome_of_lt hlt
    have hsm := hs s (List.mem_of_getElem? hsj)
    have hll := lns_len (l := ls.take j) (m := 100000) fun s hsx => hs s (List.mem_of_mem_take hsx)
    have hlt2 := List.length_take_le' j ls
    have hb1 : (t ++ lnsF (ls.take j)).length ≤ 2000000 := by
      have : (100000 + 2) * (ls.take j).length ≤ (100000 + 2) * 2 := Nat.mul_le_mul_left _ (by omega)
      simp only [List.length_append]; omega
    have hn' := Nat.le_trans hn E.next
    obtain ⟨s1, H1, m1, a1, E1, o1⟩ := ap_app hA' hn' (src_str H' s) (by omega)
    obtain ⟨p1, p2⟩ := o1 b hb' hd'
    obtain ⟨s2, H2, m2, a2, E2, o2⟩ := ap_app a1 (Nat.le_trans hn' E1.next) (src_str H1 crlf) (by simp only [List.length_append] at hb1 ⊢; simp [crlf]; omega)
    obtain ⟨p3, p4⟩ := o2 b (by have := E1.next; omega) p2
    have m2' : aAppend 1 1 H1 s1 (.str [13, 10]) = some (s2, H2) := m2
    simp only [sA, Int.reduceNegSucc, reduceCtorEq, Nat.reduceEqDiff, ↓reduceIte, Nat.reduceAdd, Int.reduceEq, Int.reduceLT, Int.reduceLE, Nat.reduceLT, g7, g8, g9, hlt', row_idx _ hlt, row_load hR' hsl (strs_get hsj), m1, m2', wrap1 j (by omega)]
    refine ⟨_, by omega, j + 1, by omega, rfl, (by first | with_reducible rfl | trivial | rfl | assumption), (by first | with_reducible rfl | trivial | rfl | assumption), (by first | with_reducible rfl | trivial | rfl | assumption), ?_, p4, (hR'.same p1).same p3, by have := E1.next; have := E2.next; omega, (E.trans E1).trans E2⟩
    rw [List.take_add_one, hsj, Option.toList_some, lns_snoc]
    simpa only [List.append_assoc] using a2
  · have hlt' : ¬ (j : Int) < (ls.length : Int) := by omega
    rw [List.take_of_length_le (by omega)] at hA'
    simp only [sA, Int.reduceNegSucc, reduceCtorEq, Nat.reduceEqDiff, ↓reduceIte, Nat.reduceAdd, Int.reduceEq, Int.reduceLT, Int.reduceLE, Nat.reduceLT, g7, g8, g9, hlt']
    exact ⟨hA', E⟩
theorem add_str {x y : Bs} (h : x.length + y.length ≤ 1000000) : aBin .add (.str x) (.str y) = some (.str (x ++ y)) := str_add (by omega)
theorem headers_spec {n : Nat} {H : AHeap} {tv s : AVal} {t : Bs} {l : List (Bs × Bs)} (hA : App n H tv (byts t)) (hn : n ≤ H.next) (hl : Prs n H s l) (ht : t.length ≤ 1000) (hS : Sm l) :
    ACalls Tryz.prog natX 34 [tv, s] H fun v H' => App n H' v (byts (t ++ hdrs l)) ∧ Ext n H H' := by
  have hln := hS.n
  refine acalls_ofN rfl za34 rfl ?_
  simp only [c34, sA, Int.reduceNegSucc, reduceCtorEq, Nat.reduceEqDiff, ↓reduceIte, Nat.reduceAdd, Int.reduceEq, Int.reduceLT, Int.reduceLE, Nat.reduceLT, hl.len]
  refine aw_loop (fun q (T : Env) H' => ∃ j : Nat, j ≤ l.length ∧ q = l.length - j ∧ T 7 = s ∧ T 8 = .int .i64 (l.length : Int) ∧ T 9 = .int .i64 (j : Int) ∧ App n H' (T 0) (byts (t ++ hdrs (l.take j))) ∧ Ext n H H') l.length
    ⟨0, Nat.zero_le _, rfl, by simp only [sA, Int.reduceNegSucc, reduceCtorEq, Nat.reduceEqDiff, ↓reduceIte, Nat.reduceAdd, Int.reduceEq, Int.reduceLT, Int.reduceLE, Nat.reduceLT]; try rfl, by simp only [sA, Int.reduceNegSucc, reduceCtorEq, Nat.reduceEqDiff, ↓reduceIte, Nat.reduceAdd, Int.reduceEq, Int.reduceLT, Int.reduceLE, Nat.reduceLT]; try rfl, by simp only [sA, Int.reduceNegSucc, reduceCtorEq, Nat.reduceEqDiff, ↓reduceIte, Nat.reduceAdd, Int.reduceEq, Int.reduceLT, Int.reduceLE, Nat.reduceLT]; try rfl, by simp only [sA, Int.reduceNegSucc, reduceCtorEq, Nat.reduceEqDiff, ↓reduceIte, Nat.reduceAdd, Int.reduceEq, Int.reduceLT, Int.reduceLE, Nat.reduceLT]; simpa [hdrs] using hA, Ext.refl _ _⟩ ?_
  rintro q T H' ⟨j, hj, rfl, g7, g8, g9, hA', E⟩
  by_cases hlt : j < l.length
  · have hlt' : (j : Int) < (l.length : Int) := by omega
    obtain ⟨p, hp⟩ := isSome_of_lt hlt
    have hpe := hS.e p (List.mem_of_getElem? hp)
    have hsz := hS.take j
    have hn' := Nat.le_trans hn E.next
    obtain ⟨a, m1, m2, _⟩ := (hl.ext E).at hp
    obtain ⟨H1, m3, r1, k1, o1⟩ := row_newL H' [.str [], .str []] (n := 2) rfl
    obtain ⟨H2, m4, r2, k2, o2⟩ := row_storeN r1 (n := 2) rfl (xs := [.str p.1, .str p.2]) rfl rfl
    have E2 : Ext H'.next H' H2 := ⟨by omega, fun c hc => by rw [o2 _ (by omega), o1 _ (by omega)]⟩
    have e1 := add_str (x := p.1) (y := [58, 32]) (by simp <;> omega)
    have e2 := add_str (x := p.1 ++ [58, 32]) (y := p.2) (by simp <;> omega)
    obtain ⟨H3, m5, r3, k3, E3⟩ := build_s1 H2 (p.1 ++ [58, 32] ++ p.2)
    simp only [sA, Int.reduceNegSucc, reduceCtorEq, Nat.reduceEqDiff, ↓reduceIte, Nat.reduceAdd, Int.reduceEq, Int.reduceLT, Int.reduceLE, Nat.reduceLT, g7, g8, g9, hlt', m1, m2, m3, m4, fld0, row_load r2 (n := 2) rfl (i := 0) rfl, row_load r2 (n := 2) rfl (i := 1) rfl, e1, e2, m5]
    have A3 : App n H3 (T 0) (byts (t ++ hdrs (l.take j))) := (hA'.ext E2).ext E3
    refine (lines_spec A3 (by omega) r3 (by omega) (hA'.apart (by omega)) (by simp <;> omega) (by simp) (fun s hs => by
      have : s = p.1 ++ [58, 32] ++ p.2 := by simpa using hs
      rw [this]; simp; omega) rfl).mono ?_
    rintro v H4 ⟨a4, E4⟩
    simp only [sA, Int.reduceNegSucc, reduceCtorEq, Nat.reduceEqDiff, ↓reduceIte, Nat.reduceAdd, Int.reduceEq, Int.reduceLT, Int.reduceLE, Nat.reduceLT, g7, g8, g9, wrap1 j (by omega)]
    refine ⟨_, by omega, j + 1, by omega, rfl, (by first | with_reducible rfl | trivial | rfl | assumption), (by first | with_reducible rfl | trivial | rfl | assumption), (by first | with_reducible rfl | trivial | rfl | assumption), ?_, ((E.trans (E2.less hn')).trans (E3.less (by omega))).trans E4⟩
    rw [List.take_add_one, hp, Option.toList_some, hdrs_snoc]
    simpa [lnsF, hline] using a4
  · have hlt' : ¬ (j : Int) < (l.length : Int) := by omega
    rw [List.take_of_length_le (by omega)] at hA'
    simp only [sA, Int.reduceNegSucc, reduceCtorEq, Nat.reduceEqDiff, ↓reduceIte, Nat.reduceAdd, Int.reduceEq, Int.reduceLT, Int.reduceLE, Nat.reduceLT, g7, g8, g9, hlt']
    exact ⟨hA', E⟩
theorem reason_spec (n : Int) {H : AHeap} : ACalls Tryz.prog natX 42 [.int .i64 n] H fun v H' => v = .str (reasonF n) ∧ H = H' := by
  refine acalls_ofN rfl za42 rfl ?_
  by_cases h0 : n = 200
  · subst h0
    simp only [c42, sA, Int.reduceNegSucc, reduceCtorEq, Nat.reduceEqDiff, ↓reduceIte, Nat.reduceAdd, Int.reduceEq, Int.reduceLT, Int.reduceLE, Nat.reduceLT]
    exact ⟨(by first | with_reducible rfl | trivial | rfl | assumption), (by first | with_reducible rfl | trivial | rfl | assumption)⟩
  by_cases h1 : n = 201
  · subst h1
    simp only [c42, sA, Int.reduceNegSucc, reduceCtorEq, Nat.reduceEqDiff, ↓reduceIte, Nat.reduceAdd, Int.reduceEq, Int.reduceLT, Int.reduceLE, Nat.reduceLT]
    exact ⟨(by first | with_reducible rfl | trivial | rfl | assumption), (by first | with_reducible rfl | trivial | rfl | assumption)⟩
  by_cases h2 : n = 204
  · subst h2
    simp only [c42, sA, Int.reduceNegSucc, reduceCtorEq, Nat.reduceEqDiff, ↓reduceIte, Nat.reduceAdd, Int.reduceEq, Int.reduceLT, Int.reduceLE, Nat.reduceLT]
    exact ⟨(by first | with_reducible rfl | trivial | rfl | assumption), (by first | with_reducible rfl | trivial | rfl | assumption)⟩
  by_cases h3 : n = 400
  · subst h3
    simp only [c42, sA, Int.reduceNegSucc, reduceCtorEq, Nat.reduceEqDiff, ↓reduceIte, Nat.reduceAdd, Int.reduceEq, Int.reduceLT, Int.reduceLE, Nat.reduceLT]
    exact ⟨(by first | with_reducible rfl | trivial | rfl | assumption), (by first | with_reducible rfl | trivial | rfl | assumption)⟩
  by_cases h4 : n = 401
  · subst h4
    simp only [c42, sA, Int.reduceNegSucc, reduceCtorEq, Nat.reduceEqDiff, ↓reduceIte, Nat.reduceAdd, Int.reduceEq, Int.reduceLT, Int.reduceLE, Nat.reduceLT]
    exact ⟨(by first | with_reducible rfl | trivial | rfl | assumption), (by first | with_reducible rfl | trivial | rfl | assumption)⟩
  by_cases h5 : n = 404
  · subst h5
    simp only [c42, sA, Int.reduceNegSucc, reduceCtorEq, Nat.reduceEqDiff, ↓reduceIte, Nat.reduceAdd, Int.reduceEq, Int.reduceLT, Int.reduceLE, Nat.reduceLT]
    exact ⟨(by first | with_reducible rfl | trivial | rfl | assumption), (by first | with_reducible rfl | trivial | rfl | assumption)⟩
  by_cases h6 : n = 405
  · subst h6
    simp only [c42, sA, Int.reduceNegSucc, reduceCtorEq, Nat.reduceEqDiff, ↓reduceIte, Nat.reduceAdd, Int.reduceEq, Int.reduceLT, Int.reduceLE, Nat.reduceLT]
    exact ⟨(by first | with_reducible rfl | trivial | rfl | assumption), (by first | with_reducible rfl | trivial | rfl | assumption)⟩
  by_cases h7 : n = 409
  · subst h7
    simp only [c42, sA, Int.reduceNegSucc, reduceCtorEq, Nat.reduceEqDiff, ↓reduceIte, Nat.reduceAdd, Int.reduceEq, Int.reduceLT, Int.reduceLE, Nat.reduceLT]
    exact ⟨(by first | with_reducible rfl | trivial | rfl | assumption), (by first | with_reducible rfl | trivial | rfl | assumption)⟩
  by_cases h8 : n = 413
  · subst h8
    simp only [c42, sA, Int.reduceNegSucc, reduceCtorEq, Nat.reduceEqDiff, ↓reduceIte, Nat.reduceAdd, Int.reduceEq, Int.reduceLT, Int.reduceLE, Nat.reduceLT]
    exact ⟨(by first | with_reducible rfl | trivial | rfl | assumption), (by first | with_reducible rfl | trivial | rfl | assumption)⟩
  by_cases h9 : n = 422
  · subst h9
    simp only [c42, sA, Int.reduceNegSucc, reduceCtorEq, Nat.reduceEqDiff, ↓reduceIte, Nat.reduceAdd, Int.reduceEq, Int.reduceLT, Int.reduceLE, Nat.reduceLT]
    exact ⟨(by first | with_reducible rfl | trivial | rfl | assumption), (by first | with_reducible rfl | trivial | rfl | assumption)⟩
  by_cases h10 : n = 429
  · subst h10
    simp only [c42, sA, Int.reduceNegSucc, reduceCtorEq, Nat.reduceEqDiff, ↓reduceIte, Nat.reduceAdd, Int.reduceEq, Int.reduceLT, Int.reduceLE, Nat.reduceLT]
    exact ⟨(by first | with_reducible rfl | trivial | rfl | assumption), (by first | with_reducible rfl | trivial | rfl | assumption)⟩
  by_cases h11 : n = 500
  · subst h11
    simp only [c42, sA, Int.reduceNegSucc, reduceCtorEq, Nat.reduceEqDiff, ↓reduceIte, Nat.reduceAdd, Int.reduceEq, Int.reduceLT, Int.reduceLE, Nat.reduceLT]
    exact ⟨(by first | with_reducible rfl | trivial | rfl | assumption), (by first | with_reducible rfl | trivial | rfl | assumption)⟩
  by_cases h12 : n = 503
  · subst h12
    simp only [c42, sA, Int.reduceNegSucc, reduceCtorEq, Nat.reduceEqDiff, ↓reduceIte, Nat.reduceAdd, Int.reduceEq, Int.reduceLT, Int.reduceLE, Nat.reduceLT]
    exact ⟨(by first | with_reducible rfl | trivial | rfl | assumption), (by first | with_reducible rfl | trivial | rfl | assumption)⟩
  by_cases h13 : n = 507
  · subst h13
    simp only [c42, sA, Int.reduceNegSucc, reduceCtorEq, Nat.reduceEqDiff, ↓reduceIte, Nat.reduceAdd, Int.reduceEq, Int.reduceLT, Int.reduceLE, Nat.reduceLT]
    exact ⟨(by first | with_reducible rfl | trivial | rfl | assumption), (by first | with_reducible rfl | trivial | rfl | assumption)⟩
  simp only [c42, sA, Int.reduceNegSucc, reduceCtorEq, Nat.reduceEqDiff, ↓reduceIte, Nat.reduceAdd, Int.reduceEq, Int.reduceLT, Int.reduceLE, Nat.reduceLT, h0, h1, h2, h3, h4, h5, h6, h7, h8, h9, h10, h11, h12, h13]
  refine ⟨?_, (by first | with_reducible rfl | trivial | rfl | assumption)⟩
  have q0 : ((200 : Int) == n) = false := by simpa using fun e => h0 e.symm
  have q1 : ((201 : Int) == n) = false := by simpa using fun e => h1 e.symm
  have q2 : ((204 : Int) == n) = false := by simpa using fun e => h2 e.symm
  have q3 : ((400 : Int) == n) = false := by simpa using fun e => h3 e.symm
  have q4 : ((401 : Int) == n) = false := by simpa using fun e => h4 e.symm
  have q5 : ((404 : Int) == n) = false := by simpa using fun e => h5 e.symm
  have q6 : ((405 : Int) == n) = false := by simpa using fun e => h6 e.symm
  have q7 : ((409 : Int) == n) = false := by simpa using fun e => h7 e.symm
  have q8 : ((413 : Int) == n) = false := by simpa using fun e => h8 e.symm
  have q9 : ((422 : Int) == n) = false := by simpa using fun e => h9 e.symm
  have q10 : ((429 : Int) == n) = false := by simpa using fun e => h10 e.symm
  have q11 : ((500 : Int) == n) = false := by simpa using fun e => h11 e.symm
  have q12 : ((503 : Int) == n) = false := by simpa using fun e => h12 e.symm
  have q13 : ((507 : Int) == n) = false := by simpa using fun e => h13 e.symm
  simp only [reasonF, reasons, List.find?_cons, List.find?_nil, q0, q1, q2, q3, q4, q5, q6, q7, q8, q9, q10, q11, q12, q13]
theorem reason_len (n : Int) : (reasonF n).length ≤ 30 := by
  unfold reasonF
  split
  · rename_i p hp
    have hm := List.mem_of_find?_eq_some hp
    have : ∀ q ∈ reasons, q.2.length ≤ 30 := by decide
    exact this p hm
  · simp
end Go.Proofs.Ht
