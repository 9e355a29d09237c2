/- Part of a proof (I17 I18 I19 I20 I21 I22 I23 I24 I25 I26 I27); no condition. -/
import Derived.Test.YtbighbbpahngiaaP9
set_option linter.unusedSimpArgs false
set_option linter.unusedVariables false
set_option linter.unnecessarySimpa false
namespace Go.Proofs.Zi
open Go.Abs Go.Abs.S
set_option linter.unusedSimpArgs false
def stepF (b : Bs) (i m p : Nat) (x : Nat × Nat) : Nat × Nat := if x.1 < run b p i m then (run b p i m, i - p) else x
def scanF (b : Bs) (i m : Nat) (l : List Nat) : Nat → Nat × Nat → Nat × Nat
  | 0, x => x
  | n + 1, x => scanF b i m l n (stepF b i m (l.getD n 0) x)
theorem scanF_pre (b : Bs) (i m : Nat) (l r : List Nat) : ∀ (n : Nat) (x : Nat × Nat), n ≤ l.length → scanF b i m (l ++ r) n x = scanF b i m l n x
  | 0, _, _ => rfl
  | n + 1, x, h => by
    have e : (l ++ r).getD n 0 = l.getD n 0 := by
      rw [List.getD_eq_getElem?_getD, List.getD_eq_getElem?_getD, List.getElem?_append_left (by omega)]
    simp only [scanF, e]
    exact scanF_pre b i m l r n _ (by omega)
theorem scanF_snoc (b : Bs) (i m : Nat) (l : List Nat) (p : Nat) (x : Nat × Nat) : scanF b i m (l ++ [p]) (l ++ [p]).length x = scanF b i m l l.length (stepF b i m p x) := by
  rw [List.length_append, List.length_singleton]
  have e : (l ++ [p]).getD l.length 0 = p := by rw [List.getD_eq_getElem?_getD, List.getElem?_concat_length]; rfl
  simp only [scanF, e]
  exact scanF_pre b i m l [p] _ _ (Nat.le_refl _)
theorem k3_eq {b : Bs} {p i : Nat} (hp : p + 3 ≤ b.length) (hi : i + 3 ≤ b.length) : k3 b p = k3 b i ↔ ∀ j, j < 3 → b[p + j]? = b[i + j]? := by
  have e : ∀ j, j < b.length → b[j]? = some (b.getD j 0) := fun j hj => by rw [List.getD_eq_getElem?_getD, List.getElem?_eq_getElem hj]; rfl
  constructor
  · intro h j hj
    simp only [k3, List.cons.injEq, and_true] at h
    obtain ⟨h0, h1, h2⟩ := h
    rw [e _ (by omega), e _ (by omega)]
    have : j = 0 ∨ j = 1 ∨ j = 2 := by omega
    rcases this with rfl | rfl | rfl
    · exact congrArg some (UInt8.toNat_inj.1 h0)
    · exact congrArg some (UInt8.toNat_inj.1 h1)
    · exact congrArg some (UInt8.toNat_inj.1 h2)
  · intro h
    have g : ∀ j, j < 3 → b.getD (p + j) 0 = b.getD (i + j) 0 := fun j hj => by
      have := h j hj
      rw [e _ (by omega), e _ (by omega)] at this
      exact Option.some.inj this
    simp only [k3]
    have g0 := g 0 (by omega)
    have g1 := g 1 (by omega)
    have g2 := g 2 (by omega)
    simp only [Nat.add_zero] at g0
    rw [g0, g1, g2]
theorem run_three {b : Bs} {p i m : Nat} (hm : 3 ≤ m) (hp : p + 3 ≤ b.length) (hi : i + 3 ≤ b.length) : 3 ≤ run b p i m ↔ k3 b p = k3 b i := by
  rw [k3_eq hp hi]
  constructor
  · intro h j hj
    exact run_at b m p i j (by omega)
  · intro h
    rcases Nat.lt_or_ge (run b p i m) 3 with h1 | h1
    · exact absurd (h _ h1) (run_stop b m p i (by omega))
    · exact h1
def Both (i : Nat) (x y : Nat × Nat) : Prop := (x.1 < 3 ∧ y = (0, 0)) ∨ (3 ≤ x.1 ∧ y = (x.1, i - x.2))
theorem both_scan {b : Bs} {i m : Nat} (hm : 3 ≤ m) (hi : i + 3 ≤ b.length) : ∀ (p : Nat) (x y : Nat × Nat), p ≤ i → Both i x y → Both i (best b i m p x) (scanF b i m (posL b (k3 b i) p) (posL b (k3 b i) p).length y)
  | 0, x, y, _, h => h
  | p + 1, x, y, hp, h => by
    have h3 := run_three (b := b) (p := p) hm (by omega) hi
    simp only [best]
    by_cases hk : k3 b p = k3 b i
    · have e : posL b (k3 b i) (p + 1) = posL b (k3 b i) p ++ [p] := if_pos hk
      rw [e, scanF_snoc]
      have hr := h3.2 hk
      refine both_scan hm hi p _ _ (by omega) ?_
      unfold stepF
      rcases h with ⟨h1, rfl⟩ | ⟨h1, rfl⟩
      · rw [if_pos (by omega), if_pos (by simp only; omega)]
        exact .inr ⟨hr, rfl⟩
      · by_cases hlt : x.1 < run b p i m
        · rw [if_pos hlt, if_pos hlt]
          exact .inr ⟨hr, rfl⟩
        · rw [if_neg hlt, if_neg hlt]
          exact .inr ⟨h1, rfl⟩
    · have e : posL b (k3 b i) (p + 1) = posL b (k3 b i) p := if_neg hk
      rw [e]
      have hr : ¬ 3 ≤ run b p i m := fun h => hk (h3.1 h)
      refine both_scan hm hi p _ _ (by omega) ?_
      rcases h with ⟨h1, rfl⟩ | ⟨h1, rfl⟩
      · refine .inl ⟨?_, rfl⟩
        split
        · simp only; omega
        · exact h1
      · rw [if_neg (by omega)]
        exact .inr ⟨h1, rfl⟩
def matchG (b : Bs) (i to : Nat) : Nat × Nat := if mlen i to < 3 then (0, 0) else scanF b i (mlen i to) (posL b (k3 b i) i) (posL b (k3 b i) i).length (0, 0)
theorem matchG_both {b : Bs} {i to : Nat} (hi : i < to) (hto : to ≤ b.length) : Both i (matchF b i to) (matchG b i to) := by
  unfold matchG
  by_cases h : mlen i to < 3
  · rw [if_pos h]
    refine .inl ⟨?_, rfl⟩
    have hs := best_spec b i (mlen i to) i (0, 0) (Nat.le_refl _) (.inl rfl)
    rcases hs with hs | ⟨_, h2⟩
    · show (best b i (mlen i to) i (0, 0)).1 < 3
      omega
    · show (best b i (mlen i to) i (0, 0)).1 < 3
      have := run_le b (best b i (mlen i to) i (0, 0)).2 i (mlen i to)
      omega
  · rw [if_neg h]
    have hm : mlen i to = min 258 (to - i) := rfl
    exact both_scan (by omega) (by omega) i (0, 0) (0, 0) (Nat.le_refl _) (.inl ⟨by simp, rfl⟩)
theorem scan_full (b : Bs) (i m : Nat) (l : List Nat) : ∀ (n : Nat) (x : Nat × Nat), m ≤ x.1 → scanF b i m l n x = x
  | 0, _, _ => rfl
  | n + 1, x, h => by
    have e : stepF b i m (l.getD n 0) x = x := by
      unfold stepF
      have := run_le b (l.getD n 0) i m
      rw [if_neg (by omega)]
    simp only [scanF, e]
    exact scan_full b i m l n x h
theorem run_cut {b : Bs} {p i m j : Nat} (h : b[p + j]? ≠ b[i + j]?) : run b p i m ≤ j := by
  rcases Nat.lt_or_ge j (run b p i m) with h1 | h1
  · exact absurd (run_at b m p i j h1) h
  · exact h1
end Go.Proofs.Zi
namespace Go.Proofs.Zi
open Go.Abs Go.Abs.S
set_option linter.unusedSimpArgs false
variable {sent : Nat}
def Fm (mb ow : Nat) (τ : Nat → Nat) (H : AHeap) (τ' : Nat → Nat) (H' : AHeap) : Prop := H.next ≤ H'.next ∧ ∀ c, c < H.next → τ' c = τ c ∧ (c ≠ mb → c ≠ ow → τ c < 100 → H'.get c = H.get c)
theorem Fm.refl (mb ow : Nat) (τ : Nat → Nat) (H : AHeap) : Fm mb ow τ H τ H := ⟨Nat.le_refl _, fun _ _ => ⟨rfl, fun _ _ _ => rfl⟩⟩
theorem Fm.trans {mb ow : Nat} {τ τ' τ'' : Nat → Nat} {H H' H'' : AHeap} (h : Fm mb ow τ H τ' H') (k : Fm mb ow τ' H' τ'' H'') : Fm mb ow τ H τ'' H'' :=
  ⟨Nat.le_trans h.1 k.1, fun c hc => by
    obtain ⟨e1, e2⟩ := h.2 c hc
    obtain ⟨e3, e4⟩ := k.2 c (Nat.lt_of_lt_of_le hc h.1)
    exact ⟨e3.trans e1, fun h1 h2 h3 => (e4 h1 h2 (by rw [e1]; exact h3)).trans (e2 h1 h2 h3)⟩⟩
theorem Fm.of_ext {mb ow : Nat} {τ : Nat → Nat} {H H' : AHeap} (e : Ext H.next H H') : Fm mb ow τ H τ H' := ⟨e.next, fun c hc => ⟨rfl, fun _ _ _ => e.old c hc⟩⟩
theorem MR.ext {n0 : Nat} {τ : Nat → Nat} {H H' : AHeap} {mb : Nat} {b : Bs} {K : Nat} (h : MR n0 τ H mb b K) (hmb : mb < H.next) (e : Ext H.next H H') : MR n0 τ H' mb b K := by
  obtain ⟨es, h1, h2⟩ := MR.iff.1 h
  exact MR.iff.2 ⟨es, (e.old _ hmb).trans h1, h2.same e.next fun c hc _ => ⟨e.old c hc, rfl⟩⟩
structure PW (sent : Nat) (n0 : Nat) (τ : Nat → Nat) (H : AHeap) (ow mb : Nat) (out kept : AVal) (b : Bs) (K : Nat) : Prop where
  row : Row H ow (dC sent out kept K (.map (some mb)))
  kp : AppN 1 0 H kept (byts b) b.length
  kb : Blk kept fun c => c < H.next ∧ (τ c < 100 ∧ τ c ≠ 6) ∧ c ≠ mb ∧ c ≠ ow
  map : MR n0 τ H mb b K
  own : ow < n0
  mbn : mb < n0
  ne : ow ≠ mb
  tow : τ ow < 100
  n0n : n0 ≤ H.next
  tz : ∀ c, H.next ≤ c → τ c = 0
theorem PW.ext {n0 : Nat} {τ : Nat → Nat} {H H' : AHeap} {ow mb : Nat} {out kept : AVal} {b : Bs} {K : Nat} (h : PW sent n0 τ H ow mb out kept b K) (e : Ext H.next H H') : PW sent n0 τ H' ow mb out kept b K :=
  ⟨h.row.same (e.old _ (Nat.lt_of_lt_of_le h.own h.n0n)), h.kp.ext e, h.kb.mono fun c hc => ⟨Nat.lt_of_lt_of_le hc.1 e.next, hc.2⟩, h.map.ext (Nat.lt_of_lt_of_le h.mbn h.n0n) e, h.own, h.mbn, h.ne, h.tow, Nat.le_trans h.n0n e.next, fun c hc => h.tz c (Nat.le_trans e.next hc)⟩
theorem match_note {n0 : Nat} {τ : Nat → Nat} {H : AHeap} {ow mb : Nat} {out kept : AVal} {b : Bs} {K : Nat} (P : PW sent n0 τ H ow mb out kept b K) (hK : K ≤ 20000) :
    ∃ i v v' H1 H2 H3 H4 τ', aHf (.mf (.entry (.arr 3) (.slice none 0 (.known 0)))) (H.push (.cells [.int .i64 (K : Int)] 0 false)) [.map (some mb), .agg (u8s (k3 b K))] = some (.tuple [v, .int .i64 (Int.ofNat i)], H1) ∧
      aAppend 1 8 H1 v (oneS H) = some (v', H2) ∧ aHf (.mf .store) H2 [.map (some mb), .int .i64 (Int.ofNat i), v'] = some (.tuple [], H3) ∧ oLoad false 1 H3 (cellR ow 9 6) = some (.int .i64 (K : Int)) ∧ oStore 1 H3 (cellR ow 9 6) (.int .i64 ((K + 1 : Nat) : Int)) = some H4 ∧ PW sent n0 τ' H4 ow mb out kept b (K + 1) ∧ Fm mb ow τ H τ' H4 := by
  obtain ⟨i, v, v', H1, H2, H3, τ', m1, m2, m3, hM, hn, tz', fr, _, _⟩ := note_spec P.map P.n0n P.mbn (by omega) P.tz
  have o1 := P.own
  have o2 := P.n0n
  have R3 : Row H3 ow (dC sent out kept K (.map (some mb))) := P.row.same ((fr ow (by omega)).2 P.ne P.tow)
  obtain ⟨H4, m4, r4, k4, q4⟩ := row_st R3 (n := 9) rfl (i := 6) (by omega) (x := .int .i64 ((K + 1 : Nat) : Int)) rfl rfl
  refine ⟨i, v, v', H1, H2, H3, H4, τ', m1, m2, m3, row_load R3 rfl rfl, m4, ⟨r4, P.kp.same (by omega) (P.kb.mono fun c hc => by rw [q4 c hc.2.2.2, (fr c (by omega)).2 hc.2.2.1 hc.2.1.1]), P.kb.mono fun c hc => ⟨by omega, by rw [(fr c (by omega)).1]; exact hc.2.1, hc.2.2⟩, ?_, P.own, P.mbn, P.ne, by rw [(fr ow (by omega)).1]; exact P.tow, by omega, fun c hc => tz' c (by omega)⟩, by omega, fun c hc => ⟨(fr c hc).1, fun h1 h2 h3 => by rw [q4 c h2]; exact (fr c hc).2 h1 h3⟩⟩
  obtain ⟨es, h1, h2⟩ := MR.iff.1 hM
  refine MR.iff.2 ⟨es, (q4 _ (Ne.symm P.ne)).trans h1, h2.same (by omega) fun c hc ht => ⟨q4 c ?_, rfl⟩⟩
  rintro rfl
  rw [(fr c (by omega)).1] at ht
  have := P.tow
  omega
end Go.Proofs.Zi
namespace Go.Proofs.Zi
open Go.Abs Go.Abs.S
set_option linter.unusedSimpArgs false
variable {sent : Nat}
def restM : List Nat := [1, 1, 1, 1]
theorem aeq_map (r : Nat) : aeq (.map (some r)) (.map (some r)) = true := by simp [aeq]
theorem aeq_k3 (b : Bs) (i : Nat) : aeq (.agg (u8s (k3 b i))) (.agg (u8s (k3 b i))) = true := by simp [aeq, aeqs, u8s, k3, eqF_eq]
theorem match_pre {n0 : Nat} {τ : Nat → Nat} {H : AHeap} {ow mb : Nat} {out kept : AVal} {b : Bs} {K : Nat} (P : PW sent n0 τ H ow mb out kept b K) (i to : Nat) (hKi : K ≤ i) (hi : i < to) (hto : to ≤ b.length) (hb : b.length ≤ 20000) (Q : AVal → AHeap → Prop)
    (h0 : mlen i to < 3 → Q (.tuple [.int .i64 0, .int .i64 0]) H)
    (hrest : 3 ≤ mlen i to → ∀ (T2 : Env) (H2 : AHeap) (τ2 : Nat → Nat), T2 0 = cellR ow 9 0 → T2 1 = .int .i64 (i : Int) → T2 2 = .int .i64 (to : Int) → T2 6 = .int .i64 0 → T2 7 = .int .i64 0 → T2 8 = .int .i64 ((mlen i to : Nat) : Int) → PW sent n0 τ2 H2 ow mb out kept b i → Fm mb ow τ H τ2 H2 → wp (ACalls Try.prog natI) (hold (restP restM c45.body)) (fin c45.res Q) T2 H2) :
    ACalls Try.prog natI 45 [cellR ow 9 0, .int .i64 (i : Int), .int .i64 (to : Int)] H Q := by
  refine acalls_ofN rfl za45 rfl ?_
  refine wp_cutP restM ?_
  have ws : IntKind.i64.wrap ((to : Int) - (i : Int)) = ((to - i : Nat) : Int) := by rw [wrap64 (by omega) (by omega)]; omega
  have hm : mlen i to = min 258 (to - i) := rfl
  have emin : (if ((to - i : Nat) : Int) < 258 then ((to - i : Nat) : Int) else 258) = ((mlen i to : Nat) : Int) := by split <;> omega
  by_cases h3 : mlen i to < 3
  · have h3' : ((mlen i to : Nat) : Int) < 3 := by omega
    simp only [c45, restM, sC, sA, Int.reduceNegSucc, reduceCtorEq, Nat.reduceEqDiff, ↓reduceIte, Nat.reduceAdd, Int.reduceEq, Int.reduceLT, Int.reduceLE, Nat.reduceLT, ws, pf_min, emin, h3']
    exact h0 h3
  · have h3' : ¬ ((mlen i to : Nat) : Int) < 3 := by omega
    have hrest := hrest (by omega)
    generalize mlen i to = m at *
    simp only [c45, restM] at hrest
    simp only [c45, restM, sC, sA, Int.reduceNegSucc, reduceCtorEq, Nat.reduceEqDiff, ↓reduceIte, Nat.reduceAdd, Int.reduceEq, Int.reduceLT, Int.reduceLE, Nat.reduceLT, ws, pf_min, emin, h3']
    refine aw_loop (fun q (T : Env) H' => ∃ (K' : Nat) (τ' : Nat → Nat), K' ≤ i ∧ q = i - K' ∧ T 0 = cellR ow 9 0 ∧ T 1 = .int .i64 (i : Int) ∧ T 2 = .int .i64 (to : Int) ∧ T 6 = .int .i64 0 ∧ T 7 = .int .i64 0 ∧ T 8 = .int .i64 (m : Int) ∧ PW sent n0 τ' H' ow mb out kept b K' ∧ Fm mb ow τ H τ' H') (i - K)
      ⟨K, τ, hKi, rfl, by simp only [sA, Int.reduceNegSucc, reduceCtorEq, Nat.reduceEqDiff, ↓reduceIte, Nat.reduceAdd, Int.reduceEq, Int.reduceLT, Int.reduceLE, Nat.reduceLT]; try rfl, by simp only [sA, Int.reduceNegSucc, reduceCtorEq, Nat.reduceEqDiff, ↓reduceIte, Nat.reduceAdd, Int.reduceEq, Int.reduceLT, Int.reduceLE, Nat.reduceLT]; try rfl, by simp only [sA, Int.reduceNegSucc, reduceCtorEq, Nat.reduceEqDiff, ↓reduceIte, Nat.reduceAdd, Int.reduceEq, Int.reduceLT, Int.reduceLE, Nat.reduceLT]; try rfl, by simp only [sA, Int.reduceNegSucc, reduceCtorEq, Nat.reduceEqDiff, ↓reduceIte, Nat.reduceAdd, Int.reduceEq, Int.reduceLT, Int.reduceLE, Nat.reduceLT]; try rfl, by simp only [sA, Int.reduceNegSucc, reduceCtorEq, Nat.reduceEqDiff, ↓reduceIte, Nat.reduceAdd, Int.reduceEq, Int.reduceLT, Int.reduceLE, Nat.reduceLT]; try rfl, by simp only [sA, Int.reduceNegSucc, reduceCtorEq, Nat.reduceEqDiff, ↓reduceIte, Nat.reduceAdd, Int.reduceEq, Int.reduceLT, Int.reduceLE, Nat.reduceLT]; try rfl, P, Fm.refl _ _ _ _⟩ ?_
    rintro q T H' ⟨K', τ', hK', rfl, g0, g1, g2, g6, g7, g8, P', F'⟩
    have l6 : oLoad false 1 H' (cellR ow 9 6) = some (.int .i64 (K' : Int)) := row_load P'.row rfl rfl
    by_cases hlt : K' < i
    · have hlt' : (K' : Int) < (i : Int) := by omega
      have o1 := P'.own
      have o2 := P'.n0n
      simp only [sA, Int.reduceNegSucc, reduceCtorEq, Nat.reduceEqDiff, ↓reduceIte, Nat.reduceAdd, Int.reduceEq, Int.reduceLT, Int.reduceLE, Nat.reduceLT, g0, g1, g2, g6, g7, g8, nil_cell, fldA, fld0, l6, hlt']
      refine (three_spec P'.row (by omega) P'.kp K' (by omega) (by omega)).mono ?_
      rintro _ Ha ⟨rfl, Ea⟩
      have na := Ea.next
      obtain ⟨Hb, mb1, rb, kb, ob⟩ := row_newL Ha [.int .u8 0, .int .u8 0, .int .u8 0] (n := 3) rfl
      obtain ⟨Hc, mc, rc, kc, oc⟩ := row_storeN rb (n := 3) rfl (xs := u8s (k3 b K')) rfl (u8s_one _)
      have Ec : Ext H'.next H' Hc := ⟨by omega, fun c hc => by rw [oc c (by omega), ob c (by omega)]; exact Ea.old c hc⟩
      have Pc := P'.ext Ec
      obtain ⟨j, v, v', H1, H2, H3, H4, τ2, m1, m2, m3, l63, m4, P4, F4⟩ := match_note Pc (by omega)
      have m1' : aHf (.mf (.entry (.arr 3) (.slice none 0 (.known 0)))) (Hc.push (.cells [.int .i64 (K' : Int)] 0 false)) [.map (some mb), .agg (u8s (k3 b K'))] = some (.tuple [v, .int .i64 (j : Int)], H1) := m1
      have m3' : aHf (.mf .store) H2 [.map (some mb), .int .i64 (j : Int), v'] = some (.tuple [], H3) := m3
      have l7c : oLoad false 1 Hc (cellR ow 9 7) = some (.map (some mb)) := row_load Pc.row rfl rfl
      have l6c : oLoad false 1 Hc (cellR ow 9 6) = some (.int .i64 (K' : Int)) := row_load Pc.row rfl rfl
      have lkc : oLoad true 3 Hc (cellR Ha.next 3 0) = some (.agg (u8s (k3 b K'))) := row_loadN rc (n := 3) rfl
      have bld := build1 (.int .i64 0) Hc (x := .int .i64 (K' : Int)) rfl
      have l7d : oLoad false 1 (Hc.push (.cells [.int .i64 (K' : Int)] 0 false)) (cellR ow 9 7) = some (.map (some mb)) := row_load (Pc.row.same (get_push_lt (by omega))) rfl rfl
      have lkd : oLoad true 3 (Hc.push (.cells [.int .i64 (K' : Int)] 0 false)) (cellR Ha.next 3 0) = some (.agg (u8s (k3 b K'))) := row_loadN (rc.same (get_push_lt (by omega))) (n := 3) rfl
      simp only [sA, Int.reduceNegSucc, reduceCtorEq, Nat.reduceEqDiff, ↓reduceIte, Nat.reduceAdd, Int.reduceEq, Int.reduceLT, Int.reduceLE, Nat.reduceLT, g0, g1, g2, g6, g7, g8, mb1, mc]
      refine aw_drawC rfl ?_
      simp only [sA, Int.reduceNegSucc, reduceCtorEq, Nat.reduceEqDiff, ↓reduceIte, Nat.reduceAdd, Int.reduceEq, Int.reduceLT, Int.reduceLE, Nat.reduceLT, sR, g0, nil_cell, fldA, fld0, l7c, lkc, l6c, bld, m1', ext_0, ext_1, m2, m3']
      simp only [ck_nil', ck_cons, ckP_load, ckP_nil, ck_end, and_true, true_and, List.map_cons, List.map_nil, sA, Int.reduceNegSucc, reduceCtorEq, Nat.reduceEqDiff, ↓reduceIte, Nat.reduceAdd, Int.reduceEq, Int.reduceLT, Int.reduceLE, Nat.reduceLT, g0, fldA, fld0]
      refine ⟨⟨⟨_, rfl, fun _ => ⟨_, l7d, aeq_map _⟩⟩, ⟨_, rfl, fun _ => ⟨_, lkd, aeq_k3 _ _⟩⟩⟩, ?_⟩
      simp only [sA, Int.reduceNegSucc, reduceCtorEq, Nat.reduceEqDiff, ↓reduceIte, Nat.reduceAdd, Int.reduceEq, Int.reduceLT, Int.reduceLE, Nat.reduceLT, g0, g1, g2, g6, g7, g8, nil_cell, fldA, fld0, l63, wrap1 K' (by omega), m4]
      exact ⟨_, by omega, K' + 1, τ2, by omega, rfl, (by first | with_reducible rfl | trivial | rfl | assumption), (by first | with_reducible rfl | trivial | rfl | assumption), (by first | with_reducible rfl | trivial | rfl | assumption), (by first | with_reducible rfl | trivial | rfl | assumption), (by first | with_reducible rfl | trivial | rfl | assumption), (by first | with_reducible rfl | trivial | rfl | assumption), P4, F'.trans ((Fm.of_ext Ec).trans F4)⟩
    · have hlt' : ¬ (K' : Int) < (i : Int) := by omega
      obtain rfl : K' = i := by omega
      simp only [sA, Int.reduceNegSucc, reduceCtorEq, Nat.reduceEqDiff, ↓reduceIte, Nat.reduceAdd, Int.reduceEq, Int.reduceLT, Int.reduceLE, Nat.reduceLT, g0, g1, g2, g6, g7, g8, nil_cell, fldA, fld0, l6, hlt']
      exact hrest _ _ τ' (by simp only [sA, Int.reduceNegSucc, reduceCtorEq, Nat.reduceEqDiff, ↓reduceIte, Nat.reduceAdd, Int.reduceEq, Int.reduceLT, Int.reduceLE, Nat.reduceLT, g0]) (by simp only [sA, Int.reduceNegSucc, reduceCtorEq, Nat.reduceEqDiff, ↓reduceIte, Nat.reduceAdd, Int.reduceEq, Int.reduceLT, Int.reduceLE, Nat.reduceLT, g1]) (by simp only [sA, Int.reduceNegSucc, reduceCtorEq, Nat.reduceEqDiff, ↓reduceIte, Nat.reduceAdd, Int.reduceEq, Int.reduceLT, Int.reduceLE, Nat.reduceLT, g2]) (by simp only [sA, Int.reduceNegSucc, reduceCtorEq, Nat.reduceEqDiff, ↓reduceIte, Nat.reduceAdd, Int.reduceEq, Int.reduceLT, Int.reduceLE, Nat.reduceLT, g6]) (by simp only [sA, Int.reduceNegSucc, reduceCtorEq, Nat.reduceEqDiff, ↓reduceIte, Nat.reduceAdd, Int.reduceEq, Int.reduceLT, Int.reduceLE, Nat.reduceLT, g7]) (by simp only [sA, Int.reduceNegSucc, reduceCtorEq, Nat.reduceEqDiff, ↓reduceIte, Nat.reduceAdd, Int.reduceEq, Int.reduceLT, Int.reduceLE, Nat.reduceLT, g8]) P' F'
end Go.Proofs.Zi
namespace Go.Proofs.Zi
open Go.Abs Go.Abs.S
set_option linter.unusedSimpArgs false
variable {sent : Nat}
theorem match_rest {n0 : Nat} {τ : Nat → Nat} {H : AHeap} {ow mb : Nat} {out kept : AVal} {b : Bs} {T : Env} {i to m : Nat} (P : PW sent n0 τ H ow mb out kept b i) (hm : m = mlen i to) (hm3 : 3 ≤ m) (hi : i < to) (hto : to ≤ b.length) (hb : b.length ≤ 20000) (Q : AVal → AHeap → Prop)
    (g0 : T 0 = cellR ow 9 0) (g1 : T 1 = .int .i64 (i : Int)) (g6 : T 6 = .int .i64 0) (g7 : T 7 = .int .i64 0) (g8 : T 8 = .int .i64 (m : Int))
    (hQ : ∀ H2, Ext H.next H H2 → Q (.tuple [.int .i64 (((matchG b i to).1 : Nat) : Int), .int .i64 (((matchG b i to).2 : Nat) : Int)]) H2) :
    wp (ACalls Try.prog natI) (hold (restP restM c45.body)) (fin c45.res Q) T H := by
  have hmm : mlen i to = min 258 (to - i) := rfl
  have l3 : oLoad false 1 H (cellR ow 9 3) = some kept := row_load P.row rfl rfl
  have l4 : oLoad false 1 H (cellR ow 9 4) = some (.int .i64 0) := row_load P.row rfl rfl
  have l7 : oLoad false 1 H (cellR ow 9 7) = some (.map (some mb)) := row_load P.row rfl rfl
  have e0 : (i : Int) - 0 = (i : Int) := by omega
  have wi : IntKind.i64.wrap (i : Int) = (i : Int) := wrap64 (by omega) (by omega)
  obtain ⟨here, mh, ch, _⟩ := P.kp.slice (lo := i) (hi := i + m) (by omega) (by omega)
  have eh : ((byts b).drop i).take (i + m - i) = byts ((b.drop i).take m) := by rw [show i + m - i = m by omega]; simp [byts]
  rw [eh] at ch
  have o1 := P.own
  have o2 := P.n0n
  simp only [c45, restP, restM, hold_eq, sA, Int.reduceNegSucc, reduceCtorEq, Nat.reduceEqDiff, ↓reduceIte, Nat.reduceAdd, Int.reduceEq, Int.reduceLT, Int.reduceLE, Nat.reduceLT, g0, g1, g6, g7, g8, nil_cell, fldA, fld0, l3, l4, e0, wi, wrapN i m (by omega), mh]
  refine aw_drawC rfl ?_
  simp only [sA, Int.reduceNegSucc, reduceCtorEq, Nat.reduceEqDiff, ↓reduceIte, Nat.reduceAdd, Int.reduceEq, Int.reduceLT, Int.reduceLE, Nat.reduceLT, sR, g0, g1, nil_cell, fldA, fld0, l7]
  refine (three_spec P.row (by omega) P.kp i (by omega) (by omega)).mono ?_
  rintro _ Ha ⟨rfl, Ea⟩
  have Pa := P.ext Ea
  have l7a : oLoad false 1 Ha (cellR ow 9 7) = some (.map (some mb)) := row_load Pa.row rfl rfl
  have l3a : oLoad false 1 Ha (cellR ow 9 3) = some kept := row_load Pa.row rfl rfl
  have l4a : oLoad false 1 Ha (cellR ow 9 4) = some (.int .i64 0) := row_load Pa.row rfl rfl
  obtain ⟨v, ml, Av⟩ := Pa.map.look (k := k3 b i) rfl
  have ml' : aHf (.mLook (.arr 3) false (.slice none 0 (.known 0))) Ha [.map (some mb), .agg (u8s (k3 b i))] = some (v, Ha) := ml
  simp only [sA, Int.reduceNegSucc, reduceCtorEq, Nat.reduceEqDiff, ↓reduceIte, Nat.reduceAdd, Int.reduceEq, Int.reduceLT, Int.reduceLE, Nat.reduceLT, sR, ml']
  simp only [ck_nil', ck_cons, ckP_load, ckP_nil, ck_end, and_true, true_and, List.map_cons, List.map_nil, sA, Int.reduceNegSucc, reduceCtorEq, Nat.reduceEqDiff, ↓reduceIte, Nat.reduceAdd, Int.reduceEq, Int.reduceLT, Int.reduceLE, Nat.reduceLT, g0, g1, fldA, fld0]
  refine ⟨⟨_, rfl, fun _ => ⟨_, l7a, aeq_map _⟩⟩, ?_⟩
  have Av0 : AppN 1 0 Ha v (ints (posL b (k3 b i) i)) (posL b (k3 b i) i).length := AppN.samN' Av (Nat.zero_le _) (Nat.le_refl _) fun _ _ _ => rfl
  have Cv : Cel Ha.next Ha v (ints (posL b (k3 b i) i)) := Av0.cel1 Av0.blk'
  have hlen := Av0.len
  have hpl := posL_len b (k3 b i) i
  have hmem : ∀ p, p ∈ posL b (k3 b i) i → p < i := fun p hp => (posL_mem.1 hp).1
  have hG : matchG b i to = scanF b i m (posL b (k3 b i) i) (posL b (k3 b i) i).length (0, 0) := by unfold matchG; rw [if_neg (by omega), ← hm]
  obtain ⟨l, hl⟩ : ∃ l, l = posL b (k3 b i) i := ⟨_, rfl⟩
  rw [← hl] at Cv hlen hpl hmem hG
  have cha := ch.ext Ea
  have wl : IntKind.i64.wrap ((l.length : Int) - 1) = (l.length : Int) - 1 := wrap64 (by omega) (by omega)
  have w3 : IntKind.i64.wrap ((i : Int) - 32768) = (i : Int) - 32768 := wrap64 (by omega) (by omega)
  simp only [sA, Int.reduceNegSucc, reduceCtorEq, Nat.reduceEqDiff, ↓reduceIte, Nat.reduceAdd, Int.reduceEq, Int.reduceLT, Int.reduceLE, Nat.reduceLT, g0, g1, g6, g7, g8, hlen, wl]
  refine aw_loop (fun q (T : Env) H' => ∃ y : Nat × Nat, q ≤ l.length ∧ y.1 ≤ m ∧ T 0 = cellR ow 9 0 ∧ T 1 = .int .i64 (i : Int) ∧ T 6 = .int .i64 (y.1 : Int) ∧ T 7 = .int .i64 (y.2 : Int) ∧ T 8 = .int .i64 (m : Int) ∧ T 10 = here ∧ T 11 = v ∧ T 12 = .int .i64 ((q : Int) - 1) ∧ scanF b i m l q y = matchG b i to ∧ Ha = H') l.length
    ⟨(0, 0), Nat.le_refl _, Nat.zero_le _, by simp only [sA, Int.reduceNegSucc, reduceCtorEq, Nat.reduceEqDiff, ↓reduceIte, Nat.reduceAdd, Int.reduceEq, Int.reduceLT, Int.reduceLE, Nat.reduceLT, g0], by simp only [sA, Int.reduceNegSucc, reduceCtorEq, Nat.reduceEqDiff, ↓reduceIte, Nat.reduceAdd, Int.reduceEq, Int.reduceLT, Int.reduceLE, Nat.reduceLT, g1], by simp only [sA, Int.reduceNegSucc, reduceCtorEq, Nat.reduceEqDiff, ↓reduceIte, Nat.reduceAdd, Int.reduceEq, Int.reduceLT, Int.reduceLE, Nat.reduceLT, g6]; try rfl, by simp only [sA, Int.reduceNegSucc, reduceCtorEq, Nat.reduceEqDiff, ↓reduceIte, Nat.reduceAdd, Int.reduceEq, Int.reduceLT, Int.reduceLE, Nat.reduceLT, g7]; try rfl, by simp only [sA, Int.reduceNegSucc, reduceCtorEq, Nat.reduceEqDiff, ↓reduceIte, Nat.reduceAdd, Int.reduceEq, Int.reduceLT, Int.reduceLE, Nat.reduceLT, g8], by simp only [sA, Int.reduceNegSucc, reduceCtorEq, Nat.reduceEqDiff, ↓reduceIte, Nat.reduceAdd, Int.reduceEq, Int.reduceLT, Int.reduceLE, Nat.reduceLT], by simp only [sA, Int.reduceNegSucc, reduceCtorEq, Nat.reduceEqDiff, ↓reduceIte, Nat.reduceAdd, Int.reduceEq, Int.reduceLT, Int.reduceLE, Nat.reduceLT], by simp only [sA, Int.reduceNegSucc, reduceCtorEq, Nat.reduceEqDiff, ↓reduceIte, Nat.reduceAdd, Int.reduceEq, Int.reduceLT, Int.reduceLE, Nat.reduceLT], hG.symm, rfl⟩ ?_
  rintro q T _ ⟨y, hq, hym, k0, k1, k6, k7, k8, k10, k11, k12, hsc, rfl⟩
  have leave : scanF b i m l q y = y → Q (.tuple [.int .i64 (y.1 : Int), .int .i64 (y.2 : Int)]) Ha := fun h => by
    have := hQ Ha Ea
    rw [← hsc, h] at this
    exact this
  cases q with
  | zero =>
    have hge : ¬ (0 : Int) ≤ ((0 : Nat) : Int) - 1 := by omega
    simp only [sA, Int.reduceNegSucc, reduceCtorEq, Nat.reduceEqDiff, ↓reduceIte, Nat.reduceAdd, Int.reduceEq, Int.reduceLT, Int.reduceLE, Nat.reduceLT, k0, k1, k6, k7, k8, k10, k11, k12, hge]
    exact leave rfl
  | succ n =>
    have en : ((n + 1 : Nat) : Int) - 1 = (n : Int) := by omega
    rw [en] at k12
    have hge : (0 : Int) ≤ (n : Int) := by omega
    obtain ⟨p, hp⟩ : ∃ p, l[n]? = some p := ⟨_, List.getElem?_eq_getElem (by omega)⟩
    have hpd : l.getD n 0 = p := by rw [List.getD_eq_getElem?_getD, hp]; rfl
    have hpi := hmem p (List.mem_of_getElem? hp)
    have hidx := Cv.idx .i64 (i := n) (by rw [ints_len]; omega)
    have hld := Cv.load (ints_get hp)
    have hge2 : (i : Int) - 32768 ≤ (p : Int) := by omega
    have wn : IntKind.i64.wrap ((n : Int) - 1) = (n : Int) - 1 := wrap64 (by omega) (by omega)
    by_cases hy : y.1 < m
    · have hy' : (y.1 : Int) < (m : Int) := by omega
      have hpi' : ¬ (i : Int) ≤ (p : Int) := by omega
      simp only [scanF, hpd] at hsc
      obtain ⟨th, mt, ct, _⟩ := Pa.kp.from_ (lo := p) (by omega)
      have et : (byts b).drop p = byts (b.drop p) := by simp [byts]
      rw [et] at ct
      have e0p : (p : Int) - 0 = (p : Int) := by omega
      have wp_ : IntKind.i64.wrap (p : Int) = (p : Int) := wrap64 (by omega) (by omega)
      have wsp : IntKind.i64.wrap ((i : Int) - (p : Int)) = ((i - p : Nat) : Int) := by rw [wrap64 (by omega) (by omega)]; omega
      have at1 : ∀ j, j < m → ∃ c d, b[p + j]? = some c ∧ b[i + j]? = some d ∧ aIdxA 1 th (.int .i64 (j : Int)) = some (cellP th j) ∧ oLoad false 1 Ha (cellP th j) = some (.int .u8 (c.toNat : Int)) ∧ aIdxA 1 here (.int .i64 (j : Int)) = some (cellP here j) ∧ oLoad false 1 Ha (cellP here j) = some (.int .u8 (d.toNat : Int)) := by
        intro j hj
        obtain ⟨c, hc⟩ : ∃ c, b[p + j]? = some c := ⟨_, List.getElem?_eq_getElem (by omega)⟩
        obtain ⟨d, hd⟩ : ∃ d, b[i + j]? = some d := ⟨_, List.getElem?_eq_getElem (by omega)⟩
        exact ⟨c, d, hc, hd, ct.idx .i64 (by rw [byts_len, List.length_drop]; omega), ct.load (byts_get (by rw [List.getElem?_drop]; exact hc)), cha.idx .i64 (by rw [byts_len, List.length_take, List.length_drop]; omega), cha.load (byts_get (by rw [List.getElem?_take_of_lt hj, List.getElem?_drop]; exact hd))⟩
      obtain ⟨c, d, hc, hd, i1, x1, i2, x2⟩ := at1 y.1 hy
      by_cases hcd : c = d
      · have hne : (c.toNat : Int) = (d.toNat : Int) := by rw [hcd]
        simp only [sA, Int.reduceNegSucc, reduceCtorEq, Nat.reduceEqDiff, ↓reduceIte, Nat.reduceAdd, Int.reduceEq, Int.reduceLT, Int.reduceLE, Nat.reduceLT, k0, k1, k6, k7, k8, k10, k11, k12, hge, hidx, hld, w3, hge2, hy', hpi', nil_cell, fldA, fld0, l3a, l4a, e0p, wp_, mt, i1, x1, i2, x2, hne]
        refine aw_loop (fun q (T2 : Env) H' => ∃ j : Nat, j ≤ m ∧ q = m - j ∧ T2 0 = cellR ow 9 0 ∧ T2 1 = .int .i64 (i : Int) ∧ T2 6 = .int .i64 (y.1 : Int) ∧ T2 7 = .int .i64 (y.2 : Int) ∧ T2 8 = .int .i64 (m : Int) ∧ T2 10 = here ∧ T2 11 = v ∧ T2 12 = .int .i64 (n : Int) ∧ T2 13 = th ∧ T2 14 = .int .i64 (j : Int) ∧ run b p i m = j + run b (p + j) (i + j) (m - j) ∧ Ha = H') m
          ⟨0, Nat.zero_le _, rfl, by simp only [sA, Int.reduceNegSucc, reduceCtorEq, Nat.reduceEqDiff, ↓reduceIte, Nat.reduceAdd, Int.reduceEq, Int.reduceLT, Int.reduceLE, Nat.reduceLT, k0], by simp only [sA, Int.reduceNegSucc, reduceCtorEq, Nat.reduceEqDiff, ↓reduceIte, Nat.reduceAdd, Int.reduceEq, Int.reduceLT, Int.reduceLE, Nat.reduceLT, k1], by simp only [sA, Int.reduceNegSucc, reduceCtorEq, Nat.reduceEqDiff, ↓reduceIte, Nat.reduceAdd, Int.reduceEq, Int.reduceLT, Int.reduceLE, Nat.reduceLT, k6], by simp only [sA, Int.reduceNegSucc, reduceCtorEq, Nat.reduceEqDiff, ↓reduceIte, Nat.reduceAdd, Int.reduceEq, Int.reduceLT, Int.reduceLE, Nat.reduceLT, k7], by simp only [sA, Int.reduceNegSucc, reduceCtorEq, Nat.reduceEqDiff, ↓reduceIte, Nat.reduceAdd, Int.reduceEq, Int.reduceLT, Int.reduceLE, Nat.reduceLT, k8], by simp only [sA, Int.reduceNegSucc, reduceCtorEq, Nat.reduceEqDiff, ↓reduceIte, Nat.reduceAdd, Int.reduceEq, Int.reduceLT, Int.reduceLE, Nat.reduceLT, k10], by simp only [sA, Int.reduceNegSucc, reduceCtorEq, Nat.reduceEqDiff, ↓reduceIte, Nat.reduceAdd, Int.reduceEq, Int.reduceLT, Int.reduceLE, Nat.reduceLT, k11], by simp only [sA, Int.reduceNegSucc, reduceCtorEq, Nat.reduceEqDiff, ↓reduceIte, Nat.reduceAdd, Int.reduceEq, Int.reduceLT, Int.reduceLE, Nat.reduceLT, k12], by simp only [sA, Int.reduceNegSucc, reduceCtorEq, Nat.reduceEqDiff, ↓reduceIte, Nat.reduceAdd, Int.reduceEq, Int.reduceLT, Int.reduceLE, Nat.reduceLT], by simp only [sA, Int.reduceNegSucc, reduceCtorEq, Nat.reduceEqDiff, ↓reduceIte, Nat.reduceAdd, Int.reduceEq, Int.reduceLT, Int.reduceLE, Nat.reduceLT]; try rfl, by simp, rfl⟩ ?_
        rintro q T2 _ ⟨j, hj, rfl, f0, f1, f6, f7, f8, f10, f11, f12, f13, f14, hrun, rfl⟩
        by_cases hjm : j < m
        · have hjm' : (j : Int) < (m : Int) := by omega
          obtain ⟨c', d', hc', hd', j1, z1, j2, z2⟩ := at1 j hjm
          rw [run_step b p i m j hjm, hc', hd'] at hrun
          by_cases hcd' : c' = d'
          · have heq : (c'.toNat : Int) = (d'.toNat : Int) := by rw [hcd']
            rw [if_pos (by rw [hcd'])] at hrun
            simp only [sA, Int.reduceNegSucc, reduceCtorEq, Nat.reduceEqDiff, ↓reduceIte, Nat.reduceAdd, Int.reduceEq, Int.reduceLT, Int.reduceLE, Nat.reduceLT, f0, f1, f6, f7, f8, f10, f11, f12, f13, f14, hjm', j1, z1, j2, z2, heq, wrap1 j (by omega)]
            exact ⟨_, by omega, j + 1, by omega, rfl, (by first | with_reducible rfl | trivial | rfl | assumption), (by first | with_reducible rfl | trivial | rfl | assumption), (by first | with_reducible rfl | trivial | rfl | assumption), (by first | with_reducible rfl | trivial | rfl | assumption), (by first | with_reducible rfl | trivial | rfl | assumption), (by first | with_reducible rfl | trivial | rfl | assumption), (by first | with_reducible rfl | trivial | rfl | assumption), (by first | with_reducible rfl | trivial | rfl | assumption), (by first | with_reducible rfl | trivial | rfl | assumption), (by first | with_reducible rfl | trivial | rfl | assumption), by rw [hrun]; omega, (by first | with_reducible rfl | trivial | rfl | assumption)⟩
          · have heq : ¬ (c'.toNat : Int) = (d'.toNat : Int) := fun e => hcd' (UInt8.toNat_inj.1 (by omega))
            rw [if_neg (by simpa using hcd')] at hrun
            have hr : run b p i m = j := by omega
            by_cases hcmp : y.1 < j
            · have hcmp' : (y.1 : Int) < (j : Int) := by omega
              have hst : stepF b i m p y = (j, i - p) := by unfold stepF; rw [hr, if_pos hcmp]
              simp only [sA, Int.reduceNegSucc, reduceCtorEq, Nat.reduceEqDiff, ↓reduceIte, Nat.reduceAdd, Int.reduceEq, Int.reduceLT, Int.reduceLE, Nat.reduceLT, f0, f1, f6, f7, f8, f10, f11, f12, f13, f14, hjm', j1, z1, j2, z2, heq, hcmp', hidx, hld, wsp, wn]
              exact ⟨n, by omega, (j, i - p), by omega, by simp only; omega, (by first | with_reducible rfl | trivial | rfl | assumption), (by first | with_reducible rfl | trivial | rfl | assumption), (by first | with_reducible rfl | trivial | rfl | assumption), (by first | with_reducible rfl | trivial | rfl | assumption), (by first | with_reducible rfl | trivial | rfl | assumption), (by first | with_reducible rfl | trivial | rfl | assumption), (by first | with_reducible rfl | trivial | rfl | assumption), (by first | with_reducible rfl | trivial | rfl | assumption), by rw [← hst]; exact hsc, (by first | with_reducible rfl | trivial | rfl | assumption)⟩
            · have hcmp' : ¬ (y.1 : Int) < (j : Int) := by omega
              have hst : stepF b i m p y = y := by unfold stepF; rw [hr, if_neg hcmp]
              rw [hst] at hsc
              simp only [sA, Int.reduceNegSucc, reduceCtorEq, Nat.reduceEqDiff, ↓reduceIte, Nat.reduceAdd, Int.reduceEq, Int.reduceLT, Int.reduceLE, Nat.reduceLT, f0, f1, f6, f7, f8, f10, f11, f12, f13, f14, hjm', j1, z1, j2, z2, heq, hcmp', wn]
              exact ⟨n, by omega, y, by omega, hym, (by first | with_reducible rfl | trivial | rfl | assumption), (by first | with_reducible rfl | trivial | rfl | assumption), (by first | with_reducible rfl | trivial | rfl | assumption), (by first | with_reducible rfl | trivial | rfl | assumption), (by first | with_reducible rfl | trivial | rfl | assumption), (by first | with_reducible rfl | trivial | rfl | assumption), (by first | with_reducible rfl | trivial | rfl | assumption), (by first | with_reducible rfl | trivial | rfl | assumption), hsc, (by first | with_reducible rfl | trivial | rfl | assumption)⟩
        · have hjm' : ¬ (j : Int) < (m : Int) := by omega
          have hr : run b p i m = j := by rw [hrun, show m - j = 0 by omega, run]; rfl
          by_cases hcmp : y.1 < j
          · have hcmp' : (y.1 : Int) < (j : Int) := by omega
            have hst : stepF b i m p y = (j, i - p) := by unfold stepF; rw [hr, if_pos hcmp]
            simp only [sA, Int.reduceNegSucc, reduceCtorEq, Nat.reduceEqDiff, ↓reduceIte, Nat.reduceAdd, Int.reduceEq, Int.reduceLT, Int.reduceLE, Nat.reduceLT, f0, f1, f6, f7, f8, f10, f11, f12, f13, f14, hjm', hcmp', hidx, hld, wsp, wn]
            exact ⟨n, by omega, (j, i - p), by omega, by simp only; omega, (by first | with_reducible rfl | trivial | rfl | assumption), (by first | with_reducible rfl | trivial | rfl | assumption), (by first | with_reducible rfl | trivial | rfl | assumption), (by first | with_reducible rfl | trivial | rfl | assumption), (by first | with_reducible rfl | trivial | rfl | assumption), (by first | with_reducible rfl | trivial | rfl | assumption), (by first | with_reducible rfl | trivial | rfl | assumption), (by first | with_reducible rfl | trivial | rfl | assumption), by rw [← hst]; exact hsc, (by first | with_reducible rfl | trivial | rfl | assumption)⟩
          · have hcmp' : ¬ (y.1 : Int) < (j : Int) := by omega
            have hst : stepF b i m p y = y := by unfold stepF; rw [hr, if_neg hcmp]
            rw [hst] at hsc
            simp only [sA, Int.reduceNegSucc, reduceCtorEq, Nat.reduceEqDiff, ↓reduceIte, Nat.reduceAdd, Int.reduceEq, Int.reduceLT, Int.reduceLE, Nat.reduceLT, f0, f1, f6, f7, f8, f10, f11, f12, f13, f14, hjm', hcmp', wn]
            exact ⟨n, by omega, y, by omega, hym, (by first | with_reducible rfl | trivial | rfl | assumption), (by first | with_reducible rfl | trivial | rfl | assumption), (by first | with_reducible rfl | trivial | rfl | assumption), (by first | with_reducible rfl | trivial | rfl | assumption), (by first | with_reducible rfl | trivial | rfl | assumption), (by first | with_reducible rfl | trivial | rfl | assumption), (by first | with_reducible rfl | trivial | rfl | assumption), (by first | with_reducible rfl | trivial | rfl | assumption), hsc, (by first | with_reducible rfl | trivial | rfl | assumption)⟩
      · have hne : ¬ (c.toNat : Int) = (d.toNat : Int) := fun e => hcd (UInt8.toNat_inj.1 (by omega))
        have hcut := run_cut (b := b) (p := p) (i := i) (m := m) (j := y.1) (by rw [hc, hd]; simpa using hcd)
        have hst : stepF b i m p y = y := by unfold stepF; rw [if_neg (by omega)]
        rw [hst] at hsc
        simp only [sA, Int.reduceNegSucc, reduceCtorEq, Nat.reduceEqDiff, ↓reduceIte, Nat.reduceAdd, Int.reduceEq, Int.reduceLT, Int.reduceLE, Nat.reduceLT, k0, k1, k6, k7, k8, k10, k11, k12, hge, hidx, hld, w3, hge2, hy', hpi', nil_cell, fldA, fld0, l3a, l4a, e0p, wp_, mt, i1, x1, i2, x2, hne, wn]
        exact ⟨n, by omega, y, by omega, hym, (by first | with_reducible rfl | trivial | rfl | assumption), (by first | with_reducible rfl | trivial | rfl | assumption), (by first | with_reducible rfl | trivial | rfl | assumption), (by first | with_reducible rfl | trivial | rfl | assumption), (by first | with_reducible rfl | trivial | rfl | assumption), (by first | with_reducible rfl | trivial | rfl | assumption), (by first | with_reducible rfl | trivial | rfl | assumption), (by first | with_reducible rfl | trivial | rfl | assumption), hsc, (by first | with_reducible rfl | trivial | rfl | assumption)⟩
    · have hy' : ¬ (y.1 : Int) < (m : Int) := by omega
      simp only [sA, Int.reduceNegSucc, reduceCtorEq, Nat.reduceEqDiff, ↓reduceIte, Nat.reduceAdd, Int.reduceEq, Int.reduceLT, Int.reduceLE, Nat.reduceLT, k0, k1, k6, k7, k8, k10, k11, k12, hge, hidx, hld, w3, hge2, hy']
      exact leave (scan_full b i m l _ _ (by omega))
theorem match_spec {n0 : Nat} {τ : Nat → Nat} {H : AHeap} {ow mb : Nat} {out kept : AVal} {b : Bs} {K : Nat} (P : PW sent n0 τ H ow mb out kept b K) (i to : Nat) (hKi : K ≤ i) (hi : i < to) (hto : to ≤ b.length) (hb : b.length ≤ 20000) :
    ACalls Try.prog natI 45 [cellR ow 9 0, .int .i64 (i : Int), .int .i64 (to : Int)] H fun w H' => w = .tuple [.int .i64 (((matchG b i to).1 : Nat) : Int), .int .i64 (((matchG b i to).2 : Nat) : Int)] ∧ ∃ τ' K', (K' ≤ i ∧ (K' = K ∨ K' + 3 ≤ to)) ∧ PW sent n0 τ' H' ow mb out kept b K' ∧ Fm mb ow τ H τ' H' := by
  refine match_pre P i to hKi hi hto hb _ (fun h => ?_) fun h3 T2 H2 τ2 g0 g1 g2 g6 g7 g8 P2 F2 => ?_
  · have e : matchG b i to = (0, 0) := by unfold matchG; rw [if_pos h]
    rw [e]
    exact ⟨rfl, τ, K, ⟨hKi, .inl rfl⟩, P, Fm.refl _ _ _ _⟩
  · exact match_rest P2 rfl h3 hi hto hb _ g0 g1 g6 g7 g8 fun H3 E3 => ⟨rfl, τ2, i, ⟨Nat.le_refl _, .inr (by have : mlen i to = min 258 (to - i) := rfl; omega)⟩, P2.ext E3, F2.trans (Fm.of_ext E3)⟩
end Go.Proofs.Zi
namespace Go.Proofs.Zi
open Go.Abs Go.Abs.S
set_option linter.unusedSimpArgs false
def tokFl (t : Tok) : List (Nat × Nat) := if t.back = 0 then [symF t.b.toNat] else lenFl t.n ++ disFl t.back
theorem tokFl_ok {t : Tok} (h : tokOk t) : fldBits (tokFl t) = tokB t ∧ ∀ f ∈ tokFl t, fldOk f = true := by
  unfold tokFl tokB
  by_cases h0 : t.back = 0
  · rw [if_pos h0, if_pos h0]
    have hb := t.b.toNat_lt
    obtain ⟨a, e⟩ := symF_ok (s := t.b.toNat) (by omega)
    refine ⟨by simp [fldBits, e], fun f hf => ?_⟩
    rw [List.mem_singleton] at hf; rw [hf]; exact a
  · rw [if_neg h0, if_neg h0]
    rcases h with h | ⟨h1, h2, h3, h4⟩
    · exact absurd h h0
    · obtain ⟨a1, a2⟩ := lenFl_ok h1 h2
      obtain ⟨b1, b2⟩ := disFl_ok h3 (by omega)
      refine ⟨by rw [fldBits_append, a1, b1], fun f hf => ?_⟩
      rcases List.mem_append.1 hf with hf | hf
      · exact a2 f hf
      · exact b2 f hf
theorem toksFl_ok : ∀ (l : List Tok), (∀ t ∈ l, tokOk t) → fldBits (l.flatMap tokFl) = l.flatMap tokB ∧ ∀ f ∈ l.flatMap tokFl, fldOk f = true
  | [], _ => ⟨rfl, fun f hf => by simp at hf⟩
  | t :: r, h => by
    obtain ⟨a1, a2⟩ := tokFl_ok (h t (by simp))
    obtain ⟨b1, b2⟩ := toksFl_ok r fun t ht => h t (by simp [ht])
    refine ⟨by simp only [List.flatMap_cons, fldBits_append, a1, b1], fun f hf => ?_⟩
    rw [List.flatMap_cons] at hf
    rcases List.mem_append.1 hf with hf | hf
    · exact a2 f hf
    · exact b2 f hf
def blockFl (last : Nat) (l : List Tok) : List (Nat × Nat) := [(last, 1), (1, 2)] ++ l.flatMap tokFl ++ [symF 256]
theorem blockFl_ok {last : Nat} (hla : last ≤ 1) {l : List Tok} (h : ∀ t ∈ l, tokOk t) : fldBits (blockFl last l) = fixedB l last ∧ ∀ f ∈ blockFl last l, fldOk f = true := by
  obtain ⟨a1, a2⟩ := toksFl_ok l h
  obtain ⟨b1, b2⟩ := symF_ok (s := 256) (by omega)
  unfold blockFl
  refine ⟨?_, fun f hf => ?_⟩
  · rw [fldBits_append, fldBits_append, a1]
    have e1 : fldBits [(last, 1), (1, 2)] = bitsN last 1 ++ bitsN 1 2 := by simp [fldBits]
    have e2 : fldBits [symF 256] = fixB 256 := by simp [fldBits, b2]
    rw [e1, e2]
    simp only [fixedB, List.append_assoc]
  · rcases List.mem_append.1 hf with hf | hf
    · rcases List.mem_append.1 hf with hf | hf
      · simp only [List.mem_cons, List.not_mem_nil, or_false] at hf
        rcases hf with rfl | rfl
        · have : last = 0 ∨ last = 1 := by omega
          rcases this with rfl | rfl <;> rfl
        · rfl
      · exact a2 f hf
    · rw [List.mem_singleton] at hf; rw [hf]; exact b1
def wideF (fs : List (Nat × Nat)) : Nat := (fs.map (·.2)).sum
theorem wideF_bits (fs : List (Nat × Nat)) : wideF fs = (fldBits fs).length := by
  induction fs with
  | nil => rfl
  | cons f r ih =>
    simp only [wideF, fldBits] at ih
    simp only [wideF, fldBits, List.map_cons, List.sum_cons, List.flatMap_cons, List.length_append, bitsN_len, ih]
theorem tok_at {b : Bs} {to i f : Nat} (hi : i < to) (hto : to ≤ b.length) :
    (3 ≤ (matchG b i to).1 ∧ toksF b to (f + 1) i = ⟨(matchG b i to).1, (matchG b i to).2, 0⟩ :: toksF b to f (i + (matchG b i to).1)) ∨
    (¬ 3 ≤ (matchG b i to).1 ∧ toksF b to (f + 1) i = ⟨0, 0, b.getD i 0⟩ :: toksF b to f (i + 1)) := by
  have hB := matchG_both hi hto
  simp only [toksF, if_pos hi]
  rcases hB with ⟨h1, h2⟩ | ⟨h1, h2⟩
  · refine .inr ⟨by rw [h2]; simp, ?_⟩
    rw [if_neg (by omega)]
  · refine .inl ⟨by rw [h2]; exact h1, ?_⟩
    rw [if_pos h1, h2]
end Go.Proofs.Zi
namespace Go.Proofs.Zi
open Go.Abs Go.Abs.S
set_option linter.unusedSimpArgs false
variable {sent : Nat}
def FM (τ : Nat → Nat) (H : AHeap) (v : AVal) (fs : List (Nat × Nat)) : Prop := FL H v fs ∧ Blk v (τ · = 6)
theorem PW.mark {n0 : Nat} {τ : Nat → Nat} {H H' : AHeap} {ow mb : Nat} {out kept : AVal} {b : Bs} {K : Nat} (h : PW sent n0 τ H ow mb out kept b K) (h6 : ∀ c, c < n0 → τ c ≠ 6) (hn : H.next ≤ H'.next) (e : ∀ c, c < H.next → τ c ≠ 6 → H'.get c = H.get c) : PW sent n0 (upT τ H H' 6) H' ow mb out kept b K := by
  have o1 := h.own
  have o2 := h.mbn
  have o3 := h.n0n
  refine ⟨h.row.same (e _ (by omega) (h6 _ o1)), h.kp.same hn (h.kb.mono fun c hc => e c hc.1 hc.2.1.2), h.kb.mono fun c hc => ⟨by omega, by rw [upT_old hc.1]; exact hc.2.1, hc.2.2⟩, ?_, o1, o2, h.ne, by rw [upT_old (by omega)]; exact h.tow, by omega, fun c hc => upT_z hn hc⟩
  obtain ⟨es, h1, h2⟩ := MR.iff.1 h.map
  exact MR.iff.2 ⟨es, (e _ (by omega) (h6 _ o2)).trans h1, h2.same hn fun c hc ht => ⟨e c hc (by omega), upT_old hc⟩⟩
theorem FM.fm {τ τ' : Nat → Nat} {H H' : AHeap} {v : AVal} {fs : List (Nat × Nat)} {mb ow : Nat} (h : FM τ H v fs) (f : Fm mb ow τ H τ' H') (hm : τ mb ≠ 6) (ho : τ ow ≠ 6) : FM τ' H' v fs := by
  have hb : Blk v fun c => c < H.next ∧ τ c = 6 := (LinM.blk h.1).and h.2
  exact ⟨LinM.same h.1 f.1 (hb.mono fun c hc => (f.2 c hc.1).2 (by rintro rfl; exact hm hc.2) (by rintro rfl; exact ho hc.2) (by omega)), hb.mono fun c hc => by rw [(f.2 c hc.1).1]; exact hc.2⟩
theorem FM.stp {τ : Nat → Nat} {H H' : AHeap} {v w : AVal} {fs gs : List (Nat × Nat)} (h : FM τ H v fs) (k : FL H' w gs) (s : Stp v H w H') : FM (upT τ H H' 6) H' w gs ∧ ∀ c, c < H.next → τ c ≠ 6 → H'.get c = H.get c := by
  have hb : Blk v fun c => c < H.next ∧ τ c = 6 := (LinM.blk h.1).and h.2
  refine ⟨⟨k, ((s.2.1 _ hb).and (LinM.blk k)).mono fun c hc => ?_⟩, fun c hc h6 => s.2.2 c hc (hb.mono fun d hd => by rintro rfl; exact h6 hd.2)⟩
  rcases hc.1 with h1 | h1
  · rw [upT_old h1.1]; exact h1.2
  · exact upT_new h1 hc.2
end Go.Proofs.Zi
namespace Go.Proofs.Zi
open Go.Abs Go.Abs.S
set_option linter.unusedSimpArgs false
variable {sent : Nat}
theorem block_step {n0 : Nat} {τ : Nat → Nat} {H : AHeap} {ow mb : Nat} {out kept v : AVal} {b : Bs} {K i : Nat} {fs : List (Nat × Nat)} (P : PW sent n0 τ H ow mb out kept b K) (F : FM τ H v fs) (h6 : ∀ c, c < n0 → τ c ≠ 6) (hKi : K ≤ i) {to : Nat} (hi : i < to) (hto : to ≤ b.length) (hb : b.length ≤ 20000) :
    ACalls Try.prog natI 45 [cellR ow 9 0, .int .i64 (i : Int), .int .i64 (to : Int)] H fun w H' => w = .tuple [.int .i64 (((matchG b i to).1 : Nat) : Int), .int .i64 (((matchG b i to).2 : Nat) : Int)] ∧ ∃ τ' K', (K' ≤ i ∧ (K' = K ∨ K' + 3 ≤ to)) ∧ PW sent n0 τ' H' ow mb out kept b K' ∧ FM τ' H' v fs ∧ (∀ c, c < n0 → τ' c ≠ 6) ∧ Fm mb ow τ H τ' H' := by
  refine (match_spec P i to hKi hi hto hb).mono ?_
  rintro w H' ⟨rfl, τ', K', h1, P', f⟩
  have o3 := P.n0n
  exact ⟨rfl, τ', K', h1, P', F.fm f (h6 _ P.mbn) (h6 _ P.own), fun c hc => by rw [(f.2 c (by omega)).1]; exact h6 c hc, f⟩
theorem matchG_ok {b : Bs} {i to : Nat} (hi : i < to) (hto : to ≤ b.length) (hb : b.length ≤ 20000) (h : 3 ≤ (matchG b i to).1) : (matchG b i to).1 ≤ 258 ∧ 1 ≤ (matchG b i to).2 ∧ (matchG b i to).2 ≤ 20000 ∧ i + (matchG b i to).1 ≤ to := by
  rcases matchG_both hi hto with ⟨_, h2⟩ | ⟨h1, h2⟩
  · rw [h2] at h; simp at h
  · obtain ⟨m1, m2, m3⟩ := match_ok b i to h1
    rw [h2]
    simp only
    omega
end Go.Proofs.Zi
namespace Go.Proofs.Zi
open Go.Abs Go.Abs.S
set_option linter.unusedSimpArgs false
variable {sent : Nat}
theorem tokFl_len (t : Tok) : (tokFl t).length ≤ 4 := by
  unfold tokFl lenFl disFl
  split
  · simp
  · split <;> simp
theorem tokFls_len (l : List Tok) : (l.flatMap tokFl).length ≤ 4 * l.length := by
  induction l with
  | nil => simp
  | cons t r ih =>
    have := tokFl_len t
    simp only [List.flatMap_cons, List.length_append, List.length_cons]; omega
theorem toksF_end {b : Bs} {to f i : Nat} (h : ¬ i < to) : toksF b to f i = [] := by
  cases f with
  | zero => rfl
  | succ f => simp only [toksF, if_neg h]
def lastN (last : Bool) : Nat := if last then 1 else 0
def restB : List Nat := [1, 1, 1, 1, 1]
theorem block_preT {n0 : Nat} {τ : Nat → Nat} {H : AHeap} {ow mb : Nat} {out kept : AVal} {b : Bs} {K0 to : Nat} (P : PW sent n0 τ H ow mb out kept b K0) (hK0 : K0 ≤ sent) (hKB : K0 = 0 ∨ K0 + 3 ≤ b.length) (hst : sent ≤ to) (hto : to ≤ b.length) (hlong : to - sent ≤ 4096) (h6 : ∀ c, c < n0 → τ c ≠ 6) (hb : b.length ≤ 20000) (Q : AVal → AHeap → Prop)
    (hrest : ∀ (T2 : Env) (H2 : AHeap) (τ2 : Nat → Nat) (K q : Nat), T2 0 = cellR ow 9 0 → T2 1 = .int .i64 (to : Int) → T2 6 = cellR q 2 0 → PW sent n0 τ2 H2 ow mb out kept b K → (K ≤ to ∧ (K = 0 ∨ K + 3 ≤ b.length)) → FM τ2 H2 (T2 7) ([(1, 1), (1, 2)] ++ (toks b sent to).flatMap tokFl) → Row H2 q (fldC (1, 1)) → τ2 q = 0 → n0 ≤ q → q < H2.next → (∀ c, c < n0 → τ2 c ≠ 6) → (∀ c, c < H.next → τ2 c = τ c ∧ (c ≠ mb → c ≠ ow → τ c < 100 → τ c ≠ 6 → H2.get c = H.get c)) → H.next ≤ H2.next → wp (ACalls Try.prog natI) (hold (restP restB c28.body)) (fin c28.res Q) T2 H2) :
    ACalls Try.prog natI 28 [cellR ow 9 0, .int .i64 (to : Int), .bool true] H Q := by
  refine acalls_ofN rfl za28 rfl ?_
  refine wp_cutP restB ?_
  have o1 := P.own
  have o3 := P.n0n
  obtain ⟨H1, m1, r1, k1, q1⟩ := row_newL H [.int .u32 0, .int .i64 0] (n := 2) rfl
  obtain ⟨H2, m2, r2, k2', q2⟩ := row_storeN r1 (n := 2) rfl (xs := [.int .u32 0, .int .i64 1]) rfl rfl
  obtain ⟨H3, m3, r3, k3', q3⟩ := row_st r2 (n := 2) rfl (i := 0) (by omega) (x := .int .u32 1) rfl rfl
  have r3' : Row H3 H.next (fldC (1, 1)) := r3
  have b0 : aBuild [.int .u32 0, .int .i64 0] [(0, 1, .int .u32 0), (1, 1, .int .i64 1)] = some (.agg [.int .u32 0, .int .i64 1]) := rfl
  have b1 : aBuild [.int .u32 0, .int .i64 0] [(0, 1, .int .u32 1), (1, 1, .int .i64 2)] = some (fldV (1, 2)) := rfl
  have E3 : Ext H.next H H3 := ⟨by omega, fun c hc => by rw [q3 c (by omega), q2 c (by omega), q1 c (by omega)]⟩
  have P3 := P.ext E3
  have ld : oLoad true 2 H3 (cellR H.next 2 0) = some (fldV (1, 1)) := row_loadN r3' (n := 2) rfl
  simp only [c28, restB] at hrest
  simp only [c28, restB, sC, sA, Int.reduceNegSucc, reduceCtorEq, Nat.reduceEqDiff, ↓reduceIte, Nat.reduceAdd, Int.reduceEq, Int.reduceLT, Int.reduceLE, Nat.reduceLT, b0, m1, m2, fldA, fld0, m3]
  refine (prune_spec P3.row (by omega)).mono ?_
  rintro w _ rfl
  have e5 : Ext H3.next H3 (H3.push (.cells (flds [(1, 1), (1, 2)]) 0 false)) := (Ext.refl _ _).push (Nat.le_refl _) _
  have P4 := P3.mark h6 e5.next fun c hc _ => e5.old c hc
  have F4 : FM (upT τ H3 (H3.push (.cells (flds [(1, 1), (1, 2)]) 0 false)) 6) (H3.push (.cells (flds [(1, 1), (1, 2)]) 0 false)) (.slice (some ⟨H3.next, 4, 0⟩) 2 (.known 2)) [(1, 1), (1, 2)] := ⟨LinM.built (m := 2) (k := 2) H3 (xs := flds [(1, 1), (1, 2)]) rfl, blk_some (upT_new (Nat.le_refl _) (by rw [push_next]; exact Nat.lt_succ_self _))⟩
  have l5 : oLoad false 1 (H3.push (.cells (flds [(1, 1), (1, 2)]) 0 false)) (cellR ow 9 5) = some (.int .i64 (sent : Int)) := row_load P4.row rfl rfl
  simp only [sA, Int.reduceNegSucc, reduceCtorEq, Nat.reduceEqDiff, ↓reduceIte, Nat.reduceAdd, Int.reduceEq, Int.reduceLT, Int.reduceLE, Nat.reduceLT, ld, b1, buildF2, nil_cell, fldA, fld0, l5]
  obtain ⟨Hs, hHs⟩ : ∃ G, G = H3.push (.cells (flds [(1, 1), (1, 2)]) 0 false) := ⟨_, rfl⟩
  have ks : Hs.next = H3.next + 1 := by rw [hHs]; rfl
  obtain ⟨τs, hτs⟩ : ∃ t, t = upT τ H3 Hs 6 := ⟨_, rfl⟩
  rw [← hHs] at e5 P4 F4 l5 ⊢
  rw [← hτs] at P4 F4
  have hs6 : ∀ c, c < n0 → τs c ≠ 6 := fun c hc => by rw [hτs, upT_old (by omega)]; exact h6 c hc
  have fs0 : ∀ c, c < H3.next → τs c = τ c := fun c hc => by rw [hτs, upT_old hc]
  have tz0 := P.tz H.next (Nat.le_refl _)
  refine aw_loop (fun q (T : Env) H' => ∃ (i K : Nat) (τ' : Nat → Nat) (acc : List Tok), (K ≤ i ∧ (K = 0 ∨ K + 3 ≤ b.length)) ∧ sent ≤ i ∧ i ≤ to ∧ to - i ≤ q ∧ acc ++ toksF b to q i = toks b sent to ∧ acc.length + q ≤ 4096 ∧ T 0 = cellR ow 9 0 ∧ T 1 = .int .i64 (to : Int) ∧ T 6 = cellR H.next 2 0 ∧ T 8 = .int .i64 (i : Int) ∧ PW sent n0 τ' H' ow mb out kept b K ∧ FM τ' H' (T 7) ([(1, 1), (1, 2)] ++ acc.flatMap tokFl) ∧ Row H' H.next (fldC (1, 1)) ∧ τ' H.next = 0 ∧ H.next < H'.next ∧ (∀ c, c < n0 → τ' c ≠ 6) ∧ (∀ c, c < H.next → τ' c = τ c ∧ (c ≠ mb → c ≠ ow → τ c < 100 → τ c ≠ 6 → H'.get c = H.get c))) (to - sent)
    ⟨sent, K0, τs, [], ⟨hK0, hKB⟩, Nat.le_refl _, hst, Nat.le_refl _, rfl, by simp only [List.length_nil]; omega, by simp only [sA, Int.reduceNegSucc, reduceCtorEq, Nat.reduceEqDiff, ↓reduceIte, Nat.reduceAdd, Int.reduceEq, Int.reduceLT, Int.reduceLE, Nat.reduceLT]; try rfl, by simp only [sA, Int.reduceNegSucc, reduceCtorEq, Nat.reduceEqDiff, ↓reduceIte, Nat.reduceAdd, Int.reduceEq, Int.reduceLT, Int.reduceLE, Nat.reduceLT]; try rfl, by simp only [sA, Int.reduceNegSucc, reduceCtorEq, Nat.reduceEqDiff, ↓reduceIte, Nat.reduceAdd, Int.reduceEq, Int.reduceLT, Int.reduceLE, Nat.reduceLT]; try rfl, by simp only [sA, Int.reduceNegSucc, reduceCtorEq, Nat.reduceEqDiff, ↓reduceIte, Nat.reduceAdd, Int.reduceEq, Int.reduceLT, Int.reduceLE, Nat.reduceLT]; try rfl, P4, by simp only [sA, Int.reduceNegSucc, reduceCtorEq, Nat.reduceEqDiff, ↓reduceIte, Nat.reduceAdd, Int.reduceEq, Int.reduceLT, Int.reduceLE, Nat.reduceLT]; exact F4, r3'.same (e5.old _ (by omega)), by rw [fs0 _ (by omega)]; exact tz0, by omega, hs6, fun c hc => ⟨fs0 c (by omega), fun _ _ _ _ => by rw [e5.old c (by omega)]; exact E3.old c hc⟩⟩ ?_
  rintro q T H' ⟨i, K, τ', acc, hKi, hsi, hib, hq, htk, hal, g0, g1, g6, g8, P', F', R', tq, hn', h6', fr⟩
  by_cases hlt : i < to
  · have hlt' : (i : Int) < (to : Int) := by omega
    obtain ⟨q, rfl⟩ : ∃ n, q = n + 1 := ⟨q - 1, by omega⟩
    have hfl := tokFls_len acc
    simp only [sA, Int.reduceNegSucc, reduceCtorEq, Nat.reduceEqDiff, ↓reduceIte, Nat.reduceAdd, Int.reduceEq, Int.reduceLT, Int.reduceLE, Nat.reduceLT, g0, g1, g6, g8, hlt']
    refine (block_step P' F' h6' hKi.1 hlt hto hb).mono ?_
    rintro _ H4 ⟨rfl, τ4, K4, hK4, P4, F4, h64, fm⟩
    have n4 := fm.1
    have o4 := P4.mbn
    have fr4 : ∀ c, c < H.next → τ4 c = τ c ∧ (c ≠ mb → c ≠ ow → τ c < 100 → τ c ≠ 6 → H4.get c = H.get c) := fun c hc => by
      obtain ⟨e1, e2⟩ := fr c hc
      obtain ⟨e3, e4⟩ := fm.2 c (by omega)
      exact ⟨e3.trans e1, fun a1 a2 a3 a4 => (e4 a1 a2 (by rw [e1]; exact a3)).trans (e2 a1 a2 a3 a4)⟩
    have R4 : Row H4 H.next (fldC (1, 1)) := R'.same ((fm.2 _ hn').2 (by omega) (by omega) (by rw [tq]; omega))
    have tq4 : τ4 H.next = 0 := (fm.2 _ hn').1.trans tq
    rcases tok_at (b := b) (to := to) (f := q) hlt hto with ⟨h3, et⟩ | ⟨h3, et⟩
    · obtain ⟨x1, x2, x3, x4⟩ := matchG_ok hlt hto hb h3
      generalize matchG b i to = mg at *
      have h3' : (3 : Int) ≤ (mg.1 : Int) := by omega
      simp only [sA, Int.reduceNegSucc, reduceCtorEq, Nat.reduceEqDiff, ↓reduceIte, Nat.reduceAdd, Int.reduceEq, Int.reduceLT, Int.reduceLE, Nat.reduceLT, g0, g1, g6, g8, ext_0, ext_1, h3']
      refine (matched_spec mg.1 mg.2 F4.1 (by simp only [List.length_append, List.length_cons, List.length_nil]; omega) h3 x1 x2 (by omega)).mono ?_
      rintro w H5 ⟨k5, s5⟩
      obtain ⟨F5, e5⟩ := F4.stp k5 s5
      have P5 := P4.mark h64 s5.1 e5
      have n5 := s5.1
      have ef : [(1, 1), (1, 2)] ++ List.flatMap tokFl acc ++ (lenFl mg.1 ++ disFl mg.2) = [(1, 1), (1, 2)] ++ (acc ++ [(⟨mg.1, mg.2, 0⟩ : Tok)]).flatMap tokFl := by
        simp only [List.flatMap_append, List.flatMap_cons, List.flatMap_nil, List.append_nil, List.append_assoc, tokFl]
        rw [if_neg (by omega)]
      rw [ef] at F5; simp only [List.cons_append, List.nil_append] at F5
      simp only [sA, Int.reduceNegSucc, reduceCtorEq, Nat.reduceEqDiff, ↓reduceIte, Nat.reduceAdd, Int.reduceEq, Int.reduceLT, Int.reduceLE, Nat.reduceLT, g0, g1, g6, g8, wrapN i mg.1 (by omega)]
      exact ⟨q, Nat.lt_succ_self _, i + mg.1, K4, _, acc ++ [⟨mg.1, mg.2, 0⟩], by omega, by omega, by omega, by omega, by rw [← htk, et]; simp, by simp; omega, (by first | with_reducible rfl | trivial | rfl | assumption), (by first | with_reducible rfl | trivial | rfl | assumption), (by first | with_reducible rfl | trivial | rfl | assumption), (by first | with_reducible rfl | trivial | rfl | assumption), P5, F5, R4.same (e5 _ (by omega) (by rw [tq4]; omega)), by rw [upT_old (by omega)]; exact tq4, by omega, fun c hc => by rw [upT_old (by omega)]; exact h64 c hc, fun c hc => ⟨by rw [upT_old (by omega)]; exact (fr4 c hc).1, fun a1 a2 a3 a4 => by rw [e5 c (by omega) (by rw [(fr4 c hc).1]; exact a4)]; exact (fr4 c hc).2 a1 a2 a3 a4⟩⟩
    · generalize matchG b i to = mg at *
      have h3' : ¬ (3 : Int) ≤ (mg.1 : Int) := by omega
      have l3 : oLoad false 1 H4 (cellR ow 9 3) = some kept := row_load P4.row rfl rfl
      have l4 : oLoad false 1 H4 (cellR ow 9 4) = some (.int .i64 0) := row_load P4.row rfl rfl
      have e0 : (i : Int) - 0 = (i : Int) := by omega
      have wi : IntKind.i64.wrap (i : Int) = (i : Int) := wrap64 (by omega) (by omega)
      obtain ⟨c, hc⟩ : ∃ c, b[i]? = some c := ⟨_, List.getElem?_eq_getElem (by omega)⟩
      have ck : Cel H4.next H4 kept (byts b) := P4.kp.cel1 P4.kp.blk'
      have ix := ck.idx .i64 (i := i) (by rw [byts_len]; omega)
      have lx := ck.load (byts_get hc)
      have cv := c.toNat_lt
      have egd : b.getD i 0 = c := by rw [List.getD_eq_getElem?_getD, hc]; rfl
      have wc : IntKind.i64.wrap (c.toNat : Int) = (c.toNat : Int) := wrap64 (by omega) (by omega)
      simp only [sA, Int.reduceNegSucc, reduceCtorEq, Nat.reduceEqDiff, ↓reduceIte, Nat.reduceAdd, Int.reduceEq, Int.reduceLT, Int.reduceLE, Nat.reduceLT, g0, g1, g6, g8, ext_0, ext_1, h3', nil_cell, fldA, fld0, l3, l4, e0, wi, ix, lx, conv_in, wc]
      refine (symbol_spec H4 c.toNat (by omega)).mono ?_
      rintro _ H5 ⟨rfl, E5⟩
      have P5 := P4.ext E5
      have F5 : FM τ4 H5 (T 7) _ := ⟨F4.1.ext E5, F4.2⟩
      have n5 := E5.next
      obtain ⟨w, H6, m6, k6, s6⟩ := FL.add F5.1 [symF c.toNat] (by simp only [List.length_append, List.length_cons, List.length_nil]; omega)
      obtain ⟨F6, e6⟩ := F5.stp k6 s6
      have P6 := P5.mark h64 s6.1 e6
      have n6 := s6.1
      have m6' : aAppend 2 16 (H5.push (.cells (fldC (symF c.toNat)) 0 false)) (T 7) (.slice (some ⟨H5.next, 2, 0⟩) 1 (.known 1)) = some (w, H6) := by simpa [flds] using m6
      have ef : [(1, 1), (1, 2)] ++ List.flatMap tokFl acc ++ [symF c.toNat] = [(1, 1), (1, 2)] ++ (acc ++ [(⟨0, 0, b.getD i 0⟩ : Tok)]).flatMap tokFl := by
        simp only [List.flatMap_append, List.flatMap_cons, List.flatMap_nil, List.append_nil, List.append_assoc, tokFl, if_true, egd]
      rw [ef] at F6; simp only [List.cons_append, List.nil_append] at F6
      simp only [sA, Int.reduceNegSucc, reduceCtorEq, Nat.reduceEqDiff, ↓reduceIte, Nat.reduceAdd, Int.reduceEq, Int.reduceLT, Int.reduceLE, Nat.reduceLT, g0, g1, g6, g8, buildF1, m6', wrap1 i (by omega)]
      exact ⟨q, Nat.lt_succ_self _, i + 1, K4, _, acc ++ [⟨0, 0, b.getD i 0⟩], by omega, by omega, by omega, by omega, by rw [← htk, et]; simp, by simp; omega, (by first | with_reducible rfl | trivial | rfl | assumption), (by first | with_reducible rfl | trivial | rfl | assumption), (by first | with_reducible rfl | trivial | rfl | assumption), (by first | with_reducible rfl | trivial | rfl | assumption), P6, F6, R4.same (by rw [e6 _ (by omega) (by rw [tq4]; omega)]; exact E5.old _ (by omega)), by rw [upT_old (by omega)]; exact tq4, by omega, fun c hc => by rw [upT_old (by omega)]; exact h64 c hc, fun c hc => ⟨by rw [upT_old (by omega)]; exact (fr4 c hc).1, fun a1 a2 a3 a4 => by rw [e6 c (by omega) (by rw [(fr4 c hc).1]; exact a4), E5.old c (by omega)]; exact (fr4 c hc).2 a1 a2 a3 a4⟩⟩
  · have hlt' : ¬ (i : Int) < (to : Int) := by omega
    simp only [sA, Int.reduceNegSucc, reduceCtorEq, Nat.reduceEqDiff, ↓reduceIte, Nat.reduceAdd, Int.reduceEq, Int.reduceLT, Int.reduceLE, Nat.reduceLT, g0, g1, g6, g8, hlt']
    rw [toksF_end hlt, List.append_nil] at htk
    subst htk
    exact hrest _ _ τ' K H.next (by simp only [sA, Int.reduceNegSucc, reduceCtorEq, Nat.reduceEqDiff, ↓reduceIte, Nat.reduceAdd, Int.reduceEq, Int.reduceLT, Int.reduceLE, Nat.reduceLT, g0]) (by simp only [sA, Int.reduceNegSucc, reduceCtorEq, Nat.reduceEqDiff, ↓reduceIte, Nat.reduceAdd, Int.reduceEq, Int.reduceLT, Int.reduceLE, Nat.reduceLT, g1]) (by simp only [sA, Int.reduceNegSucc, reduceCtorEq, Nat.reduceEqDiff, ↓reduceIte, Nat.reduceAdd, Int.reduceEq, Int.reduceLT, Int.reduceLE, Nat.reduceLT, g6]) P' (by omega) (by simp only [sA, Int.reduceNegSucc, reduceCtorEq, Nat.reduceEqDiff, ↓reduceIte, Nat.reduceAdd, Int.reduceEq, Int.reduceLT, Int.reduceLE, Nat.reduceLT]; exact F') R' tq o3 hn' h6' fr (by omega)
theorem block_preF {n0 : Nat} {τ : Nat → Nat} {H : AHeap} {ow mb : Nat} {out kept : AVal} {b : Bs} {K0 to : Nat} (P : PW sent n0 τ H ow mb out kept b K0) (hK0 : K0 ≤ sent) (hKB : K0 = 0 ∨ K0 + 3 ≤ b.length) (hst : sent ≤ to) (hto : to ≤ b.length) (hlong : to - sent ≤ 4096) (h6 : ∀ c, c < n0 → τ c ≠ 6) (hb : b.length ≤ 20000) (Q : AVal → AHeap → Prop)
    (hrest : ∀ (T2 : Env) (H2 : AHeap) (τ2 : Nat → Nat) (K q : Nat), T2 0 = cellR ow 9 0 → T2 1 = .int .i64 (to : Int) → T2 6 = cellR q 2 0 → PW sent n0 τ2 H2 ow mb out kept b K → (K ≤ to ∧ (K = 0 ∨ K + 3 ≤ b.length)) → FM τ2 H2 (T2 7) ([(0, 1), (1, 2)] ++ (toks b sent to).flatMap tokFl) → Row H2 q (fldC (0, 1)) → τ2 q = 0 → n0 ≤ q → q < H2.next → (∀ c, c < n0 → τ2 c ≠ 6) → (∀ c, c < H.next → τ2 c = τ c ∧ (c ≠ mb → c ≠ ow → τ c < 100 → τ c ≠ 6 → H2.get c = H.get c)) → H.next ≤ H2.next → wp (ACalls Try.prog natI) (hold (restP restB c28.body)) (fin c28.res Q) T2 H2) :
    ACalls Try.prog natI 28 [cellR ow 9 0, .int .i64 (to : Int), .bool false] H Q := by
  refine acalls_ofN rfl za28 rfl ?_
  refine wp_cutP restB ?_
  have o1 := P.own
  have o3 := P.n0n
  obtain ⟨H1, m1, r1, k1, q1⟩ := row_newL H [.int .u32 0, .int .i64 0] (n := 2) rfl
  obtain ⟨H2, m2, r2, k2', q2⟩ := row_storeN r1 (n := 2) rfl (xs := [.int .u32 0, .int .i64 1]) rfl rfl
  obtain ⟨H3, hH3⟩ : ∃ G, G = H2 := ⟨_, rfl⟩
  rw [← hH3] at m2 r2 k2' q2
  have r3' : Row H3 H.next (fldC (0, 1)) := r2
  have b0 : aBuild [.int .u32 0, .int .i64 0] [(0, 1, .int .u32 0), (1, 1, .int .i64 1)] = some (.agg [.int .u32 0, .int .i64 1]) := rfl
  have b1 : aBuild [.int .u32 0, .int .i64 0] [(0, 1, .int .u32 1), (1, 1, .int .i64 2)] = some (fldV (1, 2)) := rfl
  have E3 : Ext H.next H H3 := ⟨by omega, fun c hc => by rw [q2 c (by omega), q1 c (by omega)]⟩
  have P3 := P.ext E3
  have ld : oLoad true 2 H3 (cellR H.next 2 0) = some (fldV (0, 1)) := row_loadN r3' (n := 2) rfl
  simp only [c28, restB] at hrest
  simp only [c28, restB, sC, sA, Int.reduceNegSucc, reduceCtorEq, Nat.reduceEqDiff, ↓reduceIte, Nat.reduceAdd, Int.reduceEq, Int.reduceLT, Int.reduceLE, Nat.reduceLT, b0, m1, m2, fldA, fld0]
  refine (prune_spec P3.row (by omega)).mono ?_
  rintro w _ rfl
  have e5 : Ext H3.next H3 (H3.push (.cells (flds [(0, 1), (1, 2)]) 0 false)) := (Ext.refl _ _).push (Nat.le_refl _) _
  have P4 := P3.mark h6 e5.next fun c hc _ => e5.old c hc
  have F4 : FM (upT τ H3 (H3.push (.cells (flds [(0, 1), (1, 2)]) 0 false)) 6) (H3.push (.cells (flds [(0, 1), (1, 2)]) 0 false)) (.slice (some ⟨H3.next, 4, 0⟩) 2 (.known 2)) [(0, 1), (1, 2)] := ⟨LinM.built (m := 2) (k := 2) H3 (xs := flds [(0, 1), (1, 2)]) rfl, blk_some (upT_new (Nat.le_refl _) (by rw [push_next]; exact Nat.lt_succ_self _))⟩
  have l5 : oLoad false 1 (H3.push (.cells (flds [(0, 1), (1, 2)]) 0 false)) (cellR ow 9 5) = some (.int .i64 (sent : Int)) := row_load P4.row rfl rfl
  simp only [sA, Int.reduceNegSucc, reduceCtorEq, Nat.reduceEqDiff, ↓reduceIte, Nat.reduceAdd, Int.reduceEq, Int.reduceLT, Int.reduceLE, Nat.reduceLT, ld, b1, buildF2, nil_cell, fldA, fld0, l5]
  obtain ⟨Hs, hHs⟩ : ∃ G, G = H3.push (.cells (flds [(0, 1), (1, 2)]) 0 false) := ⟨_, rfl⟩
  have ks : Hs.next = H3.next + 1 := by rw [hHs]; rfl
  obtain ⟨τs, hτs⟩ : ∃ t, t = upT τ H3 Hs 6 := ⟨_, rfl⟩
  rw [← hHs] at e5 P4 F4 l5 ⊢
  rw [← hτs] at P4 F4
  have hs6 : ∀ c, c < n0 → τs c ≠ 6 := fun c hc => by rw [hτs, upT_old (by omega)]; exact h6 c hc
  have fs0 : ∀ c, c < H3.next → τs c = τ c := fun c hc => by rw [hτs, upT_old hc]
  have tz0 := P.tz H.next (Nat.le_refl _)
  refine aw_loop (fun q (T : Env) H' => ∃ (i K : Nat) (τ' : Nat → Nat) (acc : List Tok), (K ≤ i ∧ (K = 0 ∨ K + 3 ≤ b.length)) ∧ sent ≤ i ∧ i ≤ to ∧ to - i ≤ q ∧ acc ++ toksF b to q i = toks b sent to ∧ acc.length + q ≤ 4096 ∧ T 0 = cellR ow 9 0 ∧ T 1 = .int .i64 (to : Int) ∧ T 6 = cellR H.next 2 0 ∧ T 8 = .int .i64 (i : Int) ∧ PW sent n0 τ' H' ow mb out kept b K ∧ FM τ' H' (T 7) ([(0, 1), (1, 2)] ++ acc.flatMap tokFl) ∧ Row H' H.next (fldC (0, 1)) ∧ τ' H.next = 0 ∧ H.next < H'.next ∧ (∀ c, c < n0 → τ' c ≠ 6) ∧ (∀ c, c < H.next → τ' c = τ c ∧ (c ≠ mb → c ≠ ow → τ c < 100 → τ c ≠ 6 → H'.get c = H.get c))) (to - sent)
    ⟨sent, K0, τs, [], ⟨hK0, hKB⟩, Nat.le_refl _, hst, Nat.le_refl _, rfl, by simp only [List.length_nil]; omega, by simp only [sA, Int.reduceNegSucc, reduceCtorEq, Nat.reduceEqDiff, ↓reduceIte, Nat.reduceAdd, Int.reduceEq, Int.reduceLT, Int.reduceLE, Nat.reduceLT]; try rfl, by simp only [sA, Int.reduceNegSucc, reduceCtorEq, Nat.reduceEqDiff, ↓reduceIte, Nat.reduceAdd, Int.reduceEq, Int.reduceLT, Int.reduceLE, Nat.reduceLT]; try rfl, by simp only [sA, Int.reduceNegSucc, reduceCtorEq, Nat.reduceEqDiff, ↓reduceIte, Nat.reduceAdd, Int.reduceEq, Int.reduceLT, Int.reduceLE, Nat.reduceLT]; try rfl, by simp only [sA, Int.reduceNegSucc, reduceCtorEq, Nat.reduceEqDiff, ↓reduceIte, Nat.reduceAdd, Int.reduceEq, Int.reduceLT, Int.reduceLE, Nat.reduceLT]; try rfl, P4, by simp only [sA, Int.reduceNegSucc, reduceCtorEq, Nat.reduceEqDiff, ↓reduceIte, Nat.reduceAdd, Int.reduceEq, Int.reduceLT, Int.reduceLE, Nat.reduceLT]; exact F4, r3'.same (e5.old _ (by omega)), by rw [fs0 _ (by omega)]; exact tz0, by omega, hs6, fun c hc => ⟨fs0 c (by omega), fun _ _ _ _ => by rw [e5.old c (by omega)]; exact E3.old c hc⟩⟩ ?_
  rintro q T H' ⟨i, K, τ', acc, hKi, hsi, hib, hq, htk, hal, g0, g1, g6, g8, P', F', R', tq, hn', h6', fr⟩
  by_cases hlt : i < to
  · have hlt' : (i : Int) < (to : Int) := by omega
    obtain ⟨q, rfl⟩ : ∃ n, q = n + 1 := ⟨q - 1, by omega⟩
    have hfl := tokFls_len acc
    simp only [sA, Int.reduceNegSucc, reduceCtorEq, Nat.reduceEqDiff, ↓reduceIte, Nat.reduceAdd, Int.reduceEq, Int.reduceLT, Int.reduceLE, Nat.reduceLT, g0, g1, g6, g8, hlt']
    refine (block_step P' F' h6' hKi.1 hlt hto hb).mono ?_
    rintro _ H4 ⟨rfl, τ4, K4, hK4, P4, F4, h64, fm⟩
    have n4 := fm.1
    have o4 := P4.mbn
    have fr4 : ∀ c, c < H.next → τ4 c = τ c ∧ (c ≠ mb → c ≠ ow → τ c < 100 → τ c ≠ 6 → H4.get c = H.get c) := fun c hc => by
      obtain ⟨e1, e2⟩ := fr c hc
      obtain ⟨e3, e4⟩ := fm.2 c (by omega)
      exact ⟨e3.trans e1, fun a1 a2 a3 a4 => (e4 a1 a2 (by rw [e1]; exact a3)).trans (e2 a1 a2 a3 a4)⟩
    have R4 : Row H4 H.next (fldC (0, 1)) := R'.same ((fm.2 _ hn').2 (by omega) (by omega) (by rw [tq]; omega))
    have tq4 : τ4 H.next = 0 := (fm.2 _ hn').1.trans tq
    rcases tok_at (b := b) (to := to) (f := q) hlt hto with ⟨h3, et⟩ | ⟨h3, et⟩
    · obtain ⟨x1, x2, x3, x4⟩ := matchG_ok hlt hto hb h3
      generalize matchG b i to = mg at *
      have h3' : (3 : Int) ≤ (mg.1 : Int) := by omega
      simp only [sA, Int.reduceNegSucc, reduceCtorEq, Nat.reduceEqDiff, ↓reduceIte, Nat.reduceAdd, Int.reduceEq, Int.reduceLT, Int.reduceLE, Nat.reduceLT, g0, g1, g6, g8, ext_0, ext_1, h3']
      refine (matched_spec mg.1 mg.2 F4.1 (by simp only [List.length_append, List.length_cons, List.length_nil]; omega) h3 x1 x2 (by omega)).mono ?_
      rintro w H5 ⟨k5, s5⟩
      obtain ⟨F5, e5⟩ := F4.stp k5 s5
      have P5 := P4.mark h64 s5.1 e5
      have n5 := s5.1
      have ef : [(0, 1), (1, 2)] ++ List.flatMap tokFl acc ++ (lenFl mg.1 ++ disFl mg.2) = [(0, 1), (1, 2)] ++ (acc ++ [(⟨mg.1, mg.2, 0⟩ : Tok)]).flatMap tokFl := by
        simp only [List.flatMap_append, List.flatMap_cons, List.flatMap_nil, List.append_nil, List.append_assoc, tokFl]
        rw [if_neg (by omega)]
      rw [ef] at F5; simp only [List.cons_append, List.nil_append] at F5
      simp only [sA, Int.reduceNegSucc, reduceCtorEq, Nat.reduceEqDiff, ↓reduceIte, Nat.reduceAdd, Int.reduceEq, Int.reduceLT, Int.reduceLE, Nat.reduceLT, g0, g1, g6, g8, wrapN i mg.1 (by omega)]
      exact ⟨q, Nat.lt_succ_self _, i + mg.1, K4, _, acc ++ [⟨mg.1, mg.2, 0⟩], by omega, by omega, by omega, by omega, by rw [← htk, et]; simp, by simp; omega, (by first | with_reducible rfl | trivial | rfl | assumption), (by first | with_reducible rfl | trivial | rfl | assumption), (by first | with_reducible rfl | trivial | rfl | assumption), (by first | with_reducible rfl | trivial | rfl | assumption), P5, F5, R4.same (e5 _ (by omega) (by rw [tq4]; omega)), by rw [upT_old (by omega)]; exact tq4, by omega, fun c hc => by rw [upT_old (by omega)]; exact h64 c hc, fun c hc => ⟨by rw [upT_old (by omega)]; exact (fr4 c hc).1, fun a1 a2 a3 a4 => by rw [e5 c (by omega) (by rw [(fr4 c hc).1]; exact a4)]; exact (fr4 c hc).2 a1 a2 a3 a4⟩⟩
    · generalize matchG b i to = mg at *
      have h3' : ¬ (3 : Int) ≤ (mg.1 : Int) := by omega
      have l3 : oLoad false 1 H4 (cellR ow 9 3) = some kept := row_load P4.row rfl rfl
      have l4 : oLoad false 1 H4 (cellR ow 9 4) = some (.int .i64 0) := row_load P4.row rfl rfl
      have e0 : (i : Int) - 0 = (i : Int) := by omega
      have wi : IntKind.i64.wrap (i : Int) = (i : Int) := wrap64 (by omega) (by omega)
      obtain ⟨c, hc⟩ : ∃ c, b[i]? = some c := ⟨_, List.getElem?_eq_getElem (by omega)⟩
      have ck : Cel H4.next H4 kept (byts b) := P4.kp.cel1 P4.kp.blk'
      have ix := ck.idx .i64 (i := i) (by rw [byts_len]; omega)
      have lx := ck.load (byts_get hc)
      have cv := c.toNat_lt
      have egd : b.getD i 0 = c := by rw [List.getD_eq_getElem?_getD, hc]; rfl
      have wc : IntKind.i64.wrap (c.toNat : Int) = (c.toNat : Int) := wrap64 (by omega) (by omega)
      simp only [sA, Int.reduceNegSucc, reduceCtorEq, Nat.reduceEqDiff, ↓reduceIte, Nat.reduceAdd, Int.reduceEq, Int.reduceLT, Int.reduceLE, Nat.reduceLT, g0, g1, g6, g8, ext_0, ext_1, h3', nil_cell, fldA, fld0, l3, l4, e0, wi, ix, lx, conv_in, wc]
      refine (symbol_spec H4 c.toNat (by omega)).mono ?_
      rintro _ H5 ⟨rfl, E5⟩
      have P5 := P4.ext E5
      have F5 : FM τ4 H5 (T 7) _ := ⟨F4.1.ext E5, F4.2⟩
      have n5 := E5.next
      obtain ⟨w, H6, m6, k6, s6⟩ := FL.add F5.1 [symF c.toNat] (by simp only [List.length_append, List.length_cons, List.length_nil]; omega)
      obtain ⟨F6, e6⟩ := F5.stp k6 s6
      have P6 := P5.mark h64 s6.1 e6
      have n6 := s6.1
      have m6' : aAppend 2 16 (H5.push (.cells (fldC (symF c.toNat)) 0 false)) (T 7) (.slice (some ⟨H5.next, 2, 0⟩) 1 (.known 1)) = some (w, H6) := by simpa [flds] using m6
      have ef : [(0, 1), (1, 2)] ++ List.flatMap tokFl acc ++ [symF c.toNat] = [(0, 1), (1, 2)] ++ (acc ++ [(⟨0, 0, b.getD i 0⟩ : Tok)]).flatMap tokFl := by
        simp only [List.flatMap_append, List.flatMap_cons, List.flatMap_nil, List.append_nil, List.append_assoc, tokFl, if_true, egd]
      rw [ef] at F6; simp only [List.cons_append, List.nil_append] at F6
      simp only [sA, Int.reduceNegSucc, reduceCtorEq, Nat.reduceEqDiff, ↓reduceIte, Nat.reduceAdd, Int.reduceEq, Int.reduceLT, Int.reduceLE, Nat.reduceLT, g0, g1, g6, g8, buildF1, m6', wrap1 i (by omega)]
      exact ⟨q, Nat.lt_succ_self _, i + 1, K4, _, acc ++ [⟨0, 0, b.getD i 0⟩], by omega, by omega, by omega, by omega, by rw [← htk, et]; simp, by simp; omega, (by first | with_reducible rfl | trivial | rfl | assumption), (by first | with_reducible rfl | trivial | rfl | assumption), (by first | with_reducible rfl | trivial | rfl | assumption), (by first | with_reducible rfl | trivial | rfl | assumption), P6, F6, R4.same (by rw [e6 _ (by omega) (by rw [tq4]; omega)]; exact E5.old _ (by omega)), by rw [upT_old (by omega)]; exact tq4, by omega, fun c hc => by rw [upT_old (by omega)]; exact h64 c hc, fun c hc => ⟨by rw [upT_old (by omega)]; exact (fr4 c hc).1, fun a1 a2 a3 a4 => by rw [e6 c (by omega) (by rw [(fr4 c hc).1]; exact a4), E5.old c (by omega)]; exact (fr4 c hc).2 a1 a2 a3 a4⟩⟩
  · have hlt' : ¬ (i : Int) < (to : Int) := by omega
    simp only [sA, Int.reduceNegSucc, reduceCtorEq, Nat.reduceEqDiff, ↓reduceIte, Nat.reduceAdd, Int.reduceEq, Int.reduceLT, Int.reduceLE, Nat.reduceLT, g0, g1, g6, g8, hlt']
    rw [toksF_end hlt, List.append_nil] at htk
    subst htk
    exact hrest _ _ τ' K H.next (by simp only [sA, Int.reduceNegSucc, reduceCtorEq, Nat.reduceEqDiff, ↓reduceIte, Nat.reduceAdd, Int.reduceEq, Int.reduceLT, Int.reduceLE, Nat.reduceLT, g0]) (by simp only [sA, Int.reduceNegSucc, reduceCtorEq, Nat.reduceEqDiff, ↓reduceIte, Nat.reduceAdd, Int.reduceEq, Int.reduceLT, Int.reduceLE, Nat.reduceLT, g1]) (by simp only [sA, Int.reduceNegSucc, reduceCtorEq, Nat.reduceEqDiff, ↓reduceIte, Nat.reduceAdd, Int.reduceEq, Int.reduceLT, Int.reduceLE, Nat.reduceLT, g6]) P' (by omega) (by simp only [sA, Int.reduceNegSucc, reduceCtorEq, Nat.reduceEqDiff, ↓reduceIte, Nat.reduceAdd, Int.reduceEq, Int.reduceLT, Int.reduceLE, Nat.reduceLT]; exact F') R' tq o3 hn' h6' fr (by omega)
end Go.Proofs.Zi
namespace Go.Proofs.Zi
open Go.Abs Go.Abs.S
set_option linter.unusedSimpArgs false
variable {sent : Nat}
theorem flds_at {fs : List (Nat × Nat)} {i : Nat} {f : Nat × Nat} (h : fs[i]? = some f) : ((flds fs).drop (i * 2)).take 2 = fldC f := by
  induction fs generalizing i with
  | nil => simp at h
  | cons g r ih =>
    cases i with
    | zero => simp at h; subst h; simp [flds, fldC]
    | succ i =>
      have := ih (by simpa using h)
      have e : (i + 1) * 2 = i * 2 + 2 := by omega
      rw [e]
      simpa [flds, fldC] using this
theorem FL.at {H : AHeap} {v : AVal} {fs : List (Nat × Nat)} (h : FL H v fs) {i : Nat} {f : Nat × Nat} (hf : fs[i]? = some f) : ∃ a, aIdxA 2 v (.int .i64 (i : Int)) = some a ∧ oLoad true 2 H a = some (.agg (fldC f)) := by
  obtain ⟨b, lim, h1, h2, _⟩ := LinM.at h (i := i) (List.getElem?_eq_some_iff.1 hf).1
  exact ⟨_, h1, by rw [h2, flds_at hf]⟩
theorem fldOk_lt {f : Nat × Nat} (h : fldOk f = true) : f.1 < 2 ^ f.2 ∧ f.2 ≤ 16 := by
  simp only [fldOk, Bool.and_eq_true, Nat.blt_eq, Nat.ble_eq] at h
  exact ⟨of_decide_eq_true (by simpa [Nat.blt] using h.1), h.2⟩
theorem fldBits_snoc (fs : List (Nat × Nat)) (f : Nat × Nat) : fldBits (fs ++ [f]) = fldBits fs ++ bitsN f.1 f.2 := by simp [fldBits]
theorem wideF_le {fs : List (Nat × Nat)} (h : ∀ f ∈ fs, fldOk f = true) : wideF fs ≤ 16 * fs.length := by
  induction fs with
  | nil => simp [wideF]
  | cons f r ih =>
    have h1 := (fldOk_lt (h f (by simp))).2
    have h2 := ih fun g hg => h g (by simp [hg])
    simp only [wideF, List.map_cons, List.sum_cons, List.length_cons] at h2 ⊢; omega
def kB (k : Nat) : Prop := k = 1 ∨ k = 2 ∨ k = 4 ∨ k = 6
structure BR (sent ln : Nat) (τ : Nat → Nat) (H : AHeap) (ow o K q : Nat) (mv kept : AVal) (b : Bs) : Prop where
  row : Row H ow (dC sent (cellR o 3 0) kept K mv)
  tow : τ ow = 1
  own : ow < H.next
  kp : AppN 1 0 H kept (byts b) b.length
  kb : Blk kept (τ · = 5)
  fst : Row H q (fldC (ln, 1))
  tq : τ q = 0
  qn : q < H.next
theorem BR.fr {ln : Nat} {S : Nat → Prop} {τ τ' : Nat → Nat} {H H' : AHeap} {ow o K q : Nat} {mv kept : AVal} {b : Bs} (B : BR sent ln τ H ow o K q mv kept b) (f : FrS S τ H τ' H') (h0 : ¬ S 0) (h1 : ¬ S 1) (h5 : ¬ S 5) : BR sent ln τ' H' ow o K q mv kept b :=
  have hk : Blk kept fun c => c < H.next ∧ τ c = 5 := B.kp.blk'.and B.kb
  ⟨B.row.same ((f.2 _ B.own).2 (by rw [B.tow]; exact h1)), (f.2 _ B.own).1.trans B.tow, Nat.lt_of_lt_of_le B.own f.1, B.kp.same f.1 (hk.mono fun c hc => (f.2 c hc.1).2 (by rw [hc.2]; exact h5)), hk.mono fun c hc => (f.2 c hc.1).1.trans hc.2, B.fst.same ((f.2 _ B.qn).2 (by rw [B.tq]; exact h0)), (f.2 _ B.qn).1.trans B.tq, Nat.lt_of_lt_of_le B.qn f.1⟩
theorem FM.fr {S : Nat → Prop} {τ τ' : Nat → Nat} {H H' : AHeap} {v : AVal} {fs : List (Nat × Nat)} (h : FM τ H v fs) (f : FrS S τ H τ' H') (h6 : ¬ S 6) : FM τ' H' v fs :=
  have hb : Blk v fun c => c < H.next ∧ τ c = 6 := (LinM.blk h.1).and h.2
  ⟨LinM.same h.1 f.1 (hb.mono fun c hc => (f.2 c hc.1).2 (by rw [hc.2]; exact h6)), hb.mono fun c hc => (f.2 c hc.1).1.trans hc.2⟩
theorem OW.ext' {τ : Nat → Nat} {H H' : AHeap} {o : Nat} {M : List Bool} {pl : Nat} (h : OW H.next τ H o M pl) (e : Ext H.next H H') : OW H'.next τ H' o M pl := (OW.ext h e.next fun c hc => e.old c hc).more e.next (Nat.le_refl _)
theorem OW.tz {n : Nat} {τ : Nat → Nat} {H : AHeap} {o : Nat} {M : List Bool} {pl : Nat} (h : OW n τ H o M pl) : ∀ c, n ≤ c → τ c = 0 := by
  obtain ⟨vb, h1, h2, h3, h4, h5, h6, h7, h8⟩ := h
  exact h5
def restC : List Nat := [1, 1, 1, 1, 1, 1, 1, 1, 1, 1]
theorem put_loop {to ln : Nat} {τ : Nat → Nat} {H : AHeap} {T : Env} {Q : AVal → AHeap → Prop} {ow o K q : Nat} {mv kept : AVal} {b : Bs} {fs : List (Nat × Nat)} {M : List Bool} {pl : Nat} (g0 : T 0 = cellR ow 9 0) (g1 : T 1 = .int .i64 (to : Int)) (B : BR sent ln τ H ow o K q mv kept b) (W : OW H.next τ H o M pl) (F : FM τ H (T 7) fs)
    (hf : ∀ f ∈ fs, fldOk f = true) (hl : fs.length ≤ 20000) (hpl : pl ≤ 1000000) (hM : M.length ≤ 1000000) (hto : to ≤ 20000)
    (hQ : ∀ w H2 τ2, OW H2.next τ2 H2 o (M ++ fldBits fs) (pl + wideF fs) → Row H2 ow (dC to (cellR o 3 0) kept K mv) → τ2 ow = 1 → ow < H2.next → FrS (kB) τ H τ2 H2 → Q w H2) :
    wp (ACalls Try.prog natI) (hold (restP restC c28.body)) (fin c28.res Q) T H := by
  have hlen : aLenK false (T 7) = some (.int .i64 (fs.length : Int)) := LinM.len F.1
  obtain ⟨fv, hfv⟩ : ∃ fv, fv = T 7 := ⟨_, rfl⟩
  rw [← hfv] at hlen F
  simp only [c28, restP, restC, hold_eq, sA, Int.reduceNegSucc, reduceCtorEq, Nat.reduceEqDiff, ↓reduceIte, Nat.reduceAdd, Int.reduceEq, Int.reduceLT, Int.reduceLE, Nat.reduceLT, g0, g1, ← hfv, hlen]
  refine aw_loop (fun m (T : Env) H' => ∃ (i : Nat) (τ' : Nat → Nat), i ≤ fs.length ∧ m = fs.length - i ∧ T 0 = cellR ow 9 0 ∧ T 1 = .int .i64 (to : Int) ∧ T 174 = fv ∧ T 175 = .int .i64 (fs.length : Int) ∧ T 176 = .int .i64 (i : Int) ∧ BR sent ln τ' H' ow o K q mv kept b ∧ FM τ' H' fv fs ∧ OW H'.next τ' H' o (M ++ fldBits (fs.take i)) (pl + wideF (fs.take i)) ∧ FrS (kB) τ H τ' H') fs.length
    ⟨0, τ, Nat.zero_le _, rfl, by simp only [sA, Int.reduceNegSucc, reduceCtorEq, Nat.reduceEqDiff, ↓reduceIte, Nat.reduceAdd, Int.reduceEq, Int.reduceLT, Int.reduceLE, Nat.reduceLT, g0], by simp only [sA, Int.reduceNegSucc, reduceCtorEq, Nat.reduceEqDiff, ↓reduceIte, Nat.reduceAdd, Int.reduceEq, Int.reduceLT, Int.reduceLE, Nat.reduceLT, g1], by simp only [sA, Int.reduceNegSucc, reduceCtorEq, Nat.reduceEqDiff, ↓reduceIte, Nat.reduceAdd, Int.reduceEq, Int.reduceLT, Int.reduceLE, Nat.reduceLT], by simp only [sA, Int.reduceNegSucc, reduceCtorEq, Nat.reduceEqDiff, ↓reduceIte, Nat.reduceAdd, Int.reduceEq, Int.reduceLT, Int.reduceLE, Nat.reduceLT]; try rfl, by simp only [sA, Int.reduceNegSucc, reduceCtorEq, Nat.reduceEqDiff, ↓reduceIte, Nat.reduceAdd, Int.reduceEq, Int.reduceLT, Int.reduceLE, Nat.reduceLT]; try rfl, B, F, by simpa [fldBits, wideF] using W, FrS.refl _ _ _⟩ ?_
  rintro m T H' ⟨i, τ', hi, rfl, k0, k1, k74, k75, k76, B', F', W', fr⟩
  have hwl : wideF (fs.take i) ≤ 16 * fs.length := by
    have := wideF_le (fs := fs.take i) fun f hf' => hf f (List.mem_of_mem_take hf')
    rw [List.length_take] at this; omega
  have hbl : (fldBits (fs.take i)).length ≤ 12000000 := by rw [← wideF_bits]; omega
  by_cases hlt : i < fs.length
  · have hlt' : (i : Int) < (fs.length : Int) := by omega
    obtain ⟨f, hfi⟩ : ∃ f, fs[i]? = some f := ⟨_, List.getElem?_eq_getElem hlt⟩
    obtain ⟨a, ma, la⟩ := FL.at F'.1 hfi
    obtain ⟨hf1, hf2⟩ := fldOk_lt (hf f (List.mem_of_getElem? hfi))
    obtain ⟨H1, m1, r1, k1', q1⟩ := row_newL H' [.int .u32 0, .int .i64 0] (n := 2) rfl
    obtain ⟨H2, m2, r2, k2', q2⟩ := row_storeN r1 (n := 2) rfl (xs := fldC f) rfl rfl
    have E : Ext H'.next H' H2 := ⟨by omega, fun c hc => by rw [q2 c (by omega), q1 c (by omega)]⟩
    have B2 := B'.fr (FrS.of_ext (S := fun _ => False) E) (by simp) (by simp) (by simp)
    have F2 := F'.fr (FrS.of_ext (S := fun _ => False) E) (by simp)
    have W2 := W'.ext' E
    have l2 : oLoad false 1 H2 (cellR ow 9 2) = some (cellR o 3 0) := row_load B2.row rfl rfl
    have lf0 : oLoad false 1 H2 (cellR H'.next 2 0) = some (.int .u32 (f.1 : Int)) := row_load r2 rfl rfl
    have lf1 : oLoad false 1 H2 (cellR H'.next 2 1) = some (.int .i64 (f.2 : Int)) := row_load r2 rfl rfl
    simp only [sA, Int.reduceNegSucc, reduceCtorEq, Nat.reduceEqDiff, ↓reduceIte, Nat.reduceAdd, Int.reduceEq, Int.reduceLT, Int.reduceLE, Nat.reduceLT, k0, k1, k74, k75, k76, hlt', ma, la, m1, m2, nil_cell, fldA, fld0, l2, lf0, lf1]
    refine (put_spec W2 f.1 f.2 (by omega) hf1 (by omega) (by rw [List.length_append]; omega)).mono ?_
    rintro _ H3 ⟨rfl, τ3, W3, fr3⟩
    have ns : ∀ k, k2 k → kB k := fun k hk => by unfold kB; unfold k2 at hk; omega
    have n1 : ¬ k2 1 := by unfold k2; omega
    have n5 : ¬ k2 5 := by unfold k2; omega
    have n6 : ¬ k2 6 := by unfold k2; omega
    have n0 : ¬ k2 0 := by unfold k2; omega
    simp only [sA, Int.reduceNegSucc, reduceCtorEq, Nat.reduceEqDiff, ↓reduceIte, Nat.reduceAdd, Int.reduceEq, Int.reduceLT, Int.reduceLE, Nat.reduceLT, k0, k1, k74, k75, k76, wrap1 i (by omega)]
    refine ⟨_, by omega, i + 1, τ3, by omega, rfl, (by first | with_reducible rfl | trivial | rfl | assumption), (by first | with_reducible rfl | trivial | rfl | assumption), (by first | with_reducible rfl | trivial | rfl | assumption), (by first | with_reducible rfl | trivial | rfl | assumption), (by first | with_reducible rfl | trivial | rfl | assumption), B2.fr fr3 n0 n1 n5, F2.fr fr3 n6, ?_, fr.trans ((FrS.of_ext E).trans (fr3.wide ns))⟩
    rw [take_snoc hfi, fldBits_snoc, wideF_bits, fldBits_snoc, ← List.append_assoc, List.length_append, bitsN_len, ← wideF_bits, ← Nat.add_assoc]
    exact W3
  · have hlt' : ¬ (i : Int) < (fs.length : Int) := by omega
    obtain rfl : i = fs.length := by omega
    rw [List.take_length] at W'
    obtain ⟨H3, m3, r3, k3, q3⟩ := row_st B'.row (n := 9) rfl (i := 5) (by omega) (x := .int .i64 (to : Int)) rfl (l' := dC to (cellR o 3 0) kept K mv) rfl
    simp only [sA, Int.reduceNegSucc, reduceCtorEq, Nat.reduceEqDiff, ↓reduceIte, Nat.reduceAdd, Int.reduceEq, Int.reduceLT, Int.reduceLE, Nat.reduceLT, k0, k1, k74, k75, k76, hlt', nil_cell, fldA, fld0, m3]
    have hB := B'.own
    have fz : FrS (fun k => k = 1) τ' H' τ' H3 := ⟨by omega, fun c hc => ⟨rfl, fun h => q3 c (by rintro rfl; exact h B'.tow)⟩⟩
    have W3 : OW H3.next τ' H3 o (M ++ fldBits fs) (pl + wideF fs) := by
      rw [k3]
      exact W'.fr (Nat.le_refl _) (by omega) (by omega) W'.tz (fun _ _ _ => rfl) fun c hc hk => q3 c (by rintro rfl; rw [B'.tow] at hk; unfold k2 at hk; omega)
    simp only [fin, wRes, OptP_some]
    exact hQ _ _ τ' W3 r3 B'.tow (by omega) (fr.trans (fz.wide fun k hk => .inl hk))
end Go.Proofs.Zi
namespace Go.Proofs.Zi
open Go.Abs Go.Abs.S
set_option linter.unusedSimpArgs false
variable {sent : Nat}
theorem xor_16 {a : Nat} (h : a < 65536) : a ^^^ 65535 = 65535 - a := by
  apply Nat.eq_of_testBit_eq
  intro i
  rw [Nat.testBit_xor, show (65535 : Nat) = 2 ^ 16 - 1 from rfl, Nat.testBit_two_pow_sub_one, show 2 ^ 16 - 1 - a = 2 ^ 16 - (a + 1) by omega, Nat.testBit_two_pow_sub_succ (by omega)]
  by_cases hi : i < 16
  · simp [hi]
  · have : a.testBit i = false := Nat.testBit_lt_two_pow (Nat.lt_of_lt_of_le h (by have := Nat.pow_le_pow_right (n := 2) (by omega) (show 16 ≤ i by omega); omega))
    simp [hi, this]
theorem OW.frS {S : Nat → Prop} {τ τ' : Nat → Nat} {H H' : AHeap} {o : Nat} {M : List Bool} {pl : Nat} (h : OW H.next τ H o M pl) (f : FrS S τ H τ' H') (h2 : ¬ S 2) (h4 : ¬ S 4) (tz : ∀ c, H'.next ≤ c → τ' c = 0) : OW H'.next τ' H' o M pl :=
  h.fr f.1 (Nat.le_refl _) f.1 tz (fun c hc _ => (f.2 c hc).1) fun c hc hk => (f.2 c hc).2 (by rcases hk with e | e <;> rw [e] <;> assumption)
theorem FM.stpS {τ : Nat → Nat} {H H' : AHeap} {v w : AVal} {fs gs : List (Nat × Nat)} (h : FM τ H v fs) (k : FL H' w gs) (s : Stp v H w H') : FM (upT τ H H' 6) H' w gs ∧ FrS (· = 6) τ H (upT τ H H' 6) H' := by
  obtain ⟨a, e⟩ := h.stp k s
  exact ⟨a, s.1, fun c hc => ⟨upT_old hc, fun h6 => e c hc h6⟩⟩
theorem fldV_one (x : Nat) : aBuild [.int .u32 0, .int .i64 0] [(0, 1, .int .u32 (x : Int)), (1, 1, .int .i64 8)] = some (fldV (x, 8)) := rfl
def byFl (b : Bs) : List (Nat × Nat) := b.map fun x => (x.toNat, 8)
theorem byFl_bits (b : Bs) : fldBits (byFl b) = b.flatMap fun x => bitsN x.toNat 8 := by simp [fldBits, byFl, List.flatMap_map]
theorem byFl_ok (b : Bs) : ∀ f ∈ byFl b, fldOk f = true := by
  intro f hf
  simp only [byFl, List.mem_map] at hf
  obtain ⟨x, _, rfl⟩ := hf
  have := x.toNat_lt
  simp only [fldOk, Bool.and_eq_true, Nat.blt_eq, Nat.ble_eq]
  exact ⟨by simpa using this, by omega⟩
def segB (b : Bs) (sent to : Nat) : Bs := (b.drop sent).take (to - sent)
theorem segB_len {b : Bs} {to : Nat} (h1 : sent ≤ to) (h2 : to ≤ b.length) : (segB b sent to).length = to - sent := by
  simp only [segB, List.length_take, List.length_drop]; omega
theorem segB_byts (b : Bs) (to : Nat) : ((byts b).drop sent).take (to - sent) = byts (segB b sent to) := by
  simp only [segB, byts, List.map_take, List.map_drop]
def stoH (ln m n : Nat) : List Bool := bitsN ln 1 ++ bitsN 0 2 ++ List.replicate (fillN (m + 3)) false ++ bitsN n 16 ++ bitsN (65535 - n) 16
def restD : List Nat := [1, 1, 1, 1, 1, 1, 1, 1, 1, 0, 1, 1, 4]
theorem stored_branch {to ln : Nat} {M : List Bool} {pl : Nat} {τ : Nat → Nat} {H : AHeap} {T : Env} {Q' : Post} {ow o K q : Nat} {mv kept : AVal} {b : Bs} {fs : List (Nat × Nat)} (hln : ln ≤ 1) (hst : sent ≤ to) (hto : to ≤ b.length) (hlong : to - sent ≤ 4096) (hpl : pl ≤ 1000000) (hMl : M.length ≤ 1000000) (g0 : T 0 = cellR ow 9 0) (g1 : T 1 = .int .i64 (to : Int)) (g6 : T 6 = cellR q 2 0) (g15 : T 15 = .int .i64 ((to - sent : Nat) : Int)) (B : BR sent ln τ H ow o K q mv kept b) (W : OW H.next τ H o M pl) (F : FM τ H (T 7) fs) (hb : b.length ≤ 20000)
    (hQ : ∀ (T2 : Env) (H2 : AHeap) (τ2 : Nat → Nat), T2 0 = cellR ow 9 0 → T2 1 = .int .i64 (to : Int) → BR sent ln τ2 H2 ow o K q mv kept b → FM τ2 H2 (T2 7) (byFl (segB b sent to)) → OW H2.next τ2 H2 o (M ++ stoH ln M.length (to - sent)) (pl + (stoH ln M.length (to - sent)).length) → FrS kB τ H τ2 H2 → Q' .normal T2 H2) :
    wp (ACalls Try.prog natI) (restP restD c28.body) Q' T H := by
  have ns : ∀ k, k2 k → kB k := fun k hk => by unfold kB; unfold k2 at hk; omega
  obtain ⟨n, hn⟩ : ∃ n, n = to - sent := ⟨_, rfl⟩
  have hsl := segB_len hst hto
  rw [← hn] at g15 hlong hsl hQ
  have n1 : ¬ k2 1 := by unfold k2; omega
  have n5 : ¬ k2 5 := by unfold k2; omega
  have n6 : ¬ k2 6 := by unfold k2; omega
  have n0 : ¬ k2 0 := by unfold k2; omega
  have l2 : oLoad false 1 H (cellR ow 9 2) = some (cellR o 3 0) := row_load B.row rfl rfl
  have lq : oLoad false 1 H (cellR q 2 0) = some (.int .u32 (ln : Int)) := row_load B.fst rfl rfl
  simp only [c28, restP, restD, sA, Int.reduceNegSucc, reduceCtorEq, Nat.reduceEqDiff, ↓reduceIte, Nat.reduceAdd, Int.reduceEq, Int.reduceLT, Int.reduceLE, Nat.reduceLT, g0, g1, g6, nil_cell, fldA, fld0, l2, lq]
  refine (put_spec W ln 1 (by omega) (by omega) (by omega) (by omega)).mono ?_
  rintro _ H1 ⟨rfl, τ1, W1, f1⟩
  have B1 := B.fr f1 n0 n1 n5
  have F1 := F.fr f1 n6
  have l21 : oLoad false 1 H1 (cellR ow 9 2) = some (cellR o 3 0) := row_load B1.row rfl rfl
  simp only [sA, Int.reduceNegSucc, reduceCtorEq, Nat.reduceEqDiff, ↓reduceIte, Nat.reduceAdd, Int.reduceEq, Int.reduceLT, Int.reduceLE, Nat.reduceLT, g0, g1, g15, nil_cell, fldA, fld0, l21]
  refine (put_spec W1 0 2 (by omega) (by omega) (by omega) (by rw [List.length_append, bitsN_len]; omega)).mono ?_
  rintro _ H2 ⟨rfl, τ2, W2, f2⟩
  have B2 := B1.fr f2 n0 n1 n5
  have F2 := F1.fr f2 n6
  have l22 : oLoad false 1 H2 (cellR ow 9 2) = some (cellR o 3 0) := row_load B2.row rfl rfl
  simp only [sA, Int.reduceNegSucc, reduceCtorEq, Nat.reduceEqDiff, ↓reduceIte, Nat.reduceAdd, Int.reduceEq, Int.reduceLT, Int.reduceLE, Nat.reduceLT, g0, g1, g15, nil_cell, fldA, fld0, l22]
  refine (align_spec W2 (by omega) (by simp only [List.length_append, bitsN_len]; omega)).mono ?_
  rintro _ H3 ⟨rfl, τ3, W3, f3⟩
  have B3 := B2.fr f3 n0 n1 n5
  have F3 := F2.fr f3 n6
  have l23 : oLoad false 1 H3 (cellR ow 9 2) = some (cellR o 3 0) := row_load B3.row rfl rfl
  have eM : (M ++ bitsN ln 1 ++ bitsN 0 2 : List Bool).length = M.length + 3 := by simp only [List.length_append, bitsN_len]
  rw [eM] at W3
  have wl : IntKind.u32.wrap (n : Int) = (n : Int) := wrap_u .u32 (by simp) (by simp only [IntKind.bits]; omega)
  simp only [sA, Int.reduceNegSucc, reduceCtorEq, Nat.reduceEqDiff, ↓reduceIte, Nat.reduceAdd, Int.reduceEq, Int.reduceLT, Int.reduceLE, Nat.reduceLT, g0, g1, g15, nil_cell, fldA, fld0, l23, conv_in, wl]
  refine (put_spec W3 n 16 (by omega) (by omega) (by unfold fillN; omega) (by simp only [List.length_append, bitsN_len, List.length_replicate]; unfold fillN; omega)).mono ?_
  rintro _ H4 ⟨rfl, τ4, W4, f4⟩
  have B4 := B3.fr f4 n0 n1 n5
  have F4 := F3.fr f4 n6
  have l24 : oLoad false 1 H4 (cellR ow 9 2) = some (cellR o 3 0) := row_load B4.row rfl rfl
  have xo : aBin .xor (.int .u32 (n : Int)) (.int .u32 65535) = some (.int .u32 ((65535 - n : Nat) : Int)) := by
    have := bin_xorU .u32 (by simp) (a := n) (b := 65535) (by simp only [IntKind.bits]; omega) (by simp only [IntKind.bits]; omega)
    rw [xor_16 (by omega)] at this
    exact this
  simp only [sA, Int.reduceNegSucc, reduceCtorEq, Nat.reduceEqDiff, ↓reduceIte, Nat.reduceAdd, Int.reduceEq, Int.reduceLT, Int.reduceLE, Nat.reduceLT, g0, g1, g15, nil_cell, fldA, fld0, l24, conv_in, wl, xo]
  refine (put_spec W4 (65535 - n) 16 (by omega) (by omega) (by unfold fillN; omega) (by simp only [List.length_append, bitsN_len, List.length_replicate]; unfold fillN; omega)).mono ?_
  rintro _ H5 ⟨rfl, τ5, W5, f5⟩
  have B5 := B4.fr f5 n0 n1 n5
  have F5 := F4.fr f5 n6
  have fA : FrS kB τ H τ5 H5 := (f1.trans (f2.trans (f3.trans (f4.trans f5)))).wide ns
  clear f1 f2 f3 f4 f5 B1 B2 B3 B4 F1 F2 F3 F4 W1 W2 W3 W4
  obtain ⟨s, ms, Ls, Bs⟩ := LinM.zero F5.1 (by omega)
  have F6 : FM τ5 H5 s [] := ⟨Ls, Bs _ F5.2⟩
  obtain ⟨sk, mk, ck, bk⟩ := B5.kp.slice (lo := sent) (hi := to) hst hto
  rw [segB_byts] at ck
  have k5 := bk _ B5.kb
  have l3 : oLoad false 1 H5 (cellR ow 9 3) = some kept := row_load B5.row rfl rfl
  have l4 : oLoad false 1 H5 (cellR ow 9 4) = some (.int .i64 0) := row_load B5.row rfl rfl
  have l5 : oLoad false 1 H5 (cellR ow 9 5) = some (.int .i64 (sent : Int)) := row_load B5.row rfl rfl
  have e0 : (to : Int) - 0 = (to : Int) := by omega
  have e1 : (sent : Int) - 0 = (sent : Int) := by omega
  have wb : IntKind.i64.wrap (to : Int) = (to : Int) := wrap64 (by omega) (by omega)
  have wc : IntKind.i64.wrap (sent : Int) = (sent : Int) := wrap64 (by omega) (by omega)
  have hlen := ck.len
  rw [byts_len, hsl] at hlen
  have mk' : aSl 1 kept (some (.int .i64 (sent : Int))) (some (.int .i64 (to : Int))) none = some sk := mk
  simp only [sA, Int.reduceNegSucc, reduceCtorEq, Nat.reduceEqDiff, ↓reduceIte, Nat.reduceAdd, Int.reduceEq, Int.reduceLT, Int.reduceLE, Nat.reduceLT, g0, g1, g15, nil_cell, fldA, fld0, l3, l4, l5, ms, e0, e1, wb, wc, mk', hlen]
  have hW : M ++ bitsN ln 1 ++ bitsN 0 2 ++ List.replicate (fillN (M.length + 3)) false ++ bitsN n 16 ++ bitsN (65535 - n) 16 = M ++ stoH ln M.length n := by simp only [stoH, List.append_assoc]
  have hpl5 : pl + 1 + 2 + fillN (M.length + 3) + 16 + 16 = pl + (stoH ln M.length n).length := by simp only [stoH, List.length_append, bitsN_len, List.length_replicate]; omega
  rw [hW, hpl5] at W5
  generalize M ++ stoH ln M.length n = MM at *
  generalize pl + (stoH ln M.length n).length = pp at *
  generalize segB b sent to = sg at *
  refine aw_loop (fun m (T : Env) H' => ∃ (j : Nat) (τ' : Nat → Nat), j ≤ n ∧ m = n - j ∧ T 0 = cellR ow 9 0 ∧ T 1 = .int .i64 (to : Int) ∧ T 161 = sk ∧ T 162 = .int .i64 (n : Int) ∧ T 163 = .int .i64 (j : Int) ∧ BR sent ln τ' H' ow o K q mv kept b ∧ FM τ' H' (T 7) (byFl (sg.take j)) ∧ OW H'.next τ' H' o MM pp ∧ FrS kB τ H τ' H' ∧ Cel H'.next H' sk (byts sg) ∧ Blk sk (τ' · = 5)) n
    ⟨0, τ5, Nat.zero_le _, rfl, by simp only [sA, Int.reduceNegSucc, reduceCtorEq, Nat.reduceEqDiff, ↓reduceIte, Nat.reduceAdd, Int.reduceEq, Int.reduceLT, Int.reduceLE, Nat.reduceLT, g0], by simp only [sA, Int.reduceNegSucc, reduceCtorEq, Nat.reduceEqDiff, ↓reduceIte, Nat.reduceAdd, Int.reduceEq, Int.reduceLT, Int.reduceLE, Nat.reduceLT, g1], by simp only [sA, Int.reduceNegSucc, reduceCtorEq, Nat.reduceEqDiff, ↓reduceIte, Nat.reduceAdd, Int.reduceEq, Int.reduceLT, Int.reduceLE, Nat.reduceLT], by simp only [sA, Int.reduceNegSucc, reduceCtorEq, Nat.reduceEqDiff, ↓reduceIte, Nat.reduceAdd, Int.reduceEq, Int.reduceLT, Int.reduceLE, Nat.reduceLT]; try rfl, by simp only [sA, Int.reduceNegSucc, reduceCtorEq, Nat.reduceEqDiff, ↓reduceIte, Nat.reduceAdd, Int.reduceEq, Int.reduceLT, Int.reduceLE, Nat.reduceLT]; try rfl, B5, by simp only [sA, Int.reduceNegSucc, reduceCtorEq, Nat.reduceEqDiff, ↓reduceIte, Nat.reduceAdd, Int.reduceEq, Int.reduceLT, Int.reduceLE, Nat.reduceLT]; exact F6, W5, fA, ck, k5⟩ ?_
  rintro m T H' ⟨j, τ', hj, rfl, k0, k1, k161, k162, k163, B', F', W', fr, ck', kb'⟩
  by_cases hlt : j < n
  · have hlt' : (j : Int) < (n : Int) := by omega
    obtain ⟨x, hx⟩ : ∃ x, sg[j]? = some x := ⟨_, List.getElem?_eq_getElem (by omega)⟩
    have hidx := ck'.idx .i64 (i := j) (by rw [byts_len]; omega)
    have hld := ck'.load (byts_get hx)
    have hxl := x.toNat_lt
    have wx : IntKind.u32.wrap (x.toNat : Int) = (x.toNat : Int) := b_u32 x
    have hlb : (byFl (sg.take j)).length = j := by simp [byFl]; omega
    obtain ⟨w, H6, m6, k6, s6⟩ := FL.add F'.1 [(x.toNat, 8)] (by simp only [hlb, List.length_cons, List.length_nil]; omega)
    obtain ⟨F6, f6⟩ := F'.stpS k6 s6
    have m6' : aAppend 2 16 (H'.push (.cells (fldC (x.toNat, 8)) 0 false)) (T 7) (.slice (some ⟨H'.next, 2, 0⟩) 1 (.known 1)) = some (w, H6) := by simpa [flds] using m6
    have ef : byFl (sg.take j) ++ [(x.toNat, 8)] = byFl (sg.take (j + 1)) := by rw [take_snoc hx]; simp [byFl]
    rw [ef] at F6
    have z6 : ∀ c, H6.next ≤ c → upT τ' H' H6 6 c = 0 := fun c hc => upT_z f6.1 hc
    have hb6 : Blk sk fun c => c < H'.next ∧ τ' c = 5 := (cel_blk ck').and kb'
    simp only [sA, Int.reduceNegSucc, reduceCtorEq, Nat.reduceEqDiff, ↓reduceIte, Nat.reduceAdd, Int.reduceEq, Int.reduceLT, Int.reduceLE, Nat.reduceLT, k0, k1, k161, k162, k163, hlt', hidx, hld, conv_in, wx, fldV_one, buildF1, m6', wrap1 j (by omega)]
    exact ⟨_, by omega, j + 1, _, by omega, rfl, (by first | with_reducible rfl | trivial | rfl | assumption), (by first | with_reducible rfl | trivial | rfl | assumption), (by first | with_reducible rfl | trivial | rfl | assumption), (by first | with_reducible rfl | trivial | rfl | assumption), (by first | with_reducible rfl | trivial | rfl | assumption), B'.fr f6 (by omega) (by omega) (by omega), F6, W'.frS f6 (by omega) (by omega) z6, fr.trans (f6.wide fun k hk => .inr (.inr (.inr hk))), cel_same ck' f6.1 (hb6.mono fun c hc => (f6.2 c hc.1).2 (by omega)), hb6.mono fun c hc => by rw [(f6.2 c hc.1).1]; exact hc.2⟩
  · have hlt' : ¬ (j : Int) < (n : Int) := by omega
    have hj2 : j = sg.length := by omega
    rw [hj2, List.take_length] at F'
    simp only [sA, Int.reduceNegSucc, reduceCtorEq, Nat.reduceEqDiff, ↓reduceIte, Nat.reduceAdd, Int.reduceEq, Int.reduceLT, Int.reduceLE, Nat.reduceLT, k0, k1, k161, k162, k163, hlt']
    exact hQ _ _ τ' (by simp only [sA, Int.reduceNegSucc, reduceCtorEq, Nat.reduceEqDiff, ↓reduceIte, Nat.reduceAdd, Int.reduceEq, Int.reduceLT, Int.reduceLE, Nat.reduceLT, k0]) (by simp only [sA, Int.reduceNegSucc, reduceCtorEq, Nat.reduceEqDiff, ↓reduceIte, Nat.reduceAdd, Int.reduceEq, Int.reduceLT, Int.reduceLE, Nat.reduceLT, k1]) B' (by simp only [sA, Int.reduceNegSucc, reduceCtorEq, Nat.reduceEqDiff, ↓reduceIte, Nat.reduceAdd, Int.reduceEq, Int.reduceLT, Int.reduceLE, Nat.reduceLT]; exact F') W' fr
end Go.Proofs.Zi
namespace Go.Proofs.Zi
open Go.Abs Go.Abs.S
set_option linter.unusedSimpArgs false
variable {sent : Nat}
def blkB (ln m : Nat) (b : Bs) (sent to : Nat) : List Bool := if 3 + fillN (m + 3) + 32 + 8 * (to - sent) < wideF (blockFl ln (toks b sent to)) then stoH ln m (to - sent) ++ fldBits (byFl (segB b sent to)) else fldBits (blockFl ln (toks b sent to))
theorem OW.mod {n : Nat} {τ : Nat → Nat} {H : AHeap} {o : Nat} {M : List Bool} {pl : Nat} (h : OW n τ H o M pl) : pl % 8 = M.length % 8 := by
  obtain ⟨vb, _, _, _, _, _, _, _, h8⟩ := h
  exact h8
theorem block_rest {to ln : Nat} {M : List Bool} {pl : Nat} {τ : Nat → Nat} {H : AHeap} {T : Env} {Q : AVal → AHeap → Prop} {ow o K q : Nat} {mv kept : AVal} {b : Bs} (hln : ln ≤ 1) (hst : sent ≤ to) (hto : to ≤ b.length) (hlong : to - sent ≤ 4096) (hpl : pl ≤ 300000) (hMl : M.length ≤ 300000) (g0 : T 0 = cellR ow 9 0) (g1 : T 1 = .int .i64 (to : Int)) (g6 : T 6 = cellR q 2 0) (B : BR sent ln τ H ow o K q mv kept b) (W : OW H.next τ H o M pl) (F : FM τ H (T 7) ([(ln, 1), (1, 2)] ++ (toks b sent to).flatMap tokFl)) (hb : b.length ≤ 20000)
    (hQ : ∀ w H2 τ2, OW H2.next τ2 H2 o (M ++ blkB ln M.length b sent to) (pl + (blkB ln M.length b sent to).length) → Row H2 ow (dC to (cellR o 3 0) kept K mv) → τ2 ow = 1 → ow < H2.next → FrS kB τ H τ2 H2 → Q w H2) :
    wp (ACalls Try.prog natI) (hold (restP restB c28.body)) (fin c28.res Q) T H := by
  rw [hold_eq]
  refine wp_cutP [1, 1, 1, 1, 0, 1, 1, 4] ?_
  refine wp_cutP [1, 1, 1, 1, 1] ?_
  simp only [c28, restP, restB, sC, sA, Int.reduceNegSucc, reduceCtorEq, Nat.reduceEqDiff, ↓reduceIte, Nat.reduceAdd, Int.reduceEq, Int.reduceLT, Int.reduceLE, Nat.reduceLT, g0, g1, g6]
  refine (symbol_spec H 256 (by omega)).mono ?_
  rintro _ H1 ⟨rfl, E1⟩
  have B1 := B.fr (FrS.of_ext (S := fun _ => False) E1) (by simp) (by simp) (by simp)
  have F1 : FM τ H1 (T 7) _ := ⟨F.1.ext E1, F.2⟩
  have W1 := W.ext' E1
  have hfl := tokFls_len (toks b sent to)
  have htl : (toks b sent to).length ≤ to - sent := toks_length b to (to - sent) sent
  obtain ⟨fv, H2, m2, k2', s2⟩ := FL.add F1.1 [symF 256] (by simp only [List.length_append, List.length_cons, List.length_nil]; omega)
  obtain ⟨F2, f2⟩ := F1.stpS k2' s2
  have m2' : aAppend 2 16 (H1.push (.cells (fldC (symF 256)) 0 false)) (T 7) (.slice (some ⟨H1.next, 2, 0⟩) 1 (.known 1)) = some (fv, H2) := by simpa [flds] using m2
  have z2 : ∀ c, H2.next ≤ c → upT τ H1 H2 6 c = 0 := fun c hc => upT_z f2.1 hc
  have B2 := B1.fr f2 (by omega) (by omega) (by omega)
  have W2 := W1.frS f2 (by omega) (by omega) z2
  have fr2 : FrS kB τ H (upT τ H1 H2 6) H2 := (FrS.of_ext E1).trans (f2.wide fun k hk => .inr (.inr (.inr hk)))
  obtain ⟨fs, hfs⟩ : ∃ fs, fs = blockFl ln (toks b sent to) := ⟨_, rfl⟩
  have ef : [(ln, 1), (1, 2)] ++ (toks b sent to).flatMap tokFl ++ [symF 256] = fs := by rw [hfs]; rfl
  rw [ef] at F2
  have hok : ∀ f ∈ fs, fldOk f = true := by rw [hfs]; exact (blockFl_ok (last := ln) hln (toks_ok b to (by omega) (to - sent) sent)).2
  have hbl : blkB ln M.length b sent to = if 3 + fillN (M.length + 3) + 32 + 8 * (to - sent) < wideF (blockFl ln (toks b sent to)) then stoH ln M.length (to - sent) ++ fldBits (byFl (segB b sent to)) else fldBits (blockFl ln (toks b sent to)) := rfl
  rw [← hfs] at hbl
  have hfsl : fs.length ≤ 17000 := by rw [← ef]; simp only [List.length_append, List.length_cons, List.length_nil]; omega
  have hlen : aLenK false fv = some (.int .i64 (fs.length : Int)) := LinM.len F2.1
  generalize upT τ H1 H2 6 = τ2 at *
  simp only [sA, Int.reduceNegSucc, reduceCtorEq, Nat.reduceEqDiff, ↓reduceIte, Nat.reduceAdd, Int.reduceEq, Int.reduceLT, Int.reduceLE, Nat.reduceLT, g0, g1, g6, buildF1, m2', hlen]
  clear F1 k2' s2 f2 m2 m2' B1 W1 ef hfs
  refine aw_loop (fun m (T : Env) H' => ∃ i : Nat, i ≤ fs.length ∧ m = fs.length - i ∧ T 0 = cellR ow 9 0 ∧ T 1 = .int .i64 (to : Int) ∧ T 6 = cellR q 2 0 ∧ T 7 = fv ∧ T 11 = .int .i64 ((wideF (fs.take i) : Nat) : Int) ∧ T 74 = fv ∧ T 75 = .int .i64 (fs.length : Int) ∧ T 76 = .int .i64 (i : Int) ∧ Ext H2.next H2 H') fs.length
    ⟨0, Nat.zero_le _, rfl, by simp only [sA, Int.reduceNegSucc, reduceCtorEq, Nat.reduceEqDiff, ↓reduceIte, Nat.reduceAdd, Int.reduceEq, Int.reduceLT, Int.reduceLE, Nat.reduceLT, g0], by simp only [sA, Int.reduceNegSucc, reduceCtorEq, Nat.reduceEqDiff, ↓reduceIte, Nat.reduceAdd, Int.reduceEq, Int.reduceLT, Int.reduceLE, Nat.reduceLT, g1], by simp only [sA, Int.reduceNegSucc, reduceCtorEq, Nat.reduceEqDiff, ↓reduceIte, Nat.reduceAdd, Int.reduceEq, Int.reduceLT, Int.reduceLE, Nat.reduceLT, g6], by simp only [sA, Int.reduceNegSucc, reduceCtorEq, Nat.reduceEqDiff, ↓reduceIte, Nat.reduceAdd, Int.reduceEq, Int.reduceLT, Int.reduceLE, Nat.reduceLT], by simp only [sA, Int.reduceNegSucc, reduceCtorEq, Nat.reduceEqDiff, ↓reduceIte, Nat.reduceAdd, Int.reduceEq, Int.reduceLT, Int.reduceLE, Nat.reduceLT]; try rfl, by simp only [sA, Int.reduceNegSucc, reduceCtorEq, Nat.reduceEqDiff, ↓reduceIte, Nat.reduceAdd, Int.reduceEq, Int.reduceLT, Int.reduceLE, Nat.reduceLT]; try rfl, by simp only [sA, Int.reduceNegSucc, reduceCtorEq, Nat.reduceEqDiff, ↓reduceIte, Nat.reduceAdd, Int.reduceEq, Int.reduceLT, Int.reduceLE, Nat.reduceLT]; try rfl, by simp only [sA, Int.reduceNegSucc, reduceCtorEq, Nat.reduceEqDiff, ↓reduceIte, Nat.reduceAdd, Int.reduceEq, Int.reduceLT, Int.reduceLE, Nat.reduceLT]; try rfl, Ext.refl _ _⟩ ?_
  rintro m T H' ⟨i, hi, rfl, k0, k1, k6, k7, k11, k74, k75, k76, E⟩
  have hwl : wideF (fs.take i) ≤ 16 * fs.length := by
    have := wideF_le (fs := fs.take i) fun f hf' => hok f (List.mem_of_mem_take hf')
    rw [List.length_take] at this; omega
  have F' : FM τ2 H' fv fs := ⟨F2.1.ext E, F2.2⟩
  by_cases hlt : i < fs.length
  · have hlt' : (i : Int) < (fs.length : Int) := by omega
    obtain ⟨f, hfi⟩ : ∃ f, fs[i]? = some f := ⟨_, List.getElem?_eq_getElem hlt⟩
    obtain ⟨a, ma, la⟩ := FL.at F'.1 hfi
    obtain ⟨hf1, hf2⟩ := fldOk_lt (hok f (List.mem_of_getElem? hfi))
    obtain ⟨H3, m3, r3, k3, q3⟩ := row_newL H' [.int .u32 0, .int .i64 0] (n := 2) rfl
    obtain ⟨H4, m4, r4, k4, q4⟩ := row_storeN r3 (n := 2) rfl (xs := fldC f) rfl rfl
    have E4 : Ext H'.next H' H4 := ⟨by omega, fun c hc => by rw [q4 c (by omega), q3 c (by omega)]⟩
    have lf1 : oLoad false 1 H4 (cellR H'.next 2 1) = some (.int .i64 (f.2 : Int)) := row_load r4 rfl rfl
    simp only [sA, Int.reduceNegSucc, reduceCtorEq, Nat.reduceEqDiff, ↓reduceIte, Nat.reduceAdd, Int.reduceEq, Int.reduceLT, Int.reduceLE, Nat.reduceLT, k0, k1, k6, k7, k11, k74, k75, k76, hlt', ma, la, m3, m4, fldA, fld0, lf1, wrapN (wideF (fs.take i)) f.2 (by omega), wrap1 i (by omega)]
    have ew : wideF (fs.take (i + 1)) = wideF (fs.take i) + f.2 := by rw [take_snoc hfi]; simp [wideF]
    exact ⟨_, by omega, i + 1, by omega, rfl, (by first | with_reducible rfl | trivial | rfl | assumption), (by first | with_reducible rfl | trivial | rfl | assumption), (by first | with_reducible rfl | trivial | rfl | assumption), (by first | with_reducible rfl | trivial | rfl | assumption), by rw [ew], (by first | with_reducible rfl | trivial | rfl | assumption), (by first | with_reducible rfl | trivial | rfl | assumption), (by first | with_reducible rfl | trivial | rfl | assumption), E.trans (E4.less E.next)⟩
  · have hlt' : ¬ (i : Int) < (fs.length : Int) := by omega
    obtain rfl : i = fs.length := by omega
    rw [List.take_length] at k11 hwl
    have B' := B2.fr (FrS.of_ext (S := fun _ => False) E) (by simp) (by simp) (by simp)
    have W' := W2.ext' E
    have fr' := fr2.trans (FrS.of_ext E)
    have l2 : oLoad false 1 H' (cellR ow 9 2) = some (cellR o 3 0) := row_load B'.row rfl rfl
    have l5 : oLoad false 1 H' (cellR ow 9 5) = some (.int .i64 (sent : Int)) := row_load B'.row rfl rfl
    simp only [sA, Int.reduceNegSucc, reduceCtorEq, Nat.reduceEqDiff, ↓reduceIte, Nat.reduceAdd, Int.reduceEq, Int.reduceLT, Int.reduceLE, Nat.reduceLT, k0, k1, k6, k7, k11, k74, k75, k76, hlt', nil_cell, fldA, fld0, l2]
    refine (bits_spec W').mono ?_
    rintro _ _ ⟨rfl, rfl⟩
    obtain ⟨F, hF⟩ : ∃ F, F = fillN (pl + 3) := ⟨_, rfl⟩
    have hF7 : F ≤ 7 := by rw [hF]; unfold fillN; omega
    have hFM : fillN (M.length + 3) = F := by
      have := W'.mod
      rw [hF]; unfold fillN; omega
    obtain ⟨n, hn⟩ : ∃ n, n = to - sent := ⟨_, rfl⟩
    have w3 : IntKind.i64.wrap ((pl : Int) + 3) = ((pl + 3 : Nat) : Int) := wrapN pl 3 (by omega)
    have r3 : aBin .rem (.int .i64 ((pl + 3 : Nat) : Int)) (.int .i64 8) = some (.int .i64 (((pl + 3) % 8 : Nat) : Int)) := bin_remN (pl + 3) 8 (by omega)
    have w5 : IntKind.i64.wrap (8 - (((pl + 3) % 8 : Nat) : Int)) = ((8 - (pl + 3) % 8 : Nat) : Int) := by rw [IntKind.wrap_i64]; omega
    have r5 : aBin .rem (.int .i64 ((8 - (pl + 3) % 8 : Nat) : Int)) (.int .i64 8) = some (.int .i64 (F : Int)) := by
      have := bin_remN (8 - (pl + 3) % 8) 8 (by omega)
      rw [hF]; exact this
    have e0 : IntKind.i64.wrap ((to : Int) - (sent : Int)) = (n : Int) := by rw [IntKind.wrap_i64]; omega
    have w8 : IntKind.i64.wrap (3 + (F : Int)) = ((3 + F : Nat) : Int) := wrapN 3 F (by omega)
    have w40 : IntKind.i64.wrap (((3 + F : Nat) : Int) + 32) = ((3 + F + 32 : Nat) : Int) := wrapN (3 + F) 32 (by omega)
    have wm : IntKind.i64.wrap (8 * (n : Int)) = ((8 * n : Nat) : Int) := by rw [IntKind.wrap_i64]; omega
    have ws : IntKind.i64.wrap (((3 + F + 32 : Nat) : Int) + ((8 * n : Nat) : Int)) = ((3 + F + 32 + 8 * n : Nat) : Int) := wrapN _ _ (by omega)
    simp only [sA, Int.reduceNegSucc, reduceCtorEq, Nat.reduceEqDiff, ↓reduceIte, Nat.reduceAdd, Int.reduceEq, Int.reduceLT, Int.reduceLE, Nat.reduceLT, k0, k1, k6, k7, k11, nil_cell, fldA, fld0, w3, r3, w5, r5, l5, e0, w8, w40, wm, ws]
    rw [hFM, ← hn] at hbl
    by_cases hcmp : 3 + F + 32 + 8 * n < wideF fs
    · have hcmp' : ((3 + F + 32 + 8 * n : Nat) : Int) < ((wideF fs : Nat) : Int) := by omega
      rw [if_pos hcmp] at hbl
      simp only [hcmp', sA, Int.reduceNegSucc, reduceCtorEq, Nat.reduceEqDiff, ↓reduceIte, Nat.reduceAdd, Int.reduceEq, Int.reduceLT, Int.reduceLE, Nat.reduceLT]
      refine stored_branch (q := q) (fs := fs) (kept := kept) (b := b) (mv := mv) (o := o) (K := K) (ow := ow) (τ := τ2) hln hst hto hlong (by omega) (by omega) (by simp only [sA, Int.reduceNegSucc, reduceCtorEq, Nat.reduceEqDiff, ↓reduceIte, Nat.reduceAdd, Int.reduceEq, Int.reduceLT, Int.reduceLE, Nat.reduceLT, k0]) (by simp only [sA, Int.reduceNegSucc, reduceCtorEq, Nat.reduceEqDiff, ↓reduceIte, Nat.reduceAdd, Int.reduceEq, Int.reduceLT, Int.reduceLE, Nat.reduceLT, k1]) (by simp only [sA, Int.reduceNegSucc, reduceCtorEq, Nat.reduceEqDiff, ↓reduceIte, Nat.reduceAdd, Int.reduceEq, Int.reduceLT, Int.reduceLE, Nat.reduceLT, k6]) (by simp only [sA, Int.reduceNegSucc, reduceCtorEq, Nat.reduceEqDiff, ↓reduceIte, Nat.reduceAdd, Int.reduceEq, Int.reduceLT, Int.reduceLE, Nat.reduceLT]; rw [hn]) B' W' (by simp only [sA, Int.reduceNegSucc, reduceCtorEq, Nat.reduceEqDiff, ↓reduceIte, Nat.reduceAdd, Int.reduceEq, Int.reduceLT, Int.reduceLE, Nat.reduceLT, k7]; exact F') hb ?_
      intro T3 H3 τ3 h0 h1 B3 F3 W3 f3
      rw [← hn] at W3
      have hsl := segB_len hst hto
      have hlen2 : (stoH ln M.length n).length ≤ 60 := by simp only [stoH, List.length_append, bitsN_len, List.length_replicate, hFM]; omega
      have PL := put_loop h0 h1 B3 W3 F3 (byFl_ok _) (by simp [byFl]; omega) (by omega) (by rw [List.length_append]; omega) (by omega) (Q := Q) fun w H4 τ4 W4 r4 t4 o4 f4 => hQ w H4 τ4 (by
        rw [hbl, List.length_append, ← List.append_assoc, ← Nat.add_assoc, ← wideF_bits]; exact W4) r4 t4 o4 (fr'.trans (f3.trans f4))
      simp only [c28, restP, restC] at PL
      simp only [sA, Int.reduceNegSucc, reduceCtorEq, Nat.reduceEqDiff, ↓reduceIte, Nat.reduceAdd, Int.reduceEq, Int.reduceLT, Int.reduceLE, Nat.reduceLT]
      exact PL
    · have hcmp' : ¬ ((3 + F + 32 + 8 * n : Nat) : Int) < ((wideF fs : Nat) : Int) := by omega
      rw [if_neg hcmp] at hbl
      simp only [hcmp', sA, Int.reduceNegSucc, reduceCtorEq, Nat.reduceEqDiff, ↓reduceIte, Nat.reduceAdd, Int.reduceEq, Int.reduceLT, Int.reduceLE, Nat.reduceLT]
      have PL := fun T2 h0 h1 h7 => put_loop (T := T2) (fs := fs) h0 h1 B' W' h7 hok (by omega) (by omega) (by omega) (by omega) (Q := Q) fun w H4 τ4 W4 r4 t4 o4 f4 => hQ w H4 τ4 (by
        rw [hbl, ← wideF_bits]; exact W4) r4 t4 o4 (fr'.trans f4)
      simp only [c28, restP, restC] at PL
      exact PL _ (by simp only [sA, Int.reduceNegSucc, reduceCtorEq, Nat.reduceEqDiff, ↓reduceIte, Nat.reduceAdd, Int.reduceEq, Int.reduceLT, Int.reduceLE, Nat.reduceLT, k0]) (by simp only [sA, Int.reduceNegSucc, reduceCtorEq, Nat.reduceEqDiff, ↓reduceIte, Nat.reduceAdd, Int.reduceEq, Int.reduceLT, Int.reduceLE, Nat.reduceLT, k1]) (by simp only [sA, Int.reduceNegSucc, reduceCtorEq, Nat.reduceEqDiff, ↓reduceIte, Nat.reduceAdd, Int.reduceEq, Int.reduceLT, Int.reduceLE, Nat.reduceLT, k7]; exact F')
end Go.Proofs.Zi
