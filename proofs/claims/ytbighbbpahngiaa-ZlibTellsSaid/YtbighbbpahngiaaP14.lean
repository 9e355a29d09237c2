/- Part of a proof (Z3 Z4 Z5 S25 Z6); no condition. -/
import Derived.Test.YtbighbbpahngiaaP13
set_option linter.unusedSimpArgs false
set_option linter.unusedVariables false
set_option linter.unnecessarySimpa false
namespace Go.Proofs.Zt
open Go.Abs Go.Abs.S
set_option linter.unusedSimpArgs false
theorem bitsN_zero (k : Nat) : bitsN 0 k = List.replicate k false := by
  induction k with
  | zero => rfl
  | succ k ih => simp only [bitsN, List.replicate_succ, Nat.zero_div, ih]; rfl
theorem align_spec {n : Nat} {τ : Nat → Nat} {H : AHeap} {o : Nat} {M : List Bool} {pl : Nat} (h : OW n τ H o M pl) (hpl : pl ≤ 1000000000) (hM : M.length ≤ 1000000000) :
    ACalls Try.prog natZ 31 [cellR o 3 0] H fun w H' => w = .int .i64 0 ∧ ∃ τ', OW H'.next τ' H' o (M ++ List.replicate (fillN M.length) false) (pl + fillN M.length) ∧ FrS k2 τ H τ' H' := by
  have hh := h
  obtain ⟨vb, h1, h2, h3, h4, h5, h6, h7, h8⟩ := hh
  refine acalls_ofN rfl za31 rfl ?_
  have l0 : oLoad false 1 H (cellR o 3 0) = some (.bool true) := row_load h1 rfl rfl
  have w1 : IntKind.i64.wrap (8 - ((pl % 8 : Nat) : Int)) = ((8 - pl % 8 : Nat) : Int) := by rw [wrap64 (by omega) (by omega)]; omega
  have r1 : aBin .rem (.int .i64 ((8 - pl % 8 : Nat) : Int)) (.int .i64 8) = some (.int .i64 ((fillN M.length : Nat) : Int)) := by
    have := bin_remN (8 - pl % 8) 8 (by omega)
    unfold fillN; rw [h8] at this ⊢; exact this
  have hf : fillN M.length < 8 := by unfold fillN; omega
  simp only [c31, sA, Int.reduceNegSucc, reduceCtorEq, Nat.reduceEqDiff, ↓reduceIte, Nat.reduceAdd, Int.reduceEq, Int.reduceLT, Int.reduceLE, eq_ptr_nil, nil_cell, fldA, l0]
  refine (inside_spec h1).mono ?_
  rintro w _ ⟨rfl, rfl⟩
  simp only [sA, Int.reduceNegSucc, reduceCtorEq, Nat.reduceEqDiff, ↓reduceIte, Nat.reduceAdd, Int.reduceEq, Int.reduceLT, Int.reduceLE, w1, r1]
  have p := put_spec h 0 (fillN M.length) (by omega) (Nat.two_pow_pos _) hpl hM
  rw [bitsN_zero] at p
  refine p.mono ?_
  rintro w H' ⟨rfl, τ', q1, q2⟩
  simp only [sA, Int.reduceNegSucc, reduceCtorEq, Nat.reduceEqDiff, ↓reduceIte, Nat.reduceAdd, Int.reduceEq, Int.reduceLT, Int.reduceLE]
  exact ⟨(by first | with_reducible rfl | trivial | rfl | assumption), τ', q1, q2⟩
theorem take0_spec {n : Nat} {τ : Nat → Nat} {H : AHeap} {o : Nat} {pl : Nat} (h : OW n τ H o [] pl) : ACalls Try.prog natZ 30 [cellR o 3 0] H fun w H' => w = nilS ∧ H = H' := by
  obtain ⟨vb, h1, h2, h3, h4, h5, h6, h7, h8⟩ := h
  have hv : vb = nilS := by
    rcases h6 with ⟨e, _⟩ | ⟨b, low, _, _, _, _, _, _, h0⟩
    · exact e
    · exact absurd h0 (by simp [pack])
  subst hv
  refine acalls_ofN rfl za30 rfl ?_
  have l0 : oLoad false 1 H (cellR o 3 0) = some (.bool true) := row_load h1 rfl rfl
  have l1 : oLoad false 1 H (cellR o 3 1) = some nilS := row_load h1 rfl rfl
  have hl : aLenK false nilS = some (.int .i64 0) := rfl
  have e : pl % 8 = 0 := h8
  simp only [c30, sA, Int.reduceNegSucc, reduceCtorEq, Nat.reduceEqDiff, ↓reduceIte, Nat.reduceAdd, Int.reduceEq, Int.reduceLT, Int.reduceLE, eq_ptr_nil, nil_cell, fldA, l0, l1, hl]
  refine (inside_spec h1).mono ?_
  rintro w _ ⟨rfl, rfl⟩
  rw [e]
  simp only [sA, Int.reduceNegSucc, reduceCtorEq, Nat.reduceEqDiff, ↓reduceIte, Nat.reduceAdd, Int.reduceEq, Int.reduceLT, Int.reduceLE, Int.natCast_zero]
  exact ⟨(by first | with_reducible rfl | trivial | rfl | assumption), (by first | with_reducible rfl | trivial | rfl | assumption)⟩
theorem take1_spec {n : Nat} {τ : Nat → Nat} {H : AHeap} {o : Nat} {M : List Bool} {pl : Nat} (h : OW n τ H o M pl) (hM : M.length % 8 = 0) (h0 : 0 < M.length) (hb : M.length ≤ 1000000000) :
    ACalls Try.prog natZ 30 [cellR o 3 0] H fun w H' => Cel H'.next H' w (u8s (pack M)) ∧ Blk w (fun b => b < n ∧ τ b = 4) ∧ H'.next = H.next ∧ ∀ c, c ≠ o → H'.get c = H.get c := by
  obtain ⟨vb, h1, h2, h3, h4, h5, h6, h7, h8⟩ := h
  obtain ⟨k, hk⟩ : ∃ k, k = (pack M).length := ⟨_, rfl⟩
  have hkl : k = (M.length + 7) / 8 := by rw [hk, pack_len]
  have hul : (u8s (pack M)).length = k := by rw [hk]; simp [u8s]
  rw [← hk] at h6
  refine acalls_ofN rfl za30 rfl ?_
  have l0 : oLoad false 1 H (cellR o 3 0) = some (.bool true) := row_load h1 rfl rfl
  have l1 : oLoad false 1 H (cellR o 3 1) = some vb := row_load h1 rfl rfl
  have hlen : aLenK false vb = some (.int .i64 (k : Int)) := h6.len
  obtain ⟨s', m1, C1, B1⟩ := h6.take3 (Nat.le_refl k) (by omega)
  obtain ⟨s2, m2, C2, B2⟩ := h6.from_ (Nat.le_refl k)
  rw [List.take_of_length_le (by omega)] at C1
  rw [List.drop_of_length_le (by omega)] at C2
  have ap : aAppend 1 1 H (.slice none 0 (.known 0)) s2 = some (nilS, H) := ap_none C2.src
  obtain ⟨H2, m3, r3, k3, o3⟩ := row_st h1 (n := 3) rfl (i := 1) (by omega) (x := nilS) rfl rfl
  have e : pl % 8 = 0 := by omega
  have ek : ¬ (k : Int) = 0 := by omega
  simp only [c30, sA, Int.reduceNegSucc, reduceCtorEq, Nat.reduceEqDiff, ↓reduceIte, Nat.reduceAdd, Int.reduceEq, Int.reduceLT, Int.reduceLE, eq_ptr_nil, nil_cell, fldA, l0, l1, hlen]
  refine (inside_spec h1).mono ?_
  rintro w _ ⟨rfl, rfl⟩
  rw [e]
  simp only [sA, Int.reduceNegSucc, reduceCtorEq, Nat.reduceEqDiff, ↓reduceIte, Nat.reduceAdd, Int.reduceEq, Int.reduceLT, Int.reduceLE, Int.natCast_zero, ek, nil_cell, fldA, l1, m1, m2, ap, m3]
  have hbb := B1 _ h7
  exact ⟨cel_same C1 (by omega) (hbb.mono fun b hb => o3 b (by rintro rfl; omega)), hbb, k3, o3⟩
theorem bnew_spec (H : AHeap) : ACalls Try.prog natZ 27 [] H fun w H' => w = cellR H.next 3 0 ∧ Row H' H.next [.bool true, nilS, .int .i64 0] ∧ H'.next = H.next + 1 ∧ ∀ c, c ≠ H.next → H'.get c = H.get c := by
  refine acalls_ofN rfl za27 rfl ?_
  obtain ⟨H1, m1, r1, k1, o1⟩ := row_newL H [.bool true, nilS, .int .i64 0] (n := 3) rfl
  have b1 : aBuild [.bool false, .slice none 0 (.known 0), .int .i64 0] [(0, 1, .bool true)] = some (.agg [.bool true, nilS, .int .i64 0]) := rfl
  have b2 : aBuild [.bool false, .slice none 0 (.known 0), .int .i64 0] [(0, 3, .agg [.bool true, nilS, .int .i64 0])] = some (.agg [.bool true, nilS, .int .i64 0]) := rfl
  simp only [c27, sA, Int.reduceNegSucc, reduceCtorEq, Nat.reduceEqDiff, ↓reduceIte, Nat.reduceAdd, Int.reduceEq, Int.reduceLT, Int.reduceLE, b1, b2, cells_agg, m1]
  exact ⟨(by first | with_reducible rfl | trivial | rfl | assumption), r1, k1, o1⟩
theorem AppN.samN {m n k : Nat} {H H' : AHeap} {s : AVal} {L : List AVal} (h : AppN m n H s L k) (hn : H.next ≤ H'.next) (e : ∀ c, n ≤ c → c < H.next → H'.get c = H.get c) : AppN m n H' s L k := by
  rcases h with h | ⟨b, low, h1, h2, h3, h4, h5, h6⟩
  · exact .inl h
  · exact .inr ⟨b, low, h1, h2, h3, by omega, (e b h3 h4).trans h5, h6⟩
theorem AppN.samN' {m n n' k : Nat} {H H' : AHeap} {s : AVal} {L : List AVal} (h : AppN m n H s L k) (hn' : n' ≤ n) (hn : H.next ≤ H'.next) (e : ∀ c, n ≤ c → c < H.next → H'.get c = H.get c) : AppN m n' H' s L k := by
  rcases h with h | ⟨b, low, h1, h2, h3, h4, h5, h6⟩
  · exact .inl h
  · exact .inr ⟨b, low, h1, h2, by omega, by omega, (e b h3 h4).trans h5, h6⟩
theorem ralign_spec {H : AHeap} {v : AVal} {L : List Bool} {t : Nat} (h : RW H.next H v L t) (hL : L.length + 100 ≤ 10000000) :
    ACalls Try.prog natZ 56 [v] H fun w H' => RW H'.next H' w (L ++ List.replicate (fillN L.length) false) t ∧ (∀ P, VB v P → VB w fun b => P b ∨ H.next ≤ b) ∧ Ext H.next H H' := by
  refine acalls_ofN rfl za56 rfl ?_
  have hv : ∃ sv, v = .agg [sv, .int .i64 (t : Int)] := by obtain ⟨sv, h1, _⟩ := h; exact ⟨sv, h1⟩
  obtain ⟨sv, rfl⟩ := hv
  have hf : fillN L.length < 8 := by unfold fillN; omega
  have hf0 := fill_ok L.length
  obtain ⟨H1, m1, r1, k1, o1⟩ := row_newL H [sv, .int .i64 (t : Int)] (n := 2) rfl
  obtain ⟨H2, m2, r2, k2', o2⟩ := row_newL H1 [.slice none 0 (.known 0), .int .i64 0] (n := 2) rfl
  have E2 : Ext H.next H H2 := ⟨by omega, fun c hc => by rw [o2 c (by omega), o1 c (by omega)]⟩
  simp only [c56, sA, Int.reduceNegSucc, reduceCtorEq, Nat.reduceEqDiff, ↓reduceIte, Nat.reduceAdd, Int.reduceEq, Int.reduceLT, Int.reduceLE, cells_agg, m1, m2]
  refine aw_loop (fun q (T : Env) H' => ∃ (j : Nat) (sj : AVal), j ≤ fillN L.length ∧ q = fillN L.length - j ∧ T 1 = cellR H.next 2 0 ∧ T 2 = cellR H1.next 2 0 ∧ Cel H'.next H' sj (bls (L ++ List.replicate j false)) ∧ Row H' H.next [sj, .int .i64 (t : Int)] ∧ Row H' H1.next [.slice none 0 (.known 0), .int .i64 0] ∧ H2.next ≤ H'.next ∧ (∀ P, Blk sv P → Blk sj fun b => P b ∨ H2.next ≤ b) ∧ Ext H.next H H') (fillN L.length)
    ⟨0, sv, Nat.zero_le _, rfl, by simp only [sA, Int.reduceNegSucc, reduceCtorEq, Nat.reduceEqDiff, ↓reduceIte, Nat.reduceAdd, Int.reduceEq, Int.reduceLT, Int.reduceLE]; try rfl, by simp only [sA, Int.reduceNegSucc, reduceCtorEq, Nat.reduceEqDiff, ↓reduceIte, Nat.reduceAdd, Int.reduceEq, Int.reduceLT, Int.reduceLE]; try rfl, ?_, r1.same (o2 _ (by omega)), r2, Nat.le_refl _, fun P hP => hP.mono fun b hb => .inl hb, E2⟩ ?_
  · obtain ⟨sv', e1, hC⟩ := h.fwd E2
    simp only [AVal.agg.injEq, List.cons.injEq, and_true] at e1
    rw [e1]; simpa using hC
  rintro q T H' ⟨j, sj, hj, rfl, g1, g2, hC, hR, hR2, hn, hB, E⟩
  have l0 : oLoad false 1 H' (cellR H.next 2 0) = some sj := row_load hR rfl rfl
  have ld := row_loadN hR (n := 2) rfl
  have hlen : aLenK false sj = some (.int .i64 ((L.length + j : Nat) : Int)) := by
    have := hC.len
    rwa [bls_len, List.length_append, List.length_replicate] at this
  have hr : aBin .rem (.int .i64 ((L.length + j : Nat) : Int)) (.int .i64 8) = some (.int .i64 (((L.length + j) % 8 : Nat) : Int)) := bin_remN _ 8 (by omega)
  by_cases hlt : j < fillN L.length
  · have hne : ¬ (((L.length + j) % 8 : Nat) : Int) = 0 := by unfold fillN at hlt; omega
    have put := rput_spec (H := H') (v := .agg [sj, .int .i64 (t : Int)]) ⟨sj, rfl, hC⟩ 0 1 (by omega) (by omega) (by rw [List.length_append, List.length_replicate]; omega)
    simp only [sA, Int.reduceNegSucc, reduceCtorEq, Nat.reduceEqDiff, ↓reduceIte, Nat.reduceAdd, Int.reduceEq, Int.reduceLT, Int.reduceLE, g1, g2, fldA, fld0, l0, ld, hlen, hr, hne]
    refine put.mono ?_
    rintro w H3 ⟨v3, rfl, ⟨sv3, rfl, hC3⟩, hvb3, E3⟩
    have n3 := E3.next
    obtain ⟨H4, m4, r4, k4, o4⟩ := row_storeN (hR.same (E3.old _ (by omega))) (n := 2) rfl (xs := [sv3, .int .i64 (t : Int)]) rfl (by simp only [List.all_cons, List.all_nil, cel_one hC3]; rfl)
    simp only [sA, Int.reduceNegSucc, reduceCtorEq, Nat.reduceEqDiff, ↓reduceIte, Nat.reduceAdd, Int.reduceEq, Int.reduceLT, Int.reduceLE, g1, g2, ext_0, ext_1, m4]
    refine ⟨_, by omega, j + 1, sv3, by omega, rfl, (by first | with_reducible rfl | trivial | rfl | assumption), (by first | with_reducible rfl | trivial | rfl | assumption), ?_, r4, hR2.same (by rw [o4 _ (by omega), E3.old _ (by omega)]), by omega, fun P _ => (hvb3 _ _ rfl).mono fun b hb => .inr (by omega), ⟨by omega, fun c hc => by rw [o4 c (by omega), E3.old c (by omega)]; exact E.old c hc⟩⟩
    have e : L ++ List.replicate (j + 1) false = L ++ List.replicate j false ++ bitsN 0 1 := by rw [List.replicate_succ', List.append_assoc]; rfl
    rw [e]
    exact cel_same hC3 (by omega) ((hvb3 _ _ rfl).mono fun b hb => o4 b (by omega))
  · have hjk : j = fillN L.length := by omega
    subst hjk
    have hne : (((L.length + fillN L.length) % 8 : Nat) : Int) = 0 := by omega
    obtain ⟨H4, m4, r4, k4, o4⟩ := row_storeN hR2 (n := 2) rfl (xs := [sj, .int .i64 (t : Int)]) rfl (by simp only [List.all_cons, List.all_nil, cel_one hC]; rfl)
    simp only [sA, Int.reduceNegSucc, reduceCtorEq, Nat.reduceEqDiff, ↓reduceIte, Nat.reduceAdd, Int.reduceEq, Int.reduceLT, Int.reduceLE, g1, g2, fldA, fld0, l0, ld, hlen, hr, hne, m4]
    have hb : Blk sj fun b => b < H.next ∨ H2.next ≤ b := hB _ (h.vb _ _ rfl)
    exact fin_1 _ _ _ (by simp only [sA, Int.reduceNegSucc, reduceCtorEq, Nat.reduceEqDiff, ↓reduceIte, Nat.reduceAdd, Int.reduceEq, Int.reduceLT, Int.reduceLE, g2]; exact row_loadN r4 (n := 2) rfl) ⟨⟨sj, rfl, cel_same hC (by omega) (hb.mono fun b hb => o4 b (by omega))⟩, fun P hP => vb_agg ((hB P (hP _ _ rfl)).mono fun b hb => hb.imp (fun q => q) fun q => by omega), ⟨by omega, fun c hc => by rw [o4 c (by omega)]; exact E.old c hc⟩⟩
theorem natOf_cons (b : Bool) (l : List Bool) : natOf (b :: l) = (if b then 1 else 0) + 2 * natOf l := rfl
theorem rnumber_spec {n : Nat} {H : AHeap} {v : AVal} {L : List Bool} (h : Cel n H v (bls L)) (p k : Nat) (hk : k ≤ 8) (hp : p + k ≤ L.length) (hL : L.length ≤ 10000000) :
    ACalls Try.prog natZ 70 [v, .int .i64 (p : Int), .int .i64 (k : Int)] H fun w H' => w = .int .u32 ((natOf ((L.drop p).take k) : Nat) : Int) ∧ H = H' := by
  refine acalls_ofN rfl za70 rfl ?_
  have wk : IntKind.i64.wrap ((k : Int) - 1) = (k : Int) - 1 := wrap64 (by omega) (by omega)
  simp only [c70, sA, Int.reduceNegSucc, reduceCtorEq, Nat.reduceEqDiff, ↓reduceIte, Nat.reduceAdd, Int.reduceEq, Int.reduceLT, Int.reduceLE, wk]
  refine aw_loop (fun q (T : Env) H' => ∃ j : Nat, j ≤ k ∧ q = j ∧ T 0 = v ∧ T 1 = .int .i64 (p : Int) ∧ T 7 = .int .u32 ((natOf ((L.drop (p + j)).take (k - j)) : Nat) : Int) ∧ T 8 = .int .i64 ((j : Int) - 1) ∧ H = H') k
    ⟨k, Nat.le_refl _, rfl, by simp only [sA, Int.reduceNegSucc, reduceCtorEq, Nat.reduceEqDiff, ↓reduceIte, Nat.reduceAdd, Int.reduceEq, Int.reduceLT, Int.reduceLE]; try rfl, by simp only [sA, Int.reduceNegSucc, reduceCtorEq, Nat.reduceEqDiff, ↓reduceIte, Nat.reduceAdd, Int.reduceEq, Int.reduceLT, Int.reduceLE]; try rfl, by simp only [sA, Int.reduceNegSucc, reduceCtorEq, Nat.reduceEqDiff, ↓reduceIte, Nat.reduceAdd, Int.reduceEq, Int.reduceLT, Int.reduceLE]; simp [natOf], by simp only [sA, Int.reduceNegSucc, reduceCtorEq, Nat.reduceEqDiff, ↓reduceIte, Nat.reduceAdd, Int.reduceEq, Int.reduceLT, Int.reduceLE]; try rfl, rfl⟩ ?_
  rintro j T _ ⟨_, hj, rfl, g0, g1, g7, g8, rfl⟩
  by_cases hlt : 0 < j
  · obtain ⟨i, rfl⟩ : ∃ i, j = i + 1 := ⟨j - 1, by omega⟩
    have ei : ((i + 1 : Nat) : Int) - 1 = (i : Int) := by omega
    rw [ei] at g8
    have hge : (0 : Int) ≤ (i : Int) := by omega
    have hi : p + i < L.length := by omega
    obtain ⟨b, hb⟩ : ∃ b, L[p + i]? = some b := ⟨_, List.getElem?_eq_getElem hi⟩
    have hidx := h.idx .i64 (i := p + i) (by rw [bls_len]; exact hi)
    have hld := h.load (bls_get hb)
    have hcut : (L.drop (p + i)).take (k - i) = b :: (L.drop (p + (i + 1))).take (k - (i + 1)) := by
      have e : k - i = (k - (i + 1)) + 1 := by omega
      rw [e, ← List.getElem_cons_drop (h := hi), List.take_succ_cons]
      have : L[p + i] = b := by rw [List.getElem?_eq_getElem hi] at hb; exact Option.some.inj hb
      rw [this]; rfl
    have hN := natOf_lt ((L.drop (p + (i + 1))).take (k - (i + 1)))
    have hN2 : natOf ((L.drop (p + (i + 1))).take (k - (i + 1))) < 256 := Nat.lt_of_lt_of_le hN (Nat.le_trans (Nat.pow_le_pow_right (by omega) (show _ ≤ 8 by simp; omega)) (by omega))
    generalize hX : natOf ((L.drop (p + (i + 1))).take (k - (i + 1))) = X at *
    have wm : IntKind.u32.wrap ((X : Int) * 2) = ((X * 2 : Nat) : Int) := by rw [wrapU32 (by omega) (by omega)]; omega
    have wa : IntKind.u32.wrap (((X * 2 : Nat) : Int) + 1) = ((X * 2 + 1 : Nat) : Int) := by rw [wrapU32 (by omega) (by omega)]; omega
    have wi : IntKind.i64.wrap ((i : Int) - 1) = (i : Int) - 1 := wrap64 (by omega) (by omega)
    cases b with
    | true =>
      simp only [sA, Int.reduceNegSucc, reduceCtorEq, Nat.reduceEqDiff, ↓reduceIte, Nat.reduceAdd, Int.reduceEq, Int.reduceLT, Int.reduceLE, g0, g1, g7, g8, hge, wrapN p i (by omega), hidx, hld, wm, wa, wi]
      exact ⟨i, by omega, i, by omega, rfl, (by first | with_reducible rfl | trivial | rfl | assumption), (by first | with_reducible rfl | trivial | rfl | assumption), by rw [hcut, natOf_cons, hX, if_pos rfl]; congr 2; omega, (by first | with_reducible rfl | trivial | rfl | assumption), (by first | with_reducible rfl | trivial | rfl | assumption)⟩
    | false =>
      simp only [sA, Int.reduceNegSucc, reduceCtorEq, Nat.reduceEqDiff, ↓reduceIte, Nat.reduceAdd, Int.reduceEq, Int.reduceLT, Int.reduceLE, g0, g1, g7, g8, hge, wrapN p i (by omega), hidx, hld, wm, wa, wi]
      exact ⟨i, by omega, i, by omega, rfl, (by first | with_reducible rfl | trivial | rfl | assumption), (by first | with_reducible rfl | trivial | rfl | assumption), by rw [hcut, natOf_cons, hX, if_neg (by decide)]; congr 2; omega, (by first | with_reducible rfl | trivial | rfl | assumption), (by first | with_reducible rfl | trivial | rfl | assumption)⟩
  · obtain rfl : j = 0 := by omega
    have hge : ¬ (0 : Int) ≤ ((0 : Nat) : Int) - 1 := by omega
    simp only [sA, Int.reduceNegSucc, reduceCtorEq, Nat.reduceEqDiff, ↓reduceIte, Nat.reduceAdd, Int.reduceEq, Int.reduceLT, Int.reduceLE, g0, g1, g7, g8, hge]
    exact ⟨(by first | with_reducible rfl | trivial | rfl | assumption), (by first | with_reducible rfl | trivial | rfl | assumption)⟩
theorem rtake_spec {H : AHeap} {v : AVal} {L : List Bool} (h : RW H.next H v L 0) (hL : L.length ≤ 10000000) :
    ACalls Try.prog natZ 55 [v] H fun w H' => ∃ v' s, w = .tuple [v', s] ∧ RW H'.next H' v' L (L.length / 8) ∧ AppN 1 H.next H' s (u8s ((List.range (L.length / 8)).map (byteAt L))) (L.length / 8) ∧ (∀ P, VB v P → VB v' P) ∧ Ext H.next H H' := by
  obtain ⟨sv, rfl, hC⟩ := h
  refine acalls_ofN rfl za55 rfl ?_
  obtain ⟨H1, m1, r1, k1, o1⟩ := row_newL H [sv, .int .i64 ((0 : Nat) : Int)] (n := 2) rfl
  obtain ⟨H2, m2, r2, k2', o2⟩ := row_newL H1 [.slice none 0 (.known 0), .int .i64 0] (n := 2) rfl
  have E2 : Ext H.next H H2 := ⟨by omega, fun c hc => by rw [o2 c (by omega), o1 c (by omega)]⟩
  obtain ⟨K, hK⟩ : ∃ K, K = L.length / 8 := ⟨_, rfl⟩
  rw [← hK]
  have hlen : aLenK false sv = some (.int .i64 (L.length : Int)) := by have := hC.len; rwa [bls_len] at this
  have m1' : oNew H [sv, .int .i64 0] = (cellR H.next 2 0, H1) := m1
  simp only [c55, sA, Int.reduceNegSucc, reduceCtorEq, Nat.reduceEqDiff, ↓reduceIte, Nat.reduceAdd, Int.reduceEq, Int.reduceLT, Int.reduceLE, cells_agg, m1, m1', m2, Int.natCast_zero]
  refine aw_loop (fun q (T : Env) H' => ∃ j : Nat, j ≤ K ∧ q = K - j ∧ T 1 = cellR H.next 2 0 ∧ T 2 = cellR H1.next 2 0 ∧ Row H' H.next [sv, .int .i64 (j : Int)] ∧ Row H' H1.next [.slice none 0 (.known 0), .int .i64 0] ∧ AppN 1 H2.next H' (T 4) (u8s ((List.range j).map (byteAt L))) j ∧ H2.next ≤ H'.next ∧ Ext H.next H H') K
    ⟨0, Nat.zero_le _, rfl, by simp only [sA, Int.reduceNegSucc, reduceCtorEq, Nat.reduceEqDiff, ↓reduceIte, Nat.reduceAdd, Int.reduceEq, Int.reduceLT, Int.reduceLE]; try rfl, by simp only [sA, Int.reduceNegSucc, reduceCtorEq, Nat.reduceEqDiff, ↓reduceIte, Nat.reduceAdd, Int.reduceEq, Int.reduceLT, Int.reduceLE]; try rfl, r1.same (o2 _ (by omega)), r2, by simp only [sA, Int.reduceNegSucc, reduceCtorEq, Nat.reduceEqDiff, ↓reduceIte, Nat.reduceAdd, Int.reduceEq, Int.reduceLT, Int.reduceLE]; exact AppN.nil _ _ _, Nat.le_refl _, E2⟩ ?_
  rintro q T H' ⟨j, hj, rfl, g1, g2, hR, hR2, hA, hn, E⟩
  have l0 : oLoad false 1 H' (cellR H.next 2 0) = some sv := row_load hR rfl rfl
  have l1 : oLoad false 1 H' (cellR H.next 2 1) = some (.int .i64 (j : Int)) := row_load hR rfl rfl
  have hC' : Cel H.next H' sv (bls L) := hC.ext E
  have wm : IntKind.i64.wrap (8 * ((j + 1 : Nat) : Int)) = ((8 * (j + 1) : Nat) : Int) := by rw [wrap64 (by omega) (by omega)]; omega
  have wm2 : IntKind.i64.wrap (8 * (j : Int)) = ((8 * j : Nat) : Int) := by rw [wrap64 (by omega) (by omega)]; omega
  by_cases hlt : j < K
  · have hle : ((8 * (j + 1) : Nat) : Int) ≤ (L.length : Int) := by omega
    simp only [sA, Int.reduceNegSucc, reduceCtorEq, Nat.reduceEqDiff, ↓reduceIte, Nat.reduceAdd, Int.reduceEq, Int.reduceLT, Int.reduceLE, g1, g2, fldA, fld0, l0, l1, wrap1 j (by omega), wm, wm2, hlen, hle]
    refine (rnumber_spec hC' (8 * j) 8 (by omega) (by omega) hL).mono ?_
    rintro w _ ⟨rfl, rfl⟩
    have hb := byteAt_lt L j
    have e8 : natOf ((L.drop (8 * j)).take 8) = byteAt L j := rfl
    have wb : IntKind.u8.wrap ((byteAt L j : Nat) : Int) = ((byteAt L j : Nat) : Int) := wrap_u .u8 (.inl rfl) hb
    obtain ⟨s1, H3, m3, A3, E3, _⟩ := hA.push hn (xs := [.int .u8 ((byteAt L j : Nat) : Int)]) rfl rfl (by omega) (bytes := 1) (by omega) (by omega)
    have n3 := E3.next
    have m3' : aAppend 1 1 (H'.push (.cells [.int .u8 ((byteAt L j : Nat) : Int)] 0 false)) (T 4) (oneS H') = some (s1, H3) := m3
    have bld := build1 (.int .u8 0) H' (x := .int .u8 ((byteAt L j : Nat) : Int)) rfl
    have R3 := hR.same (E3.old _ (by omega))
    have l3 : oLoad false 1 H3 (cellR H.next 2 1) = some (.int .i64 (j : Int)) := row_load R3 rfl rfl
    obtain ⟨H4, m4, r4, k4, o4⟩ := row_st R3 (n := 2) rfl (i := 1) (by omega) (x := .int .i64 ((j + 1 : Nat) : Int)) rfl rfl
    rw [e8]
    simp only [sA, Int.reduceNegSucc, reduceCtorEq, Nat.reduceEqDiff, ↓reduceIte, Nat.reduceAdd, Int.reduceEq, Int.reduceLT, Int.reduceLE, g1, g2, fldA, fld0, wb, bld, m3', l3, wrap1 j (by omega), m4]
    refine ⟨_, by omega, j + 1, by omega, rfl, (by first | with_reducible rfl | trivial | rfl | assumption), (by first | with_reducible rfl | trivial | rfl | assumption), r4, hR2.same (by rw [o4 _ (by omega), E3.old _ (by omega)]), ?_, by omega, ⟨by omega, fun c hc => by rw [o4 c (by omega), E3.old c (by omega)]; exact E.old c hc⟩⟩
    have e : u8s ((List.range (j + 1)).map (byteAt L)) = u8s ((List.range j).map (byteAt L)) ++ [.int .u8 ((byteAt L j : Nat) : Int)] := by
      rw [List.range_succ, List.map_append, u8s_append]; rfl
    rw [e]
    exact AppN.samN A3 (by omega) fun c h1 h2 => o4 c (by omega)
  · have hjk : j = K := by omega
    subst hjk
    have hle : ¬ ((8 * (j + 1) : Nat) : Int) ≤ (L.length : Int) := by omega
    have ld := row_loadN hR (n := 2) rfl
    obtain ⟨H4, m4, r4, k4, o4⟩ := row_storeN hR2 (n := 2) rfl (xs := [sv, .int .i64 (j : Int)]) rfl (by simp only [List.all_cons, List.all_nil, cel_one hC]; rfl)
    simp only [sA, Int.reduceNegSucc, reduceCtorEq, Nat.reduceEqDiff, ↓reduceIte, Nat.reduceAdd, Int.reduceEq, Int.reduceLT, Int.reduceLE, g1, g2, fldA, fld0, l0, l1, wrap1 j (by omega), wm, hlen, hle, ld, m4]
    refine fin_ct2 _ _ _ (by simp only [sA, Int.reduceNegSucc, reduceCtorEq, Nat.reduceEqDiff, ↓reduceIte, Nat.reduceAdd, Int.reduceEq, Int.reduceLT, Int.reduceLE, g2]; exact row_loadN r4 (n := 2) rfl) ⟨_, _, by simp only [sA, Int.reduceNegSucc, reduceCtorEq, Nat.reduceEqDiff, ↓reduceIte, Nat.reduceAdd, Int.reduceEq, Int.reduceLT, Int.reduceLE]; try rfl, ⟨sv, rfl, ?_⟩, ?_, fun P hP => vb_agg (hP _ _ rfl), ⟨by omega, fun c hc => by rw [o4 c (by omega)]; exact E.old c hc⟩⟩
    · exact cel_same hC' (by omega) ((cel_blk hC).mono fun b hb => o4 b (by omega))
    · exact AppN.samN' hA (by omega) (by omega) fun c h1 h2 => o4 c (by omega)
end Go.Proofs.Zt
namespace Go.Proofs.Zt
open Go.Abs Go.Abs.S
set_option linter.unusedSimpArgs false
theorem adlerF_snoc (x : Nat × Nat) (l : Bs) (b : UInt8) : adlerF x (l ++ [b]) = (((adlerF x l).1 + b.toNat) % 65521, ((adlerF x l).2 + ((adlerF x l).1 + b.toNat) % 65521) % 65521) := by simp [adlerF, List.foldl_append]
theorem adlerF_lt (l : Bs) : ∀ x : Nat × Nat, x.1 < 65521 → x.2 < 65521 → (adlerF x l).1 < 65521 ∧ (adlerF x l).2 < 65521 := by
  induction l with
  | nil => intro x h1 h2; exact ⟨h1, h2⟩
  | cons b l ih => intro x h1 h2; exact ih _ (Nat.mod_lt _ (by omega)) (Nat.mod_lt _ (by omega))
def adlerS (sum : Nat) : Nat × Nat := (sum % 65536 % 65521, sum / 65536 % 65521)
theorem adler_eq (sum : Nat) (l : Bs) : adler sum l = (adlerF (adlerS sum) l).2 * 65536 + (adlerF (adlerS sum) l).1 := rfl
theorem adlerS_lt (sum : Nat) (l : Bs) : (adlerF (adlerS sum) l).1 < 65521 ∧ (adlerF (adlerS sum) l).2 < 65521 := adlerF_lt l _ (Nat.mod_lt _ (by omega)) (Nat.mod_lt _ (by omega))
theorem adler_lt (sum : Nat) (l : Bs) : adler sum l < 2 ^ 32 := by
  have := adlerS_lt sum l
  rw [adler_eq]; omega
theorem adler_append (sum : Nat) (a b : Bs) : adler (adler sum a) b = adler sum (a ++ b) := by
  have h := adlerS_lt sum a
  have e : adlerS (adler sum a) = adlerF (adlerS sum) a := by
    rw [adler_eq]
    generalize adlerF (adlerS sum) a = p at h
    unfold adlerS
    exact Prod.ext (by simp only; omega) (by simp only; omega)
  rw [adler_eq, e, adler_eq]
  simp only [adlerF, List.foldl_append]
theorem b_u32 (b : UInt8) : IntKind.u32.wrap (b.toNat : Int) = (b.toNat : Int) := by
  have := b.toNat_lt
  exact wrapU32 (by omega) (by omega)
theorem adler_spec {n : Nat} {H : AHeap} {v : AVal} {s : Bs} (h : Cel n H v (byts s)) (sum : Nat) (hs : sum < 2 ^ 32) (hl : s.length ≤ 1000000000) :
    ACalls Try.prog natZ 35 [.int .u32 (sum : Int), v] H fun w H' => w = .int .u32 ((adler sum s : Nat) : Int) ∧ H = H' := by
  refine acalls_ofN rfl za35 rfl ?_
  have ha : aBin .and (.int .u32 (sum : Int)) (.int .u32 65535) = some (.int .u32 ((sum % 65536 : Nat) : Int)) := by
    have := bin_andU .u32 (.inr (.inr (.inl rfl))) (a := sum) (b := 65535) hs (by simp [IntKind.bits])
    rw [Nat.and_two_pow_sub_one_eq_mod sum 16] at this
    exact this
  have hr : aBin .rem (.int .u32 ((sum % 65536 : Nat) : Int)) (.int .u32 65521) = some (.int .u32 ((sum % 65536 % 65521 : Nat) : Int)) := remU32 65521 (by omega)
  have hsh : aBin .shr (.int .u32 (sum : Int)) (.int .u64 16) = some (.int .u32 ((sum / 65536 : Nat) : Int)) := shrN .u32 .u64 sum (b := 16) (by simp [IntKind.bits])
  have hr2 : aBin .rem (.int .u32 ((sum / 65536 : Nat) : Int)) (.int .u32 65521) = some (.int .u32 ((sum / 65536 % 65521 : Nat) : Int)) := remU32 65521 (by omega)
  have hlen : aLenK false v = some (.int .i64 (s.length : Int)) := by have := h.len; rwa [byts_len] at this
  simp only [c35, sA, Int.reduceNegSucc, reduceCtorEq, Nat.reduceEqDiff, ↓reduceIte, Nat.reduceAdd, Int.reduceEq, Int.reduceLT, Int.reduceLE, ha, hr, hsh, hr2, hlen]
  refine aw_loop (fun q (T : Env) H' => ∃ j : Nat, j ≤ s.length ∧ q = s.length - j ∧ T 5 = .int .u32 (((adlerF (adlerS sum) (s.take j)).1 : Nat) : Int) ∧ T 6 = .int .u32 (((adlerF (adlerS sum) (s.take j)).2 : Nat) : Int) ∧ T 15 = v ∧ T 16 = .int .i64 (s.length : Int) ∧ T 17 = .int .i64 (j : Int) ∧ H = H') s.length
    ⟨0, Nat.zero_le _, rfl, by simp only [sA, Int.reduceNegSucc, reduceCtorEq, Nat.reduceEqDiff, ↓reduceIte, Nat.reduceAdd, Int.reduceEq, Int.reduceLT, Int.reduceLE]; rfl, by simp only [sA, Int.reduceNegSucc, reduceCtorEq, Nat.reduceEqDiff, ↓reduceIte, Nat.reduceAdd, Int.reduceEq, Int.reduceLT, Int.reduceLE]; rfl, by simp only [sA, Int.reduceNegSucc, reduceCtorEq, Nat.reduceEqDiff, ↓reduceIte, Nat.reduceAdd, Int.reduceEq, Int.reduceLT, Int.reduceLE]; try rfl, by simp only [sA, Int.reduceNegSucc, reduceCtorEq, Nat.reduceEqDiff, ↓reduceIte, Nat.reduceAdd, Int.reduceEq, Int.reduceLT, Int.reduceLE]; try rfl, by simp only [sA, Int.reduceNegSucc, reduceCtorEq, Nat.reduceEqDiff, ↓reduceIte, Nat.reduceAdd, Int.reduceEq, Int.reduceLT, Int.reduceLE]; try rfl, rfl⟩ ?_
  rintro q T _ ⟨j, hj, rfl, g5, g6, g15, g16, g17, rfl⟩
  have hx := adlerS_lt sum (s.take j)
  by_cases hlt : j < s.length
  · have hlt' : (j : Int) < (s.length : Int) := by omega
    obtain ⟨b, hb⟩ : ∃ b, s[j]? = some b := ⟨_, List.getElem?_eq_getElem hlt⟩
    have hidx := h.idx .i64 (i := j) (by rw [byts_len]; exact hlt)
    have hld := h.load (byts_get hb)
    have hbl := b.toNat_lt
    have hsn := adlerF_snoc (adlerS sum) (s.take j) b
    rw [← take_snoc hb] at hsn
    generalize (adlerF (adlerS sum) (s.take j)).1 = x at *
    generalize (adlerF (adlerS sum) (s.take j)).2 = y at *
    have w1 : IntKind.u32.wrap ((x : Int) + (b.toNat : Int)) = ((x + b.toNat : Nat) : Int) := by rw [wrapU32 (by omega) (by omega)]; omega
    have q1 : aBin .rem (.int .u32 ((x + b.toNat : Nat) : Int)) (.int .u32 65521) = some (.int .u32 (((x + b.toNat) % 65521 : Nat) : Int)) := remU32 65521 (by omega)
    have hm : (x + b.toNat) % 65521 < 65521 := Nat.mod_lt _ (by omega)
    have w2 : IntKind.u32.wrap ((y : Int) + (((x + b.toNat) % 65521 : Nat) : Int)) = ((y + (x + b.toNat) % 65521 : Nat) : Int) := by rw [wrapU32 (by omega) (by omega)]; omega
    have q2 : aBin .rem (.int .u32 ((y + (x + b.toNat) % 65521 : Nat) : Int)) (.int .u32 65521) = some (.int .u32 (((y + (x + b.toNat) % 65521) % 65521 : Nat) : Int)) := remU32 65521 (by omega)
    simp only [sA, Int.reduceNegSucc, reduceCtorEq, Nat.reduceEqDiff, ↓reduceIte, Nat.reduceAdd, Int.reduceEq, Int.reduceLT, Int.reduceLE, g5, g6, g15, g16, g17, hlt', hidx, hld, b_u32, w1, q1, w2, q2, wrap1 j (by omega)]
    exact ⟨_, by omega, j + 1, by omega, rfl, by rw [hsn], by rw [hsn], (by first | with_reducible rfl | trivial | rfl | assumption), (by first | with_reducible rfl | trivial | rfl | assumption), (by first | with_reducible rfl | trivial | rfl | assumption), (by first | with_reducible rfl | trivial | rfl | assumption)⟩
  · have hlt' : ¬ (j : Int) < (s.length : Int) := by omega
    obtain rfl : j = s.length := by omega
    rw [List.take_length] at g5 g6 hx
    have hae := adler_eq sum s
    generalize (adlerF (adlerS sum) s).1 = x at *
    generalize (adlerF (adlerS sum) s).2 = y at *
    have s1 : aBin .shl (.int .u32 (y : Int)) (.int .u64 16) = some (.int .u32 ((y * 65536 : Nat) : Int)) := by
      have := bin_shlU .u32 .u64 (.inr (.inr (.inl rfl))) y (b := 16) (by simp [IntKind.bits])
      rw [show y * 2 ^ 16 % 2 ^ IntKind.u32.bits = y * 65536 by simp only [IntKind.bits]; omega] at this
      exact this
    have s2 : aBin .or (.int .u32 ((y * 65536 : Nat) : Int)) (.int .u32 (x : Int)) = some (.int .u32 ((y * 65536 + x : Nat) : Int)) := by
      have := bin_orU .u32 (.inr (.inr (.inl rfl))) (a := y * 65536) (b := x) (by simp only [IntKind.bits]; omega) (by simp only [IntKind.bits]; omega)
      rw [show y * 65536 ||| x = y * 65536 + x from or_low 16 y (by omega)] at this
      exact this
    simp only [sA, Int.reduceNegSucc, reduceCtorEq, Nat.reduceEqDiff, ↓reduceIte, Nat.reduceAdd, Int.reduceEq, Int.reduceLT, Int.reduceLE, g5, g6, g15, g16, g17, hlt', s1, s2, ← hae]
    exact ⟨(by first | with_reducible rfl | trivial | rfl | assumption), (by first | with_reducible rfl | trivial | rfl | assumption)⟩
theorem radler_spec {n : Nat} {H : AHeap} {v : AVal} {s : Bs} (h : Cel n H v (byts s)) (sum : Nat) (hs : sum < 2 ^ 32) (hl : s.length ≤ 1000000000) :
    ACalls Try.prog natZ 42 [.int .u32 (sum : Int), v] H fun w H' => w = .int .u32 ((adler sum s : Nat) : Int) ∧ H = H' := by
  refine acalls_ofN rfl za42 rfl ?_
  have ha : aBin .rem (.int .u32 (sum : Int)) (.int .u32 65536) = some (.int .u32 ((sum % 65536 : Nat) : Int)) := remU32 65536 (by omega)
  have hr : aBin .rem (.int .u32 ((sum % 65536 : Nat) : Int)) (.int .u32 65521) = some (.int .u32 ((sum % 65536 % 65521 : Nat) : Int)) := remU32 65521 (by omega)
  have hsh : aBin .quo (.int .u32 (sum : Int)) (.int .u32 65536) = some (.int .u32 ((sum / 65536 : Nat) : Int)) := quoU32 65536 (by omega) (by omega)
  have hr2 : aBin .rem (.int .u32 ((sum / 65536 : Nat) : Int)) (.int .u32 65521) = some (.int .u32 ((sum / 65536 % 65521 : Nat) : Int)) := remU32 65521 (by omega)
  have hlen : aLenK false v = some (.int .i64 (s.length : Int)) := by have := h.len; rwa [byts_len] at this
  simp only [c42, sA, Int.reduceNegSucc, reduceCtorEq, Nat.reduceEqDiff, ↓reduceIte, Nat.reduceAdd, Int.reduceEq, Int.reduceLT, Int.reduceLE, ha, hr, hsh, hr2]
  refine aw_loop (fun q (T : Env) H' => ∃ j : Nat, j ≤ s.length ∧ q = s.length - j ∧ T 1 = v ∧ T 5 = .int .u32 (((adlerF (adlerS sum) (s.take j)).1 : Nat) : Int) ∧ T 6 = .int .u32 (((adlerF (adlerS sum) (s.take j)).2 : Nat) : Int) ∧ T 7 = .int .i64 (j : Int) ∧ H = H') s.length
    ⟨0, Nat.zero_le _, rfl, by simp only [sA, Int.reduceNegSucc, reduceCtorEq, Nat.reduceEqDiff, ↓reduceIte, Nat.reduceAdd, Int.reduceEq, Int.reduceLT, Int.reduceLE]; try rfl, by simp only [sA, Int.reduceNegSucc, reduceCtorEq, Nat.reduceEqDiff, ↓reduceIte, Nat.reduceAdd, Int.reduceEq, Int.reduceLT, Int.reduceLE]; rfl, by simp only [sA, Int.reduceNegSucc, reduceCtorEq, Nat.reduceEqDiff, ↓reduceIte, Nat.reduceAdd, Int.reduceEq, Int.reduceLT, Int.reduceLE]; rfl, by simp only [sA, Int.reduceNegSucc, reduceCtorEq, Nat.reduceEqDiff, ↓reduceIte, Nat.reduceAdd, Int.reduceEq, Int.reduceLT, Int.reduceLE]; try rfl, rfl⟩ ?_
  rintro q T _ ⟨j, hj, rfl, g1, g5, g6, g7, rfl⟩
  have hx := adlerS_lt sum (s.take j)
  by_cases hlt : j < s.length
  · have hlt' : (j : Int) < (s.length : Int) := by omega
    obtain ⟨b, hb⟩ : ∃ b, s[j]? = some b := ⟨_, List.getElem?_eq_getElem hlt⟩
    have hidx := h.idx .i64 (i := j) (by rw [byts_len]; exact hlt)
    have hld := h.load (byts_get hb)
    have hbl := b.toNat_lt
    have hsn := adlerF_snoc (adlerS sum) (s.take j) b
    rw [← take_snoc hb] at hsn
    generalize (adlerF (adlerS sum) (s.take j)).1 = x at *
    generalize (adlerF (adlerS sum) (s.take j)).2 = y at *
    have w1 : IntKind.u32.wrap ((x : Int) + (b.toNat : Int)) = ((x + b.toNat : Nat) : Int) := by rw [wrapU32 (by omega) (by omega)]; omega
    have q1 : aBin .rem (.int .u32 ((x + b.toNat : Nat) : Int)) (.int .u32 65521) = some (.int .u32 (((x + b.toNat) % 65521 : Nat) : Int)) := remU32 65521 (by omega)
    have hm : (x + b.toNat) % 65521 < 65521 := Nat.mod_lt _ (by omega)
    have w2 : IntKind.u32.wrap ((y : Int) + (((x + b.toNat) % 65521 : Nat) : Int)) = ((y + (x + b.toNat) % 65521 : Nat) : Int) := by rw [wrapU32 (by omega) (by omega)]; omega
    have q2 : aBin .rem (.int .u32 ((y + (x + b.toNat) % 65521 : Nat) : Int)) (.int .u32 65521) = some (.int .u32 (((y + (x + b.toNat) % 65521) % 65521 : Nat) : Int)) := remU32 65521 (by omega)
    simp only [sA, Int.reduceNegSucc, reduceCtorEq, Nat.reduceEqDiff, ↓reduceIte, Nat.reduceAdd, Int.reduceEq, Int.reduceLT, Int.reduceLE, g1, g5, g6, g7, hlen, hlt', hidx, hld, b_u32, w1, q1, w2, q2, wrap1 j (by omega)]
    exact ⟨_, by omega, j + 1, by omega, rfl, (by first | with_reducible rfl | trivial | rfl | assumption), by rw [hsn], by rw [hsn], (by first | with_reducible rfl | trivial | rfl | assumption), (by first | with_reducible rfl | trivial | rfl | assumption)⟩
  · have hlt' : ¬ (j : Int) < (s.length : Int) := by omega
    obtain rfl : j = s.length := by omega
    rw [List.take_length] at g5 g6 hx
    have hae := adler_eq sum s
    generalize (adlerF (adlerS sum) s).1 = x at *
    generalize (adlerF (adlerS sum) s).2 = y at *
    have s1 : IntKind.u32.wrap ((y : Int) * 65536) = ((y * 65536 : Nat) : Int) := by rw [wrapU32 (by omega) (by omega)]; omega
    have s2 : IntKind.u32.wrap (((y * 65536 : Nat) : Int) + (x : Int)) = ((y * 65536 + x : Nat) : Int) := by rw [wrapU32 (by omega) (by omega)]; omega
    simp only [sA, Int.reduceNegSucc, reduceCtorEq, Nat.reduceEqDiff, ↓reduceIte, Nat.reduceAdd, Int.reduceEq, Int.reduceLT, Int.reduceLE, g1, g5, g6, g7, hlen, hlt', s1, s2, ← hae]
    exact ⟨(by first | with_reducible rfl | trivial | rfl | assumption), (by first | with_reducible rfl | trivial | rfl | assumption)⟩
def fourL (n : Nat) : List Nat := [n / 16777216 % 256, n / 65536 % 256, n / 256 % 256, n % 256]
theorem build4 (H : AHeap) (a b c d : Int) : aBuildSl 4 [.int .u8 0] H [(0, 1, .int .u8 a), (1, 1, .int .u8 b), (2, 1, .int .u8 c), (3, 1, .int .u8 d)] = some (slR H.next 4 (.known 4), H.push (.cells [.int .u8 a, .int .u8 b, .int .u8 c, .int .u8 d] 0 false)) := _root_.id rfl
theorem rfour_spec (H : AHeap) (n : Nat) (hn : n < 2 ^ 32) :
    ACalls Try.prog natZ 41 [.int .u32 (n : Int)] H fun w H' => w = slR H.next 4 (.known 4) ∧ H' = H.push (.cells (u8s (fourL n)) 0 false) := by
  refine acalls_ofN rfl za41 rfl ?_
  have q1 : aBin .quo (.int .u32 (n : Int)) (.int .u32 16777216) = some (.int .u32 ((n / 16777216 : Nat) : Int)) := quoU32 16777216 (by omega) (by omega)
  have q2 : aBin .quo (.int .u32 (n : Int)) (.int .u32 65536) = some (.int .u32 ((n / 65536 : Nat) : Int)) := quoU32 65536 (by omega) (by omega)
  have q3 : aBin .quo (.int .u32 (n : Int)) (.int .u32 256) = some (.int .u32 ((n / 256 : Nat) : Int)) := quoU32 256 (by omega) (by omega)
  have w : ∀ a : Nat, IntKind.u8.wrap (a : Int) = ((a % 256 : Nat) : Int) := fun a => wrap_um .u8 (.inl rfl) a
  simp only [c41, sA, Int.reduceNegSucc, reduceCtorEq, Nat.reduceEqDiff, ↓reduceIte, Nat.reduceAdd, Int.reduceEq, Int.reduceLT, Int.reduceLE, q1, q2, q3, w, build4]
  exact ⟨(by first | with_reducible rfl | trivial | rfl | assumption), (by first | with_reducible rfl | trivial | rfl | assumption)⟩
theorem same_spec {n m : Nat} {H : AHeap} {u v : AVal} {s : Bs} (h : Cel n H u (byts s)) (k : Cel m H v (byts s)) :
    ACalls Try.prog natZ 15 [u, v] H fun w H' => w = .bool true ∧ H = H' := by
  refine acalls_ofN rfl za15 rfl ?_
  have b1 := bs_cel h
  have b2 := bs_cel k
  simp only [c15, sA, Int.reduceNegSucc, reduceCtorEq, Nat.reduceEqDiff, ↓reduceIte, Nat.reduceAdd, Int.reduceEq, Int.reduceLT, Int.reduceLE, b1, b2]
  exact ⟨(by first | with_reducible rfl | trivial | rfl | assumption), (by first | with_reducible rfl | trivial | rfl | assumption)⟩
end Go.Proofs.Zt
namespace Go.Proofs.Zt
open Go.Abs Go.Abs.S
set_option linter.unusedSimpArgs false
def rv (m s x : Nat) : Nat := (x / 2 ^ s &&& m) ||| ((x &&& m) * 2 ^ s % 2 ^ 32)
def rvb (x : Nat) : Nat := x / 2 ^ 16 ||| (x * 2 ^ 16 % 2 ^ 32)
def rev32 (x : Nat) : Nat := rvb (rv 16711935 8 (rv 252645135 4 (rv 858993459 2 (rv 1431655765 1 x))))
theorem rv_lt {m s x : Nat} (hm : m < 2 ^ 32) : rv m s x < 2 ^ 32 := Nat.or_lt_two_pow (Nat.and_lt_two_pow _ hm) (Nat.mod_lt _ (Nat.two_pow_pos _))
theorem rv_steps {x m s : Nat} {M S : Int} (hx : x < 2 ^ 32) (eM : M = (m : Int)) (eS : S = (s : Int)) (hm : m < 2 ^ 32) (hs : s ≤ 32) :
    aBin .shr (.int .u32 (x : Int)) (.int .u64 S) = some (.int .u32 ((x / 2 ^ s : Nat) : Int)) ∧
    aBin .and (.int .u32 ((x / 2 ^ s : Nat) : Int)) (.int .u32 M) = some (.int .u32 ((x / 2 ^ s &&& m : Nat) : Int)) ∧
    aBin .and (.int .u32 (x : Int)) (.int .u32 M) = some (.int .u32 ((x &&& m : Nat) : Int)) ∧
    aBin .shl (.int .u32 ((x &&& m : Nat) : Int)) (.int .u64 S) = some (.int .u32 (((x &&& m) * 2 ^ s % 2 ^ 32 : Nat) : Int)) ∧
    aBin .or (.int .u32 ((x / 2 ^ s &&& m : Nat) : Int)) (.int .u32 (((x &&& m) * 2 ^ s % 2 ^ 32 : Nat) : Int)) = some (.int .u32 ((rv m s x : Nat) : Int)) := by
  subst eM eS
  exact ⟨shrN .u32 .u64 x (b := s) hs, bin_andU .u32 (.inr (.inr (.inl rfl))) (Nat.lt_of_le_of_lt (Nat.div_le_self _ _) hx) hm, bin_andU .u32 (.inr (.inr (.inl rfl))) hx hm, bin_shlU .u32 .u64 (.inr (.inr (.inl rfl))) _ hs, bin_orU .u32 (.inr (.inr (.inl rfl))) (Nat.and_lt_two_pow _ hm) (Nat.mod_lt _ (Nat.two_pow_pos _))⟩
theorem revb_spec (H : AHeap) (x : Nat) (hx : x < 2 ^ 32) : ACalls Try.prog natZ 88 [.int .u32 (x : Int)] H fun w H' => w = .int .u32 ((rvb (rv 16711935 8 x) : Nat) : Int) ∧ H = H' := by
  refine acalls_ofN rfl za88 rfl ?_
  obtain ⟨a1, a2, a3, a4, a5⟩ := rv_steps (M := 16711935) (S := 8) (m := 16711935) (s := 8) hx rfl rfl (by omega) (by omega)
  have hy : rv 16711935 8 x < 2 ^ 32 := rv_lt (by omega)
  obtain ⟨y, ey⟩ : ∃ y, y = rv 16711935 8 x := ⟨_, rfl⟩
  rw [← ey] at hy a5
  have b1 : aBin .shr (.int .u32 (y : Int)) (.int .u64 16) = some (.int .u32 ((y / 2 ^ 16 : Nat) : Int)) := shrN .u32 .u64 y (b := 16) (by simp only [IntKind.bits]; omega)
  have b2 : aBin .shl (.int .u32 (y : Int)) (.int .u64 16) = some (.int .u32 ((y * 2 ^ 16 % 2 ^ 32 : Nat) : Int)) := bin_shlU .u32 .u64 (.inr (.inr (.inl rfl))) y (b := 16) (by simp only [IntKind.bits]; omega)
  have b3 : aBin .or (.int .u32 ((y / 2 ^ 16 : Nat) : Int)) (.int .u32 ((y * 2 ^ 16 % 2 ^ 32 : Nat) : Int)) = some (.int .u32 ((rvb y : Nat) : Int)) := bin_orU .u32 (.inr (.inr (.inl rfl))) (Nat.lt_of_le_of_lt (Nat.div_le_self _ _) hy) (Nat.mod_lt _ (Nat.two_pow_pos _))
  rw [← ey]
  simp only [c88, sA, Int.reduceNegSucc, reduceCtorEq, Nat.reduceEqDiff, ↓reduceIte, Nat.reduceAdd, Int.reduceEq, Int.reduceLT, Int.reduceLE, a1, a2, a3, a4, a5, b1, b2, b3]
  exact ⟨(by first | with_reducible rfl | trivial | rfl | assumption), (by first | with_reducible rfl | trivial | rfl | assumption)⟩
theorem rev_spec (H : AHeap) (x : Nat) (hx : x < 2 ^ 32) : ACalls Try.prog natZ 72 [.int .u32 (x : Int)] H fun w H' => w = .int .u32 ((rev32 x : Nat) : Int) ∧ H = H' := by
  refine acalls_ofN rfl za72 rfl ?_
  obtain ⟨a1, a2, a3, a4, a5⟩ := rv_steps (M := 1431655765) (S := 1) (m := 1431655765) (s := 1) hx rfl rfl (by omega) (by omega)
  obtain ⟨y, ey⟩ : ∃ y, y = rv 1431655765 1 x := ⟨_, rfl⟩
  have hy : y < 2 ^ 32 := by rw [ey]; exact rv_lt (by omega)
  rw [← ey] at a5
  obtain ⟨b1, b2, b3, b4, b5⟩ := rv_steps (M := 858993459) (S := 2) (m := 858993459) (s := 2) hy rfl rfl (by omega) (by omega)
  obtain ⟨z, ez⟩ : ∃ z, z = rv 858993459 2 y := ⟨_, rfl⟩
  have hz : z < 2 ^ 32 := by rw [ez]; exact rv_lt (by omega)
  rw [← ez] at b5
  obtain ⟨d1, d2, d3, d4, d5⟩ := rv_steps (M := 252645135) (S := 4) (m := 252645135) (s := 4) hz rfl rfl (by omega) (by omega)
  obtain ⟨u, eu⟩ : ∃ u, u = rv 252645135 4 z := ⟨_, rfl⟩
  have hu : u < 2 ^ 32 := by rw [eu]; exact rv_lt (by omega)
  rw [← eu] at d5
  simp only [c72, sA, Int.reduceNegSucc, reduceCtorEq, Nat.reduceEqDiff, ↓reduceIte, Nat.reduceAdd, Int.reduceEq, Int.reduceLT, Int.reduceLE, a1, a2, a3, a4, a5, b1, b2, b3, b4, b5, d1, d2, d3, d4, d5]
  refine (revb_spec H u hu).mono ?_
  rintro w _ ⟨rfl, rfl⟩
  simp only [sA, Int.reduceNegSucc, reduceCtorEq, Nat.reduceEqDiff, ↓reduceIte, Nat.reduceAdd, Int.reduceEq, Int.reduceLT, Int.reduceLE]
  refine ⟨?_, (by first | with_reducible rfl | trivial | rfl | assumption)⟩
  rw [eu, ez, ey]; rfl
def turnF (c w : Nat) : Nat × Nat := (rev32 c / 2 ^ (32 - w), w)
def fldV (f : Nat × Nat) : AVal := .agg [.int .u32 (f.1 : Int), .int .i64 (f.2 : Int)]
def fldC (f : Nat × Nat) : List AVal := [.int .u32 (f.1 : Int), .int .i64 (f.2 : Int)]
theorem buildF (a b : Int) : aBuild [.int .u32 0, .int .i64 0] [(0, 1, .int .u32 a), (1, 1, .int .i64 b)] = some (.agg [.int .u32 a, .int .i64 b]) := _root_.id rfl
theorem turned_spec (H : AHeap) (c w : Nat) (hc : c < 2 ^ 32) (hw : w ≤ 32) : ACalls Try.prog natZ 61 [.int .i64 (c : Int), .int .i64 (w : Int)] H fun v H' => v = fldV (turnF c w) ∧ Ext H.next H H' := by
  refine acalls_ofN rfl za61 rfl ?_
  obtain ⟨H1, m1, r1, k1, o1⟩ := row_newL H [.int .u32 0, .int .i64 0] (n := 2) rfl
  have w1 : IntKind.u32.wrap (c : Int) = (c : Int) := wrapU32 (by omega) (by omega)
  have w2 : IntKind.i64.wrap (32 - (w : Int)) = ((32 - w : Nat) : Int) := by rw [wrap64 (by omega) (by omega)]; omega
  have sh := shrN .u32 .i64 (rev32 c) (b := 32 - w) (by simp only [IntKind.bits]; omega)
  obtain ⟨H2, m2, r2, k2', o2⟩ := row_storeN r1 (n := 2) rfl (xs := fldC (turnF c w)) rfl rfl
  have m2' : oStore 2 H1 (cellR H.next 2 0) (.agg [.int .u32 ((rev32 c / 2 ^ (32 - w) : Nat) : Int), .int .i64 (w : Int)]) = some H2 := m2
  simp only [c61, sA, Int.reduceNegSucc, reduceCtorEq, Nat.reduceEqDiff, ↓reduceIte, Nat.reduceAdd, Int.reduceEq, Int.reduceLT, Int.reduceLE, m1, w1]
  refine (rev_spec H1 c hc).mono ?_
  rintro v _ ⟨rfl, rfl⟩
  simp only [sA, Int.reduceNegSucc, reduceCtorEq, Nat.reduceEqDiff, ↓reduceIte, Nat.reduceAdd, Int.reduceEq, Int.reduceLT, Int.reduceLE, w2, sh, buildF, m2']
  exact fin_1 _ _ _ (by simp only [sA, Int.reduceNegSucc, reduceCtorEq, Nat.reduceEqDiff, ↓reduceIte, Nat.reduceAdd, Int.reduceEq, Int.reduceLT, Int.reduceLE]; exact row_loadN r2 (n := 2) rfl) ⟨rfl, ⟨by omega, fun b hb => by rw [o2 b (by omega), o1 b (by omega)]⟩⟩
def symF (s : Nat) : Nat × Nat := turnF (codeF s).1 (codeF s).2
theorem symbol_spec (H : AHeap) (s : Nat) (hs : s ≤ 287) : ACalls Try.prog natZ 47 [.int .i64 (s : Int)] H fun v H' => v = fldV (symF s) ∧ Ext H.next H H' := by
  refine acalls_ofN rfl za47 rfl ?_
  obtain ⟨H1, m1, r1, k1, o1⟩ := row_newL H [.int .u32 0, .int .i64 0] (n := 2) rfl
  have tail : ∀ (c w : Nat), codeF s = (c, w) → c < 2 ^ 32 → w ≤ 32 → ∀ Q : AVal → AHeap → Prop, (∀ (H2 : AHeap) (H3 : AHeap), Ext H1.next H1 H2 → oStore 2 H2 (cellR H.next 2 0) (fldV (symF s)) = some H3 → oLoad true 2 H3 (cellR H.next 2 0) = some (fldV (symF s)) → Ext H.next H H3 → Q (fldV (symF s)) H2) → ACalls Try.prog natZ 61 [.int .i64 (c : Int), .int .i64 (w : Int)] H1 Q := by
    intro c w hc h1 h2 Q hQ
    refine (turned_spec H1 c w h1 h2).mono ?_
    rintro v H2 ⟨rfl, E⟩
    have en := E.next
    obtain ⟨H3, m3, r3, k3, o3⟩ := row_storeN (r1.same (E.old _ (by omega))) (n := 2) rfl (xs := fldC (turnF c w)) rfl rfl
    have e : symF s = turnF c w := by unfold symF; rw [hc]
    rw [← e] at m3 r3 ⊢
    exact hQ H2 H3 E m3 (row_loadN r3 (n := 2) rfl) ⟨by omega, fun b hb => by rw [o3 b (by omega), E.old b (by omega), o1 b (by omega)]⟩
  by_cases h1 : s < 144
  · have h1' : (s : Int) < 144 := by omega
    have w1 : IntKind.i64.wrap (48 + (s : Int)) = ((48 + s : Nat) : Int) := by rw [wrap64 (by omega) (by omega)]; omega
    have e : codeF s = (48 + s, 8) := by unfold codeF; rw [if_pos (by omega)]
    simp only [c47, sA, Int.reduceNegSucc, reduceCtorEq, Nat.reduceEqDiff, ↓reduceIte, Nat.reduceAdd, Int.reduceEq, Int.reduceLT, Int.reduceLE, m1, h1', w1]
    refine tail _ 8 e (by omega) (by omega) _ ?_
    intro H2 H3 E m3 l3 E3
    simp only [sA, Int.reduceNegSucc, reduceCtorEq, Nat.reduceEqDiff, ↓reduceIte, Nat.reduceAdd, Int.reduceEq, Int.reduceLT, Int.reduceLE, m3]
    exact fin_1 _ _ _ (by simp only [sA, Int.reduceNegSucc, reduceCtorEq, Nat.reduceEqDiff, ↓reduceIte, Nat.reduceAdd, Int.reduceEq, Int.reduceLT, Int.reduceLE]; exact l3) ⟨rfl, E3⟩
  · have h1' : ¬ (s : Int) < 144 := by omega
    by_cases h2 : s < 256
    · have h2' : (s : Int) < 256 := by omega
      have w1 : IntKind.i64.wrap (400 + (s : Int)) = ((400 + s : Nat) : Int) := by rw [wrap64 (by omega) (by omega)]; omega
      have w2 : IntKind.i64.wrap (((400 + s : Nat) : Int) - 144) = ((400 + s - 144 : Nat) : Int) := by rw [wrap64 (by omega) (by omega)]; omega
      have e : codeF s = (400 + s - 144, 9) := by unfold codeF; rw [if_neg (by omega), if_pos (by omega)]
      simp only [c47, sA, Int.reduceNegSucc, reduceCtorEq, Nat.reduceEqDiff, ↓reduceIte, Nat.reduceAdd, Int.reduceEq, Int.reduceLT, Int.reduceLE, m1, h1', h2', w1, w2]
      refine tail _ 9 e (by omega) (by omega) _ ?_
      intro H2 H3 E m3 l3 E3
      simp only [sA, Int.reduceNegSucc, reduceCtorEq, Nat.reduceEqDiff, ↓reduceIte, Nat.reduceAdd, Int.reduceEq, Int.reduceLT, Int.reduceLE, m3]
      exact fin_1 _ _ _ (by simp only [sA, Int.reduceNegSucc, reduceCtorEq, Nat.reduceEqDiff, ↓reduceIte, Nat.reduceAdd, Int.reduceEq, Int.reduceLT, Int.reduceLE]; exact l3) ⟨rfl, E3⟩
    · have h2' : ¬ (s : Int) < 256 := by omega
      by_cases h3 : s < 280
      · have h3' : (s : Int) < 280 := by omega
        have w1 : IntKind.i64.wrap ((s : Int) - 256) = ((s - 256 : Nat) : Int) := by rw [wrap64 (by omega) (by omega)]; omega
        have e : codeF s = (s - 256, 7) := by unfold codeF; rw [if_neg (by omega), if_neg (by omega), if_pos (by omega)]
        simp only [c47, sA, Int.reduceNegSucc, reduceCtorEq, Nat.reduceEqDiff, ↓reduceIte, Nat.reduceAdd, Int.reduceEq, Int.reduceLT, Int.reduceLE, m1, h1', h2', h3', w1]
        refine tail _ 7 e (by omega) (by omega) _ ?_
        intro H2 H3 E m3 l3 E3
        simp only [sA, Int.reduceNegSucc, reduceCtorEq, Nat.reduceEqDiff, ↓reduceIte, Nat.reduceAdd, Int.reduceEq, Int.reduceLT, Int.reduceLE, m3]
        exact fin_1 _ _ _ (by simp only [sA, Int.reduceNegSucc, reduceCtorEq, Nat.reduceEqDiff, ↓reduceIte, Nat.reduceAdd, Int.reduceEq, Int.reduceLT, Int.reduceLE]; exact l3) ⟨rfl, E3⟩
      · have h3' : ¬ (s : Int) < 280 := by omega
        have w1 : IntKind.i64.wrap (192 + (s : Int)) = ((192 + s : Nat) : Int) := by rw [wrap64 (by omega) (by omega)]; omega
        have w2 : IntKind.i64.wrap (((192 + s : Nat) : Int) - 280) = ((192 + s - 280 : Nat) : Int) := by rw [wrap64 (by omega) (by omega)]; omega
        have e : codeF s = (192 + s - 280, 8) := by unfold codeF; rw [if_neg (by omega), if_neg (by omega), if_neg (by omega)]
        simp only [c47, sA, Int.reduceNegSucc, reduceCtorEq, Nat.reduceEqDiff, ↓reduceIte, Nat.reduceAdd, Int.reduceEq, Int.reduceLT, Int.reduceLE, m1, h1', h2', h3', w1, w2]
        refine tail _ 8 e (by omega) (by omega) _ ?_
        intro H2 H3 E m3 l3 E3
        simp only [sA, Int.reduceNegSucc, reduceCtorEq, Nat.reduceEqDiff, ↓reduceIte, Nat.reduceAdd, Int.reduceEq, Int.reduceLT, Int.reduceLE, m3]
        exact fin_1 _ _ _ (by simp only [sA, Int.reduceNegSucc, reduceCtorEq, Nat.reduceEqDiff, ↓reduceIte, Nat.reduceAdd, Int.reduceEq, Int.reduceLT, Int.reduceLE]; exact l3) ⟨rfl, E3⟩
theorem fin_tc {T : Env} {H : AHeap} (i j : Nat) (K : AVal → AHeap → Prop) {v : AVal} (h : oLoad true 2 H (T j) = some v) (hk : K (.tuple [T i, v]) H) : fin [.t i, .cell true 2 j] K .ret T H := by
  simp only [fin, wRes, h, OptP_some]; exact hk
def wd4 (s : Nat) : Nat := s / 4 - 1
def wd2 (s : Nat) : Nat := s / 2 - 1
theorem pf_max (a b : Int) : aPf (.mm true) [.int .i64 a, .int .i64 b] = some (.int .i64 (if a < b then b else a)) := by
  simp only [aPf, aMMs, aMM, aMM1, ltF_eq, cond_true]
  by_cases h : a < b <;> simp [h]
theorem quo64 (a b : Nat) (h : 0 < b) (ha : a < 2 ^ 62) : aBin .quo (.int .i64 (a : Int)) (.int .i64 (b : Int)) = some (.int .i64 ((a / b : Nat) : Int)) := by
  have hq : a / b ≤ a := Nat.div_le_self _ _
  rw [bin_quo _ _ _ (by omega)]
  show some (AVal.int .i64 (IntKind.i64.wrap ((a / b : Nat) : Int))) = _
  generalize a / b = c at hq ⊢
  rw [wrap64 (by omega) (by omega)]
theorem wide1_spec (sp : Nat) (H : AHeap) (hs : sp ≤ 40) : ACalls Try.prog natZ 59 [.int .i64 (sp : Int)] H fun w H' => w = .int .i64 ((wd4 sp : Nat) : Int) ∧ H = H' := by
  refine acalls_ofN rfl za59 rfl ?_
  have q : aBin .quo (.int .i64 (sp : Int)) (.int .i64 4) = some (.int .i64 ((sp / 4 : Nat) : Int)) := quo64 sp 4 (by omega) (by omega)
  have w : IntKind.i64.wrap (((sp / 4 : Nat) : Int) - 1) = ((sp / 4 : Nat) : Int) - 1 := wrap64 (by omega) (by omega)
  have e : (if (0 : Int) < ((sp / 4 : Nat) : Int) - 1 then ((sp / 4 : Nat) : Int) - 1 else 0) = ((wd4 sp : Nat) : Int) := by unfold wd4; split <;> omega
  simp only [c59, sA, Int.reduceNegSucc, reduceCtorEq, Nat.reduceEqDiff, ↓reduceIte, Nat.reduceAdd, Int.reduceEq, Int.reduceLT, Int.reduceLE, q, w, pf_max, e]
  exact ⟨(by first | with_reducible rfl | trivial | rfl | assumption), (by first | with_reducible rfl | trivial | rfl | assumption)⟩
theorem wide2_spec (sp : Nat) (H : AHeap) (hs : sp ≤ 40) : ACalls Try.prog natZ 60 [.int .i64 (sp : Int)] H fun w H' => w = .int .i64 ((wd2 sp : Nat) : Int) ∧ H = H' := by
  refine acalls_ofN rfl za60 rfl ?_
  have q : aBin .quo (.int .i64 (sp : Int)) (.int .i64 2) = some (.int .i64 ((sp / 2 : Nat) : Int)) := quo64 sp 2 (by omega) (by omega)
  have w : IntKind.i64.wrap (((sp / 2 : Nat) : Int) - 1) = ((sp / 2 : Nat) : Int) - 1 := wrap64 (by omega) (by omega)
  have e : (if (0 : Int) < ((sp / 2 : Nat) : Int) - 1 then ((sp / 2 : Nat) : Int) - 1 else 0) = ((wd2 sp : Nat) : Int) := by unfold wd2; split <;> omega
  simp only [c60, sA, Int.reduceNegSucc, reduceCtorEq, Nat.reduceEqDiff, ↓reduceIte, Nat.reduceAdd, Int.reduceEq, Int.reduceLT, Int.reduceLE, q, w, pf_max, e]
  exact ⟨(by first | with_reducible rfl | trivial | rfl | assumption), (by first | with_reducible rfl | trivial | rfl | assumption)⟩
def amX (wd : Nat → Nat) (n : Nat) : Nat → Nat → Nat → Option (Nat × Nat)
  | 0, _, _ => none
  | f + 1, fr, sp => if 2 ^ wd sp ≤ n - fr then amX wd n f (fr + 2 ^ wd sp) (sp + 1) else some (sp, fr)
theorem among_spec {g : Nat} {wd : Nat → Nat} (hg : ∀ (sp : Nat) (H : AHeap), sp ≤ 40 → ACalls Try.prog natZ g [.int .i64 (sp : Int)] H fun w H' => w = .int .i64 ((wd sp : Nat) : Int) ∧ H = H') (hw : ∀ sp, sp ≤ 40 → wd sp ≤ 30)
    (n fr : Nat) (hn : n ≤ 1000000) (hf : fr ≤ n) {S F : Nat} (hR : amX wd n 40 fr 0 = some (S, F)) (H : AHeap) :
    ACalls Try.prog natZ 58 [.int .i64 (n : Int), .int .i64 (fr : Int), .func (.func g) [] []] H fun w H' => w = .tuple [.int .i64 (S : Int), fldV (n - F, wd S)] ∧ Ext H.next H H' := by
  refine acalls_ofN rfl za58 rfl ?_
  obtain ⟨H1, m1, r1, k1, o1⟩ := row_newL H [.int .u32 0, .int .i64 0] (n := 2) rfl
  simp only [c58, sA, Int.reduceNegSucc, reduceCtorEq, Nat.reduceEqDiff, ↓reduceIte, Nat.reduceAdd, Int.reduceEq, Int.reduceLT, Int.reduceLE, m1]
  refine aw_loop (fun q (T : Env) H' => ∃ (fr' sp : Nat), fr' ≤ n ∧ sp + q = 40 ∧ amX wd n q fr' sp = some (S, F) ∧ T 0 = .int .i64 (n : Int) ∧ T 1 = .int .i64 (fr' : Int) ∧ T 2 = .func (.func g) [] [] ∧ T 7 = cellR H.next 2 0 ∧ T 8 = .int .i64 (sp : Int) ∧ H1 = H') 40
    ⟨fr, 0, hf, rfl, hR, by simp only [sA, Int.reduceNegSucc, reduceCtorEq, Nat.reduceEqDiff, ↓reduceIte, Nat.reduceAdd, Int.reduceEq, Int.reduceLT, Int.reduceLE]; try rfl, by simp only [sA, Int.reduceNegSucc, reduceCtorEq, Nat.reduceEqDiff, ↓reduceIte, Nat.reduceAdd, Int.reduceEq, Int.reduceLT, Int.reduceLE]; try rfl, by simp only [sA, Int.reduceNegSucc, reduceCtorEq, Nat.reduceEqDiff, ↓reduceIte, Nat.reduceAdd, Int.reduceEq, Int.reduceLT, Int.reduceLE]; try rfl, by simp only [sA, Int.reduceNegSucc, reduceCtorEq, Nat.reduceEqDiff, ↓reduceIte, Nat.reduceAdd, Int.reduceEq, Int.reduceLT, Int.reduceLE]; try rfl, by simp only [sA, Int.reduceNegSucc, reduceCtorEq, Nat.reduceEqDiff, ↓reduceIte, Nat.reduceAdd, Int.reduceEq, Int.reduceLT, Int.reduceLE]; try rfl, rfl⟩ ?_
  rintro q T _ ⟨fr', sp, hf', hsq, hR', g0, g1, g2, g7, g8, rfl⟩
  cases q with
  | zero => simp [amX] at hR'
  | succ q =>
  have hwd := hw sp (by omega)
  have hpw : 2 ^ wd sp ≤ 2 ^ 30 := Nat.pow_le_pow_right (by omega) hwd
  have ws : IntKind.i64.wrap ((n : Int) - (fr' : Int)) = ((n - fr' : Nat) : Int) := by rw [wrap64 (by omega) (by omega)]; omega
  have sh : aBin .shl (.int .i64 1) (.int .i64 ((wd sp : Nat) : Int)) = some (.int .i64 ((2 ^ wd sp : Nat) : Int)) := by
    have := bin_shlN (k' := .i64) (a := 1) (b := wd sp) (by omega) (by omega)
    rw [Nat.one_mul] at this
    exact this
  simp only [sA, Int.reduceNegSucc, reduceCtorEq, Nat.reduceEqDiff, ↓reduceIte, Nat.reduceAdd, Int.reduceEq, Int.reduceLT, Int.reduceLE, g0, g1, g2, g8, ws]
  refine (hg sp H1 (by omega)).mono ?_
  rintro w _ ⟨rfl, rfl⟩
  by_cases hlt : 2 ^ wd sp ≤ n - fr'
  · have hlt' : ((2 ^ wd sp : Nat) : Int) ≤ ((n - fr' : Nat) : Int) := by omega
    simp only [sA, Int.reduceNegSucc, reduceCtorEq, Nat.reduceEqDiff, ↓reduceIte, Nat.reduceAdd, Int.reduceEq, Int.reduceLT, Int.reduceLE, g0, g1, g2, g8, sh, hlt']
    refine (hg sp H1 (by omega)).mono ?_
    rintro w _ ⟨rfl, rfl⟩
    simp only [amX] at hR'
    rw [if_pos hlt] at hR'
    simp only [sA, Int.reduceNegSucc, reduceCtorEq, Nat.reduceEqDiff, ↓reduceIte, Nat.reduceAdd, Int.reduceEq, Int.reduceLT, Int.reduceLE, g0, g1, g2, g8, sh, wrapN fr' (2 ^ wd sp) (by omega), wrap1 sp (by omega)]
    exact ⟨q, by omega, fr' + 2 ^ wd sp, sp + 1, by omega, by omega, hR', (by first | with_reducible rfl | trivial | rfl | assumption), (by first | with_reducible rfl | trivial | rfl | assumption), (by first | with_reducible rfl | trivial | rfl | assumption), (by first | with_reducible rfl | trivial | rfl | assumption), (by first | with_reducible rfl | trivial | rfl | assumption), (by first | with_reducible rfl | trivial | rfl | assumption)⟩
  · have hlt' : ¬ ((2 ^ wd sp : Nat) : Int) ≤ ((n - fr' : Nat) : Int) := by omega
    simp only [amX] at hR'
    rw [if_neg hlt] at hR'
    simp only [Option.some.injEq, Prod.mk.injEq] at hR'
    obtain ⟨rfl, rfl⟩ := hR'
    have w3 : IntKind.u32.wrap ((n - fr' : Nat) : Int) = ((n - fr' : Nat) : Int) := wrapU32 (by omega) (by omega)
    simp only [sA, Int.reduceNegSucc, reduceCtorEq, Nat.reduceEqDiff, ↓reduceIte, Nat.reduceAdd, Int.reduceEq, Int.reduceLT, Int.reduceLE, g0, g1, g2, g8, sh, hlt', ws, w3]
    refine (hg sp H1 (by omega)).mono ?_
    rintro w _ ⟨rfl, rfl⟩
    obtain ⟨H2, m2, r2, k2', o2⟩ := row_storeN r1 (n := 2) rfl (xs := fldC (n - fr', wd sp)) rfl rfl
    have m2' : oStore 2 H1 (cellR H.next 2 0) (.agg [.int .u32 ((n - fr' : Nat) : Int), .int .i64 ((wd sp : Nat) : Int)]) = some H2 := m2
    simp only [sA, Int.reduceNegSucc, reduceCtorEq, Nat.reduceEqDiff, ↓reduceIte, Nat.reduceAdd, Int.reduceEq, Int.reduceLT, Int.reduceLE, g7, buildF, m2']
    exact fin_tc _ _ _ (by simp only [sA, Int.reduceNegSucc, reduceCtorEq, Nat.reduceEqDiff, ↓reduceIte, Nat.reduceAdd, Int.reduceEq, Int.reduceLT, Int.reduceLE, g7]; exact row_loadN r2 (n := 2) rfl) ⟨by simp only [sA, Int.reduceNegSucc, reduceCtorEq, Nat.reduceEqDiff, ↓reduceIte, Nat.reduceAdd, Int.reduceEq, Int.reduceLT, Int.reduceLE]; rfl, ⟨by omega, fun b hb => by rw [o2 b (by omega), o1 b (by omega)]⟩⟩
end Go.Proofs.Zt
namespace Go.Abs.S
open Go.Abs
def LinM (m : Nat) (H : AHeap) (s : AVal) (L : List AVal) (k : Nat) : Prop :=
  (s = nilS ∧ L = [] ∧ k = 0) ∨ ∃ b C low r, s = .slice (some ⟨b, C.length, 0⟩) k r ∧ (r = .open_ m ∨ ∃ cap, r = .known cap ∧ k ≤ cap ∧ C.length = cap * m) ∧ H.get b = some (.cells C low false) ∧ low ≤ C.length ∧ C.take (k * m) = L ∧ L.length = k * m ∧ k * m ≤ C.length ∧ b < H.next
theorem LinM.len {m k : Nat} {H : AHeap} {s : AVal} {L : List AVal} (h : LinM m H s L k) : aLenK false s = some (.int .i64 (k : Int)) := by
  rcases h with ⟨rfl, _, rfl⟩ | ⟨b, C, low, r, rfl, _⟩ <;> rfl
theorem LinM.same {m k : Nat} {H H' : AHeap} {s : AVal} {L : List AVal} (h : LinM m H s L k) (hn : H.next ≤ H'.next) (e : Blk s fun c => H'.get c = H.get c) : LinM m H' s L k := by
  rcases h with h | ⟨b, C, low, r, rfl, h2, h3, h4, h5, h6, h7, h8⟩
  · exact .inl h
  · exact .inr ⟨b, C, low, r, rfl, h2, (e _ _ _ rfl).trans h3, h4, h5, h6, h7, by omega⟩
theorem LinM.blk {m k : Nat} {H : AHeap} {s : AVal} {L : List AVal} (h : LinM m H s L k) : Blk s (· < H.next) := by
  rcases h with ⟨rfl, _⟩ | ⟨b, C, low, r, rfl, h2, h3, h4, h5, h6, h7, h8⟩
  · exact blk_nil _
  · exact blk_some h8
theorem LinM.built {m k : Nat} (H : AHeap) {xs : List AVal} (hx : xs.length = k * m) : LinM m (H.push (.cells xs 0 false)) (.slice (some ⟨H.next, xs.length, 0⟩) k (.known k)) xs k :=
  .inr ⟨H.next, xs, 0, .known k, rfl, .inr ⟨k, rfl, Nat.le_refl _, hx⟩, by rw [AHeap.get_push]; exact if_pos rfl, Nat.zero_le _, by rw [← hx, List.take_length], hx, by omega, Nat.lt_succ_self _⟩
theorem LinM.many {m k j : Nat} {H : AHeap} {s x : AVal} {L xs : List AVal} (h : LinM m H s L k) (hs : aSrc m H x = some (j, xs)) (hx : xs.length = j * m) (ho : xs.all AVal.one = true) (hm : 0 < m) {bytes : Nat} (hb : 2 * (k + j) * bytes ≤ 281474976710656) (hb1 : 0 < bytes) :
    ∃ s' H', aAppend m bytes H s x = some (s', H') ∧ LinM m H' s' (L ++ xs) (k + j) ∧ H.next ≤ H'.next ∧ (∀ P, Blk s P → Blk s' fun b => P b ∨ H.next ≤ b) ∧ ∀ c, c < H.next → Blk s (c ≠ ·) → H'.get c = H.get c := by
  by_cases hj : j = 0
  · subst hj
    have hxs : xs = [] := List.length_eq_zero_iff.1 (by omega)
    subst hxs
    rw [List.append_nil, Nat.add_zero]
    refine ⟨s, H, ?_, h, Nat.le_refl _, fun P hP => hP.mono fun b hb => .inl hb, fun _ _ _ => rfl⟩
    simp only [aAppend, hs, show Nat.beq 0 0 = true from rfl, cond_true]
    rcases h with ⟨rfl, _⟩ | ⟨b, C, low, r, rfl, _⟩ <;> rfl
  have hxl : 0 < xs.length := by rw [hx]; exact Nat.mul_pos (by omega) hm
  have hlen : k + j ≤ 9223372036854775807 := by
    have : 2 * (k + j) ≤ 2 * (k + j) * bytes := Nat.le_mul_of_pos_right _ hb1
    omega
  have hlt : Nat.blt 0 m = true := by simpa [Nat.blt_eq] using hm
  have e0 : Nat.beq j 0 = false := by rw [beq_dec]; exact decide_eq_false hj
  have c1 : ∀ q, q = k → (Nat.blt 0 m && (Nat.ble ((2 * (q + j) + 0) * bytes) 281474976710656 && (Nat.ble (q + j) 9223372036854775807 && (Nat.beq xs.length (j * m) && xs.all AVal.one)))) = true := by
    intro q hq
    subst hq
    simp only [Nat.add_zero, Nat.ble_eq_true_of_le hb, Nat.ble_eq_true_of_le hlen, hx, Nat.beq_refl, ho, hlt, Bool.and_self]
  have hadd : (k + j) * m = k * m + j * m := Nat.add_mul _ _ _
  rcases h with ⟨rfl, rfl, rfl⟩ | ⟨b, C, low, r, rfl, h2, h3, h4, h5, h6, h7, h8⟩
  · refine ⟨.slice (some ⟨H.next, xs.length, 0⟩) j (.open_ m), H.push (.cells xs 0 false), ?_, .inr ⟨H.next, xs, 0, .open_ m, by simp, .inl rfl, by rw [AHeap.get_push]; exact if_pos rfl, Nat.zero_le _, by rw [Nat.zero_add, ← hx, List.take_length]; rfl, by simp [hx], by rw [Nat.zero_add]; omega, Nat.lt_succ_self _⟩, by simp [AHeap.push], fun P _ => blk_some (.inr (Nat.le_refl _)), fun c hc _ => get_push_lt hc⟩
    simp only [aAppend, hs, e0, cond_false, nilS]
    rw [c1 0 rfl, cond_true]
  · have hw : (k + j) * m ≤ C.length → wrCells H ⟨b, C.length, 0 + k * m⟩ xs = some (H.set b (.cells (C.take (k * m) ++ (xs ++ C.drop (k * m + j * m))) C.length false)) := by
      intro hle
      unfold wrCells
      simp only [h3, Nat.ble_eq_true_of_le h4, Nat.beq_refl, Nat.zero_add, hx, Nat.ble_eq_true_of_le (show k * m + j * m ≤ C.length by omega), ho, Bool.and_self, cond_true]
    have hl2 : (k + j) * m ≤ C.length → (C.take (k * m) ++ (xs ++ C.drop (k * m + j * m))).length = C.length := by
      intro hle; simp [hx]; omega
    have hL2 : (k + j) * m ≤ C.length → (C.take (k * m) ++ (xs ++ C.drop (k * m + j * m))).take ((k + j) * m) = L ++ xs := by
      intro hle
      have e : (k + j) * m = (L ++ xs).length := by rw [List.length_append, h6, hx, hadd]
      rw [h5, ← List.append_assoc, e, List.take_left]
    have hLl : (L ++ xs).length = (k + j) * m := by rw [List.length_append, h6, hx, hadd]
    have hr : rdCells H ⟨b, C.length, 0⟩ (k * m) = some L := by
      have := rd_row (H := H) ⟨low, h3, h4⟩ rfl (i := 0) (k := k * m) (by omega)
      rw [this, List.drop_zero, h5]
    rcases h2 with rfl | ⟨cap, rfl, hkc, hcap⟩
    · by_cases hin : (k + j) * m ≤ C.length
      · refine ⟨.slice (some ⟨b, C.length, 0⟩) (k + j) (.open_ m), H.set b (.cells (C.take (k * m) ++ (xs ++ C.drop (k * m + j * m))) C.length false), ?_, .inr ⟨b, C.take (k * m) ++ (xs ++ C.drop (k * m + j * m)), C.length, .open_ m, by rw [hl2 hin], .inl rfl, by rw [AHeap.get_set, if_pos rfl], by rw [hl2 hin]; exact Nat.le_refl _, hL2 hin, hLl, by rw [hl2 hin]; exact hin, h8⟩, Nat.le_refl _, fun P hP => (have q : P b := hP _ _ _ rfl; blk_some (.inl q)), fun c hc hd => by rw [AHeap.get_set, if_neg (hd _ _ _ rfl)]⟩
        simp only [aAppend, hs, e0, cond_false]
        rw [c1 k rfl, cond_true]
        simp only [Nat.beq_refl, cond_true, Nat.ble_eq_true_of_le (show 0 + (k + j) * m ≤ C.length by omega), hw hin]
      · have hgrow : growCells H ⟨b, C.length, 0⟩ (0 + k * m) xs = some (H.set b (.cells (C.take (0 + k * m) ++ xs) (bif Nat.beq (0 + k * m) C.length then low else 0 + k * m + xs.length) false)) := by
          unfold growCells
          simp only [h3, Nat.ble_eq_true_of_le h4, Nat.beq_refl, Nat.ble_eq_true_of_le (show 0 + k * m ≤ C.length by omega), Nat.ble_eq_true_of_le (Nat.zero_le _), Nat.ble_eq_true_of_le (show C.length + 1 ≤ 0 + k * m + xs.length by omega), ho, Bool.and_self, cond_true]
        have ei : Nat.ble (0 + (k + j) * m) C.length = false := by rw [ble_dec]; exact decide_eq_false (by omega)
        have eC : C.take (0 + k * m) ++ xs = L ++ xs := by rw [Nat.zero_add, h5]
        have eN : 0 + k * m + xs.length = (L ++ xs).length := by rw [hLl, hx, hadd, Nat.zero_add]
        rw [eC] at hgrow
        refine ⟨.slice (some ⟨b, 0 + k * m + xs.length, 0⟩) (k + j) (.open_ m), H.set b (.cells (L ++ xs) (bif Nat.beq (0 + k * m) C.length then low else 0 + k * m + xs.length) false), ?_, .inr ⟨b, L ++ xs, _, .open_ m, by rw [eN], .inl rfl, by rw [AHeap.get_set, if_pos rfl], ?_, by rw [← hLl, List.take_length], hLl, by omega, h8⟩, Nat.le_refl _, fun P hP => (have q : P b := hP _ _ _ rfl; blk_some (.inl q)), fun c hc hd => by rw [AHeap.get_set, if_neg (hd _ _ _ rfl)]⟩
        · simp only [aAppend, hs, e0, cond_false]
          rw [c1 k rfl, cond_true]
          simp only [Nat.beq_refl, cond_true, ei, cond_false, hgrow]
        · rw [← eN]
          cases Nat.beq (0 + k * m) C.length
          · exact Nat.le_refl _
          · simp only [cond_true]; omega
    · by_cases hin : k + j ≤ cap
      · have hle : (k + j) * m ≤ C.length := by rw [hcap]; exact Nat.mul_le_mul_right _ hin
        refine ⟨.slice (some ⟨b, C.length, 0⟩) (k + j) (.known cap), H.set b (.cells (C.take (k * m) ++ (xs ++ C.drop (k * m + j * m))) C.length false), ?_, .inr ⟨b, C.take (k * m) ++ (xs ++ C.drop (k * m + j * m)), C.length, .known cap, by rw [hl2 hle], .inr ⟨cap, rfl, hin, by rw [hl2 hle]; exact hcap⟩, by rw [AHeap.get_set, if_pos rfl], by rw [hl2 hle]; exact Nat.le_refl _, hL2 hle, hLl, by rw [hl2 hle]; exact hle, h8⟩, Nat.le_refl _, fun P hP => (have q : P b := hP _ _ _ rfl; blk_some (.inl q)), fun c hc hd => by rw [AHeap.get_set, if_neg (hd _ _ _ rfl)]⟩
        simp only [aAppend, hs, e0, cond_false]
        rw [c1 k rfl, cond_true]
        simp only [Nat.ble_eq_true_of_le hin, cond_true, hw hle]
      · have ei : Nat.ble (k + j) cap = false := by rw [ble_dec]; exact decide_eq_false hin
        refine ⟨.slice (some ⟨H.next, (L ++ xs).length, 0⟩) (k + j) (.open_ m), H.push (.cells (L ++ xs) 0 false), ?_, .inr ⟨H.next, L ++ xs, 0, .open_ m, rfl, .inl rfl, by rw [AHeap.get_push]; exact if_pos rfl, Nat.zero_le _, by rw [← hLl, List.take_length], hLl, by omega, Nat.lt_succ_self _⟩, by simp [AHeap.push], fun P _ => blk_some (.inr (Nat.le_refl _)), fun c hc _ => get_push_lt hc⟩
        simp only [aAppend, hs, e0, cond_false]
        rw [c1 k rfl, cond_true]
        simp only [ei, cond_false, hr]
theorem LinM.add {m k j : Nat} {H : AHeap} {s : AVal} {L xs : List AVal} (h : LinM m H s L k) (hx : xs.length = j * m) (ho : xs.all AVal.one = true) (hm : 0 < m) {bytes : Nat} (hb : 2 * (k + j) * bytes ≤ 281474976710656) (hb1 : 0 < bytes) :
    ∃ s' H', aAppend m bytes (H.push (.cells xs 0 false)) s (.slice (some ⟨H.next, xs.length, 0⟩) j (.known j)) = some (s', H') ∧ LinM m H' s' (L ++ xs) (k + j) ∧ H.next ≤ H'.next ∧ (∀ P, Blk s P → Blk s' fun b => P b ∨ H.next ≤ b) ∧ ∀ c, c < H.next → Blk s (c ≠ ·) → H'.get c = H.get c := by
  have hs : aSrc m (H.push (.cells xs 0 false)) (.slice (some ⟨H.next, xs.length, 0⟩) j (.known j)) = some (j, xs) := by
    have := rd_whole (H := H.push (.cells xs 0 false)) (b := H.next) (l := xs) (low := 0) (ro := false) (by rw [AHeap.get_push, if_pos rfl]) (Nat.zero_le _)
    simp only [aSrc, ← hx, this]
  obtain ⟨s', H', a1, a2, a3, a4, a5⟩ := (h.same (H' := H.push (.cells xs 0 false)) (by simp [AHeap.push]) (h.blk.mono fun b hb => get_push_lt hb)).many hs hx ho hm hb hb1
  simp only [push_next] at a3 a5
  exact ⟨s', H', a1, a2, by omega, fun P hP => (a4 P hP).mono fun b hb => hb.imp (fun q => q) fun q => by rw [push_next] at q; omega, fun c hc hd => (a5 c (by omega) hd).trans (get_push_lt hc)⟩
theorem LinM.zero {m k : Nat} {H : AHeap} {s : AVal} {L : List AVal} (h : LinM m H s L k) (hm : 0 < m) :
    ∃ s', aSl m s none (some (.int .i64 0)) none = some s' ∧ LinM m H s' [] 0 ∧ ∀ P, Blk s P → Blk s' P := by
  have b0 : ∀ l c, aBnd l c none (some (.int .i64 0)) none = some (0, 0, none) := by
    intro l c
    show (match bdO (some (AVal.int .i64 (Int.ofNat 0))) c l with | some h => (match bdO none h 0 with | some l => some (l, h, none) | none => none) | none => none) = _
    simp only [bdO, bd, Nat.ble_eq_true_of_le (Nat.zero_le _), cond_true]
  rcases h with ⟨rfl, rfl, rfl⟩ | ⟨b, C, low, r, rfl, h2, h3, h4, h5, h6, h7, h8⟩
  · exact ⟨nilS, rfl, .inl ⟨rfl, rfl, rfl⟩, fun P h => h⟩
  · rcases h2 with rfl | ⟨cap, rfl, hkc, hcap⟩
    · refine ⟨.slice (some ⟨b, C.length, 0⟩) 0 (.open_ m), ?_, .inr ⟨b, C, low, .open_ m, rfl, .inl rfl, h3, h4, by simp, by simp, by simp, h8⟩, fun P hP => (have q : P b := hP _ _ _ rfl; blk_some q)⟩
      simp only [aSl, Nat.beq_refl, cond_true, b0, Nat.zero_mul, Nat.add_zero, Nat.sub_zero, Nat.ble_eq_true_of_le (Nat.zero_le _)]
    · have hc : (bif Nat.beq cap 0 then some (AVal.slice (some ⟨b, C.length, 0⟩) 0 (.known cap)) else some (AVal.slice (some ⟨b, C.length, 0⟩) 0 (.known cap))) = some (AVal.slice (some ⟨b, C.length, 0⟩) 0 (.known cap)) := by cases Nat.beq cap 0 <;> rfl
      refine ⟨.slice (some ⟨b, C.length, 0⟩) 0 (.known cap), ?_, .inr ⟨b, C, low, .known cap, rfl, .inr ⟨cap, rfl, Nat.zero_le _, hcap⟩, h3, h4, by simp, by simp, by simp, h8⟩, fun P hP => (have q : P b := hP _ _ _ rfl; blk_some q)⟩
      simp only [aSl, b0, Option.getD_none, Nat.zero_mul, Nat.add_zero, Nat.sub_zero, hc]
theorem LinM.at {m k : Nat} {H : AHeap} {s : AVal} {L : List AVal} (h : LinM m H s L k) {i : Nat} (hi : i < k) : ∃ b lim, aIdxA m s (.int .i64 (i : Int)) = some (cellR b lim (i * m)) ∧ oLoad true m H (cellR b lim (i * m)) = some (.agg ((L.drop (i * m)).take m)) ∧ Blk s (b = ·) := by
  have him : i * m + m ≤ k * m := by
    have : (i + 1) * m ≤ k * m := Nat.mul_le_mul_right _ hi
    rwa [Nat.add_mul, Nat.one_mul] at this
  have hb : Nat.blt i k = true := by simpa [Nat.blt_eq] using hi
  rcases h with ⟨_, _, h⟩ | ⟨b, C, low, r, rfl, h2, h3, h4, h5, h6, h7, h8⟩
  · omega
  · refine ⟨b, C.length, ?_, ?_, blk_some rfl⟩
    · rcases h2 with rfl | ⟨cap, rfl, _⟩
      · exact idxM .i64 hi
      · show (bif Nat.blt i k then some (AVal.ptr (some ⟨b, C.length, 0 + i * m⟩)) else none) = _
        rw [hb, Nat.zero_add]; rfl
    · rw [row_loadK ⟨low, h3, h4⟩ rfl (by omega)]
      congr 2
      rw [← h5, List.drop_take, List.take_take, Nat.min_eq_left (by omega)]
end Go.Abs.S
namespace Go.Proofs.Zt
open Go.Abs Go.Abs.S
set_option linter.unusedSimpArgs false
def fldBits (fs : List (Nat × Nat)) : List Bool := fs.flatMap fun f => bitsN f.1 f.2
def fldOk (f : Nat × Nat) : Bool := Nat.blt f.1 (2 ^ f.2) && Nat.ble f.2 16
def flds (fs : List (Nat × Nat)) : List AVal := fs.flatMap fldC
theorem flds_append (a b : List (Nat × Nat)) : flds (a ++ b) = flds a ++ flds b := by simp [flds]
theorem fldBits_append (a b : List (Nat × Nat)) : fldBits (a ++ b) = fldBits a ++ fldBits b := by simp [fldBits]
theorem flds_len (fs : List (Nat × Nat)) : (flds fs).length = fs.length * 2 := by
  induction fs with
  | nil => rfl
  | cons f r ih =>
    have : flds (f :: r) = fldC f ++ flds r := by simp [flds]
    rw [this, List.length_append, ih, List.length_cons]; simp [fldC]; omega
theorem all_range {p : Nat → Bool} {n : Nat} (h : (List.range n).all p = true) {i : Nat} (hi : i < n) : p i = true := List.all_eq_true.1 h i (List.mem_range.2 hi)
theorem symF_ok {s : Nat} (hs : s < 286) : fldOk (symF s) = true ∧ bitsN (symF s).1 (symF s).2 = fixB s := by
  have h : (List.range 286).all (fun s => fldOk (symF s) && (bitsN (symF s).1 (symF s).2 == fixB s)) = true := by decide +kernel
  have := all_range h hs
  simp only [Bool.and_eq_true, beq_iff_eq] at this
  exact this
theorem turn5_ok {s : Nat} (hs : s < 32) : fldOk (turnF s 5) = true ∧ bitsN (turnF s 5).1 (turnF s 5).2 = (bitsN s 5).reverse := by
  have h : (List.range 32).all (fun s => fldOk (turnF s 5) && (bitsN (turnF s 5).1 (turnF s 5).2 == (bitsN s 5).reverse)) = true := by decide +kernel
  have := all_range h hs
  simp only [Bool.and_eq_true, beq_iff_eq] at this
  exact this
def lenR (n : Nat) : Nat × Nat := (find lenL n, lenL.getD (find lenL n) 0)
def disR (n : Nat) : Nat × Nat := (find disL n, disL.getD (find disL n) 0)
theorem len_ok {n : Nat} (h1 : 3 ≤ n) (h2 : n ≤ 257) : amX wd4 n 40 3 0 = some (lenR n) ∧ wd4 (lenR n).1 = lenE.getD (lenR n).1 0 ∧ (lenR n).1 ≤ 28 ∧ fldOk (n - (lenR n).2, wd4 (lenR n).1) = true := by
  have h : (List.range 258).all (fun n => Nat.blt n 3 || (decide (amX wd4 n 40 3 0 = some (lenR n)) && (decide (wd4 (lenR n).1 = lenE.getD (lenR n).1 0) && (decide ((lenR n).1 ≤ 28) && fldOk (n - (lenR n).2, wd4 (lenR n).1))))) = true := by decide +kernel
  have := all_range h (show n < 258 by omega)
  have h3 : Nat.blt n 3 = false := by rw [Bool.eq_false_iff]; intro h; rw [Nat.blt_eq] at h; omega
  simp only [h3, Bool.false_or, Bool.and_eq_true, decide_eq_true_eq] at this
  exact this
theorem dis_ok {n : Nat} (h1 : 1 ≤ n) (h2 : n ≤ 600) : amX wd2 n 40 1 0 = some (disR n) ∧ wd2 (disR n).1 = disE.getD (disR n).1 0 ∧ (disR n).1 ≤ 29 ∧ fldOk (n - (disR n).2, wd2 (disR n).1) = true := by
  have h : (List.range 601).all (fun n => Nat.blt n 1 || (decide (amX wd2 n 40 1 0 = some (disR n)) && (decide (wd2 (disR n).1 = disE.getD (disR n).1 0) && (decide ((disR n).1 ≤ 29) && fldOk (n - (disR n).2, wd2 (disR n).1))))) = true := by decide +kernel
  have := all_range h (show n < 601 by omega)
  have h3 : Nat.blt n 1 = false := by rw [Bool.eq_false_iff]; intro h; rw [Nat.blt_eq] at h; omega
  simp only [h3, Bool.false_or, Bool.and_eq_true, decide_eq_true_eq] at this
  exact this
def lenFl (n : Nat) : List (Nat × Nat) := if n = 258 then [symF 285] else [symF (257 + (lenR n).1), (n - (lenR n).2, wd4 (lenR n).1)]
def disFl (n : Nat) : List (Nat × Nat) := [turnF (disR n).1 5, (n - (disR n).2, wd2 (disR n).1)]
theorem lenFl_ok {n : Nat} (h1 : 3 ≤ n) (h2 : n ≤ 258) : fldBits (lenFl n) = lenB n ∧ ∀ f ∈ lenFl n, fldOk f = true := by
  unfold lenFl lenB
  by_cases h : n = 258
  · subst h
    rw [if_pos rfl]
    obtain ⟨a, b⟩ := symF_ok (s := 285) (by omega)
    refine ⟨?_, fun f hf => ?_⟩
    · have e : find lenL 258 = 28 := by decide +kernel
      rw [e]
      have e2 : fldBits [symF 285] = fixB 285 := by simp [fldBits, b]
      rw [e2]
      have e3 : bitsN (258 - lenL.getD 28 0) (lenE.getD 28 0) = [] := rfl
      rw [e3, List.append_nil]
    · rw [List.mem_singleton] at hf; rw [hf]; exact a
  · rw [if_neg h]
    obtain ⟨a1, a2, a3, a4⟩ := len_ok h1 (by omega)
    obtain ⟨b1, b2⟩ := symF_ok (s := 257 + (lenR n).1) (by omega)
    refine ⟨?_, fun f hf => ?_⟩
    · have e : fldBits [symF (257 + (lenR n).1), (n - (lenR n).2, wd4 (lenR n).1)] = bitsN (symF (257 + (lenR n).1)).1 (symF (257 + (lenR n).1)).2 ++ bitsN (n - (lenR n).2) (wd4 (lenR n).1) := by simp [fldBits]
      rw [e, b2, a2]; rfl
    · simp only [List.mem_cons, List.not_mem_nil, or_false] at hf
      rcases hf with rfl | rfl
      · exact b1
      · exact a4
theorem disFl_ok {n : Nat} (h1 : 1 ≤ n) (h2 : n ≤ 600) : fldBits (disFl n) = disB n ∧ ∀ f ∈ disFl n, fldOk f = true := by
  unfold disFl disB
  obtain ⟨a1, a2, a3, a4⟩ := dis_ok h1 h2
  obtain ⟨b1, b2⟩ := turn5_ok (s := (disR n).1) (by omega)
  refine ⟨?_, fun f hf => ?_⟩
  · have e : fldBits [turnF (disR n).1 5, (n - (disR n).2, wd2 (disR n).1)] = bitsN (turnF (disR n).1 5).1 (turnF (disR n).1 5).2 ++ bitsN (n - (disR n).2) (wd2 (disR n).1) := by simp [fldBits]
    rw [e, b2, a2]; rfl
  · simp only [List.mem_cons, List.not_mem_nil, or_false] at hf
    rcases hf with rfl | rfl
    · exact b1
    · exact a4
def Stp (v : AVal) (H : AHeap) (w : AVal) (H' : AHeap) : Prop := H.next ≤ H'.next ∧ (∀ P, Blk v P → Blk w fun b => P b ∨ H.next ≤ b) ∧ ∀ c, c < H.next → Blk v (c ≠ ·) → H'.get c = H.get c
theorem Stp.of_ext {v : AVal} {H H' : AHeap} (e : Ext H.next H H') : Stp v H v H' := ⟨e.next, fun _ hP => hP.mono fun _ hb => .inl hb, fun c hc _ => e.old c hc⟩
theorem Stp.trans {u v w : AVal} {H H' H'' : AHeap} (h : Stp u H v H') (k : Stp v H' w H'') : Stp u H w H'' :=
  ⟨Nat.le_trans h.1 k.1, fun P hP => (k.2.1 _ (h.2.1 P hP)).mono fun b hb => by
    rcases hb with hb | hb
    · exact hb
    · exact .inr (Nat.le_trans h.1 hb), fun c hc hd => (k.2.2 c (Nat.lt_of_lt_of_le hc h.1) ((h.2.1 _ hd).mono fun b hb => by
    rcases hb with hb | hb
    · exact hb
    · omega)).trans (h.2.2 c hc hd)⟩
theorem buildF1 (H : AHeap) (f : Nat × Nat) : aBuildSl 1 [.int .u32 0, .int .i64 0] H [(0, 2, fldV f)] = some (.slice (some ⟨H.next, 2, 0⟩) 1 (.known 1), H.push (.cells (fldC f) 0 false)) := _root_.id rfl
theorem buildF2 (H : AHeap) (f g : Nat × Nat) : aBuildSl 2 [.int .u32 0, .int .i64 0] H [(0, 2, fldV f), (2, 2, fldV g)] = some (.slice (some ⟨H.next, 4, 0⟩) 2 (.known 2), H.push (.cells (flds [f, g]) 0 false)) := _root_.id rfl
theorem fldV_aeq (f : Nat × Nat) : aeq (fldV f) (fldV f) = true := by simp [aeq, aeqs, fldV, eqF_eq]
def FL (H : AHeap) (v : AVal) (fs : List (Nat × Nat)) : Prop := LinM 2 H v (flds fs) fs.length
theorem FL.add {H : AHeap} {v : AVal} {fs : List (Nat × Nat)} (h : FL H v fs) (gs : List (Nat × Nat)) (hl : fs.length + gs.length ≤ 1000000) :
    ∃ w H', aAppend 2 16 (H.push (.cells (flds gs) 0 false)) v (.slice (some ⟨H.next, gs.length * 2, 0⟩) gs.length (.known gs.length)) = some (w, H') ∧ FL H' w (fs ++ gs) ∧ Stp v H w H' := by
  have ho : (flds gs).all AVal.one = true := by
    rw [List.all_eq_true]
    intro x hx
    simp only [flds, List.mem_flatMap] at hx
    obtain ⟨f, _, hf⟩ := hx
    simp only [fldC, List.mem_cons, List.not_mem_nil, or_false] at hf
    rcases hf with rfl | rfl <;> rfl
  obtain ⟨w, H', a1, a2, a3, a4, a5⟩ := LinM.add h (xs := flds gs) (j := gs.length) (flds_len gs) ho (by omega) (bytes := 16) (by omega) (by omega)
  rw [flds_len] at a1
  refine ⟨w, H', a1, ?_, a3, a4, a5⟩
  show LinM 2 H' w (flds (fs ++ gs)) (fs ++ gs).length
  rw [flds_append, List.length_append]; exact a2
theorem FL.ext {H H' : AHeap} {v : AVal} {fs : List (Nat × Nat)} (h : FL H v fs) (e : Ext H.next H H') : FL H' v fs := LinM.same h e.next (LinM.blk h |>.mono fun b hb => e.old b hb)
theorem matched_tail {H : AHeap} {v : AVal} {fs : List (Nat × Nat)} {T : Env} {Q : Post} (back : Nat) (g0 : T 0 = v) (g2 : T 2 = .int .i64 (back : Int)) (h : FL H v fs) (hl : fs.length ≤ 100000) (h1 : 1 ≤ back) (h2 : back ≤ 600)
    (hQ : ∀ T2 H2, FL H2 (T2 6) (fs ++ disFl back) → Stp v H (T2 6) H2 → Q .ret T2 H2) :
    wp (ACalls Try.prog natZ) (hold (restP [1, 1] c46.body)) Q T H := by
  obtain ⟨a1, a2, a3, a4⟩ := dis_ok h1 h2
  obtain ⟨S, F, hSF⟩ : ∃ S F, disR back = (S, F) := ⟨_, _, rfl⟩
  rw [hSF] at a1 a2 a3 a4
  simp only [c46, restP, hold_eq, sA, Int.reduceNegSucc, reduceCtorEq, Nat.reduceEqDiff, ↓reduceIte, Nat.reduceAdd, Int.reduceEq, Int.reduceLT, Int.reduceLE, g0, g2]
  refine (among_spec (g := 60) wide2_spec (fun s hs => by unfold wd2; omega) back 1 (by omega) h1 a1 H).mono ?_
  rintro w H1 ⟨rfl, E1⟩
  have n1 := E1.next
  obtain ⟨H2, m2, r2, k2', o2⟩ := row_newL H1 [.int .u32 0, .int .i64 0] (n := 2) rfl
  obtain ⟨H3, m3, r3, k3, o3⟩ := row_storeN r2 (n := 2) rfl (xs := fldC (back - F, wd2 S)) rfl rfl
  have m3' : oStore 2 H2 (cellR H1.next 2 0) (fldV (back - F, wd2 S)) = some H3 := m3
  have E3 : Ext H1.next H1 H3 := ⟨by omega, fun c hc => by rw [o3 c (by omega), o2 c (by omega)]⟩
  have l3 : oLoad true 2 H3 (cellR H1.next 2 0) = some (fldV (back - F, wd2 S)) := row_loadN r3 (n := 2) rfl
  simp only [sA, Int.reduceNegSucc, reduceCtorEq, Nat.reduceEqDiff, ↓reduceIte, Nat.reduceAdd, Int.reduceEq, Int.reduceLT, Int.reduceLE, ext_0, ext_1, m2, m3']
  refine aw_drawC rfl ?_
  simp only [sA, Int.reduceNegSucc, reduceCtorEq, Nat.reduceEqDiff, ↓reduceIte, Nat.reduceAdd, Int.reduceEq, Int.reduceLT, Int.reduceLE, sR, g0]
  refine (turned_spec H3 S 5 (by omega) (by omega)).mono ?_
  rintro w H4 ⟨rfl, E4⟩
  have l4 : oLoad true 2 H4 (cellR H1.next 2 0) = some (fldV (back - F, wd2 S)) := row_loadN (r3.same (E4.old _ (by omega))) (n := 2) rfl
  have E14 : Ext H.next H H4 := E1.trans ((E3.less n1).trans (E4.less (by omega)))
  obtain ⟨w, H5, m5, A5, S5⟩ := (h.ext E14).add [turnF S 5, (back - F, wd2 S)] (by simp; omega)
  have m5' : aAppend 2 16 (H4.push (.cells (flds [turnF S 5, (back - F, wd2 S)]) 0 false)) v (.slice (some ⟨H4.next, 4, 0⟩) 2 (.known 2)) = some (w, H5) := m5
  simp only [sA, Int.reduceNegSucc, reduceCtorEq, Nat.reduceEqDiff, ↓reduceIte, Nat.reduceAdd, Int.reduceEq, Int.reduceLT, Int.reduceLE, sR, g0, l4, buildF2, m5']
  simp only [ck_nil', ck_cons, ckP_load, ckP_nil, ck_end, and_true, true_and, List.map_cons, List.map_nil, sA, Int.reduceNegSucc, reduceCtorEq, Nat.reduceEqDiff, ↓reduceIte, Nat.reduceAdd, Int.reduceEq, Int.reduceLT, Int.reduceLE, l3]
  refine ⟨⟨_, rfl, fun _ => ⟨_, l3, fldV_aeq _⟩⟩, ?_⟩
  have e : disFl back = [turnF S 5, (back - F, wd2 S)] := by unfold disFl; rw [hSF]
  refine hQ _ _ ?_ ?_
  · simp only [sA, Int.reduceNegSucc, reduceCtorEq, Nat.reduceEqDiff, ↓reduceIte, Nat.reduceAdd, Int.reduceEq, Int.reduceLT, Int.reduceLE]; rw [e]; exact A5
  · simp only [sA, Int.reduceNegSucc, reduceCtorEq, Nat.reduceEqDiff, ↓reduceIte, Nat.reduceAdd, Int.reduceEq, Int.reduceLT, Int.reduceLE]; exact (Stp.of_ext E14).trans S5
theorem matched_spec {H : AHeap} {v : AVal} {fs : List (Nat × Nat)} (n back : Nat) (h : FL H v fs) (hl : fs.length ≤ 10000) (hn : 3 ≤ n) (hn2 : n ≤ 258) (h1 : 1 ≤ back) (h2 : back ≤ 600) :
    ACalls Try.prog natZ 46 [v, .int .i64 (n : Int), .int .i64 (back : Int)] H fun w H' => FL H' w (fs ++ (lenFl n ++ disFl back)) ∧ Stp v H w H' := by
  refine acalls_ofN rfl za46 rfl ?_
  refine wp_cutP [1, 1] ?_
  by_cases h258 : n = 258
  · have h258' : (n : Int) = 258 := by omega
    simp only [c46, sC, sA, Int.reduceNegSucc, reduceCtorEq, Nat.reduceEqDiff, ↓reduceIte, Nat.reduceAdd, Int.reduceEq, Int.reduceLT, Int.reduceLE, h258']
    refine (symbol_spec H 285 (by omega)).mono ?_
    rintro w H1 ⟨rfl, E1⟩
    obtain ⟨w, H2, m2, A2, S2⟩ := (h.ext E1).add [symF 285] (by simp; omega)
    have m2' : aAppend 2 16 (H1.push (.cells (fldC (symF 285)) 0 false)) v (.slice (some ⟨H1.next, 2, 0⟩) 1 (.known 1)) = some (w, H2) := m2
    simp only [sA, Int.reduceNegSucc, reduceCtorEq, Nat.reduceEqDiff, ↓reduceIte, Nat.reduceAdd, Int.reduceEq, Int.reduceLT, Int.reduceLE, buildF1, m2']
    refine matched_tail back (by simp only [sA, Int.reduceNegSucc, reduceCtorEq, Nat.reduceEqDiff, ↓reduceIte, Nat.reduceAdd, Int.reduceEq, Int.reduceLT, Int.reduceLE]) (by simp only [sA, Int.reduceNegSucc, reduceCtorEq, Nat.reduceEqDiff, ↓reduceIte, Nat.reduceAdd, Int.reduceEq, Int.reduceLT, Int.reduceLE]) A2 (by simp; omega) h1 h2 ?_
    intro T2 H3 A3 S3
    simp only [sA, Int.reduceNegSucc, reduceCtorEq, Nat.reduceEqDiff, ↓reduceIte, Nat.reduceAdd, Int.reduceEq, Int.reduceLT, Int.reduceLE]
    have e : lenFl n = [symF 285] := by unfold lenFl; rw [if_pos h258]
    rw [e, ← List.append_assoc]
    exact ⟨A3, ((Stp.of_ext E1).trans S2).trans S3⟩
  · have h258' : ¬ (n : Int) = 258 := by omega
    obtain ⟨a1, a2, a3, a4⟩ := len_ok hn (by omega)
    have e : lenFl n = [symF (257 + (lenR n).1), (n - (lenR n).2, wd4 (lenR n).1)] := by unfold lenFl; rw [if_neg h258]
    obtain ⟨S, F, hSF⟩ : ∃ S F, lenR n = (S, F) := ⟨_, _, rfl⟩
    rw [hSF] at a1 a2 a3 a4 e
    simp only [c46, sC, sA, Int.reduceNegSucc, reduceCtorEq, Nat.reduceEqDiff, ↓reduceIte, Nat.reduceAdd, Int.reduceEq, Int.reduceLT, Int.reduceLE, h258']
    refine (among_spec (g := 59) wide1_spec (fun s hs => by unfold wd4; omega) n 3 (by omega) hn a1 H).mono ?_
    rintro w H1 ⟨rfl, E1⟩
    have n1 := E1.next
    obtain ⟨H2, m2, r2, k2', o2⟩ := row_newL H1 [.int .u32 0, .int .i64 0] (n := 2) rfl
    obtain ⟨H3, m3, r3, k3, o3⟩ := row_storeN r2 (n := 2) rfl (xs := fldC (n - F, wd4 S)) rfl rfl
    have m3' : oStore 2 H2 (cellR H1.next 2 0) (fldV (n - F, wd4 S)) = some H3 := m3
    have E3 : Ext H1.next H1 H3 := ⟨by omega, fun c hc => by rw [o3 c (by omega), o2 c (by omega)]⟩
    have l3 : oLoad true 2 H3 (cellR H1.next 2 0) = some (fldV (n - F, wd4 S)) := row_loadN r3 (n := 2) rfl
    have wS : IntKind.i64.wrap (257 + (S : Int)) = ((257 + S : Nat) : Int) := by rw [wrap64 (by omega) (by omega)]; omega
    simp only [sA, Int.reduceNegSucc, reduceCtorEq, Nat.reduceEqDiff, ↓reduceIte, Nat.reduceAdd, Int.reduceEq, Int.reduceLT, Int.reduceLE, ext_0, ext_1, m2, m3']
    refine aw_drawC rfl ?_
    simp only [sA, Int.reduceNegSucc, reduceCtorEq, Nat.reduceEqDiff, ↓reduceIte, Nat.reduceAdd, Int.reduceEq, Int.reduceLT, Int.reduceLE, sR, wS]
    refine (symbol_spec H3 (257 + S) (by omega)).mono ?_
    rintro w H4 ⟨rfl, E4⟩
    have l4 : oLoad true 2 H4 (cellR H1.next 2 0) = some (fldV (n - F, wd4 S)) := row_loadN (r3.same (E4.old _ (by omega))) (n := 2) rfl
    have E14 : Ext H.next H H4 := E1.trans ((E3.less n1).trans (E4.less (by omega)))
    obtain ⟨w, H5, m5, A5, S5⟩ := (h.ext E14).add [symF (257 + S), (n - F, wd4 S)] (by simp; omega)
    have m5' : aAppend 2 16 (H4.push (.cells (flds [symF (257 + S), (n - F, wd4 S)]) 0 false)) v (.slice (some ⟨H4.next, 4, 0⟩) 2 (.known 2)) = some (w, H5) := m5
    simp only [sA, Int.reduceNegSucc, reduceCtorEq, Nat.reduceEqDiff, ↓reduceIte, Nat.reduceAdd, Int.reduceEq, Int.reduceLT, Int.reduceLE, sR, l4, buildF2, m5']
    simp only [ck_nil', ck_cons, ckP_load, ckP_nil, ck_end, and_true, true_and, List.map_cons, List.map_nil, sA, Int.reduceNegSucc, reduceCtorEq, Nat.reduceEqDiff, ↓reduceIte, Nat.reduceAdd, Int.reduceEq, Int.reduceLT, Int.reduceLE, l3]
    refine ⟨⟨_, rfl, fun _ => ⟨_, l3, fldV_aeq _⟩⟩, ?_⟩
    refine matched_tail back (by simp only [sA, Int.reduceNegSucc, reduceCtorEq, Nat.reduceEqDiff, ↓reduceIte, Nat.reduceAdd, Int.reduceEq, Int.reduceLT, Int.reduceLE]) (by simp only [sA, Int.reduceNegSucc, reduceCtorEq, Nat.reduceEqDiff, ↓reduceIte, Nat.reduceAdd, Int.reduceEq, Int.reduceLT, Int.reduceLE]) A5 (by simp; omega) h1 h2 ?_
    intro T2 H6 A6 S6
    simp only [sA, Int.reduceNegSucc, reduceCtorEq, Nat.reduceEqDiff, ↓reduceIte, Nat.reduceAdd, Int.reduceEq, Int.reduceLT, Int.reduceLE]
    rw [e, ← List.append_assoc]
    exact ⟨A6, ((Stp.of_ext E14).trans S5).trans S6⟩
end Go.Proofs.Zt
