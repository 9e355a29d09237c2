/- Part of a proof (Z12 Z13 Z14 Z15 Z16 Z17 Z18 Z19 Z20 Z21 Z22 Z23); no condition. -/
import Derived.Test.YtbighbbpahngiaaP15
set_option linter.unusedSimpArgs false
set_option linter.unusedVariables false
set_option linter.unnecessarySimpa false
namespace Go.Proofs.Zt
open Go.Abs Go.Abs.S
set_option linter.unusedSimpArgs false
theorem rend6_spec {H : AHeap} {av sv : AVal} {b : Bs} (h : DW H av sv b []) (hl : b.length ≤ 600) :
    ACalls Try.prog natZ 40 [.agg [av, .int .i64 0, sv, .int .i64 0, .bool false]] H fun w H' => ∃ x1 x2 x3 x4 s, w = .tuple [.agg [av, x1, x2, x3, x4], s, .int .i64 0] ∧ x1.one = true ∧ x2.one = true ∧ x3.one = true ∧ x4.one = true ∧ (∀ u c, aeq u u = true → aeq (.agg [u, x1, x2, x3, x4, .bool c]) (.agg [u, x1, x2, x3, x4, .bool c]) = true) ∧ AppN 1 H.next H' s (u8s (pack (endB b))) (pack (endB b)).length ∧ Ext H.next H H' := by
  obtain ⟨ha, hw⟩ := h
  have hsv : sv.one = true := by
    obtain ⟨_, esv, hsv⟩ := rw_val hw
    simp only [AVal.agg.injEq, List.cons.injEq, and_true] at esv
    rw [esv.1]; exact hsv
  refine acalls_ofN rfl za40 rfl ?_
  obtain ⟨H1, m1, r1, k1, o1⟩ := row_newL H [av, .int .i64 0, sv, .int .i64 0, .bool false] (n := 5) rfl
  obtain ⟨H2, m2, r2, k2', o2⟩ := row_newL H1 [.slice none 0 (.known 0), .int .i64 0, .slice none 0 (.known 0), .int .i64 0, .bool false] (n := 5) rfl
  have E2 : Ext H.next H H2 := ⟨by omega, fun c hc => by rw [o2 c (by omega), o1 c (by omega)]⟩
  have R2 : Row H2 H.next [av, .int .i64 0, sv, .int .i64 0, .bool false] := r1.same (o2 _ (by omega))
  have l4 : oLoad false 1 H2 (cellR H.next 5 4) = some (.bool false) := row_load R2 rfl rfl
  have l0 : oLoad false 1 H2 (cellR H.next 5 0) = some av := row_load R2 rfl rfl
  have l5 : oLoad true 5 H2 (cellR H.next 5 0) = some (.agg [av, .int .i64 0, sv, .int .i64 0, .bool false]) := row_loadN R2 (n := 5) rfl
  have hlen : aLenK false av = some (.int .i64 (b.length : Int)) := ha.len
  have av1 := app_one ha
  simp only [c40, sA, Int.reduceNegSucc, reduceCtorEq, Nat.reduceEqDiff, ↓reduceIte, Nat.reduceAdd, Int.reduceEq, Int.reduceLT, Int.reduceLE, cells_agg, m1, m2, fldA, fld0, l4, l0, l5, hlen]
  refine (rblock_spec (ha.ext E2) (hw.fwd E2) b.length 1 (Nat.le_refl _) hl (by omega) (by simp)).mono ?_
  rintro _ H3 ⟨s3, rfl, w3, b3, E3⟩
  have n3 := E3.next
  rw [List.nil_append] at w3
  obtain ⟨_, es3, hs3⟩ := rw_val w3
  simp only [AVal.agg.injEq, List.cons.injEq, and_true] at es3
  obtain ⟨rfl, _⟩ := es3
  have hv3 : VB (.agg [s3, .int .i64 0]) fun b => b < H.next ∨ H2.next ≤ b := b3 _ hw.vb
  obtain ⟨H4, m4, r4, k4, o4⟩ := row_storeN (R2.same (E3.old _ (by omega))) (n := 5) rfl (xs := [av, .int .i64 (b.length : Int), s3, .int .i64 0, .bool false]) rfl (by simp only [List.all_cons, List.all_nil, av1, hs3]; rfl)
  have l42 : oLoad true 2 H4 (cellR H.next 5 2) = some (.agg [s3, .int .i64 0]) := row_loadK r4 (n := 5) rfl (i := 2) (k := 2) (by omega)
  have w4 : RW H4.next H4 (.agg [s3, .int .i64 0]) (blockB 0 b 0 b.length 1) 0 := rw_same w3 (by omega) (hv3.mono fun b hb => o4 b (by omega))
  have hbl := blockB_len b hl
  simp only [sA, Int.reduceNegSucc, reduceCtorEq, Nat.reduceEqDiff, ↓reduceIte, Nat.reduceAdd, Int.reduceEq, Int.reduceLT, Int.reduceLE, fldA, fld0, m4, l42]
  refine (ralign_spec w4 (by omega)).mono ?_
  rintro w5 H5 ⟨q5, b5, E5⟩
  have n5 := E5.next
  obtain ⟨s5, rfl, hs5⟩ := rw_val q5
  have q5 : RW H5.next H5 (.agg [s5, .int .i64 ((0 : Nat) : Int)]) (endB b) 0 := q5
  have hv5 : VB (.agg [s5, .int .i64 ((0 : Nat) : Int)]) fun b => (b < H.next ∨ H2.next ≤ b) ∨ H4.next ≤ b := b5 _ hv3
  obtain ⟨H6, m6, r6, k6, o6⟩ := row_storeK (r4.same (E5.old _ (by omega))) (n := 5) rfl (i := 2) (k := 2) (by omega) (xs := [s5, .int .i64 0]) rfl (by simp only [List.all_cons, List.all_nil, hs5]; rfl)
  have r6' : Row H6 H.next [av, .int .i64 (b.length : Int), s5, .int .i64 0, .bool false] := r6
  obtain ⟨H7, m7, r7, k7, o7⟩ := row_st r6' (n := 5) rfl (i := 4) (by omega) (x := .bool true) rfl rfl
  have r7' : Row H7 H.next [av, .int .i64 (b.length : Int), s5, .int .i64 0, .bool true] := r7
  have l72 : oLoad true 2 H7 (cellR H.next 5 2) = some (.agg [s5, .int .i64 0]) := row_loadK r7' (n := 5) rfl (i := 2) (k := 2) (by omega)
  have w7 : RW H7.next H7 (.agg [s5, .int .i64 ((0 : Nat) : Int)]) (endB b) 0 := rw_same q5 (by omega) (hv5.mono fun b hb => by rw [o7 b (by omega), o6 b (by omega)])
  have hel := endB_len2 b hl
  simp only [sA, Int.reduceNegSucc, reduceCtorEq, Nat.reduceEqDiff, ↓reduceIte, Nat.reduceAdd, Int.reduceEq, Int.reduceLT, Int.reduceLE, fldA, fld0, m6, m7, l72]
  refine (rtake_spec w7 (by omega)).mono ?_
  rintro _ H8 ⟨v8, s, rfl, q8, A8, b8, E8⟩
  have n8 := E8.next
  obtain ⟨s8, rfl, hs8⟩ := rw_val q8
  have hv8 := b8 _ hv5
  obtain ⟨t8, ht8⟩ : ∃ t, t = (endB b).length / 8 := ⟨_, rfl⟩
  rw [← ht8] at q8 hv8
  obtain ⟨H9, m9, r9, k9, o9⟩ := row_newL H8 [.slice none 0 (.known 0), .int .i64 0] (n := 2) rfl
  obtain ⟨H10, m10, q10, w10, k10, o10⟩ := rw_store (q8.fwd (Ext.of_new k9 o9 (Nat.le_refl _))) (q := H8.next) ⟨_, rfl, rfl, r9⟩ ((q8.vb).mono fun b hb => by omega)
  have l10 : oLoad true 2 H10 (cellR H8.next 2 0) = some (.agg [s8, .int .i64 (t8 : Int)]) := q10.load
  have og : ∀ c, c < H7.next → H10.get c = H7.get c := fun c hc => by rw [o10 c (by omega), o9 c (by omega), E8.old c hc]
  obtain ⟨H11, m11, r11, k11, o11⟩ := row_storeK (r7'.same (og _ (by omega))) (n := 5) rfl (i := 2) (k := 2) (by omega) (xs := [s8, .int .i64 (t8 : Int)]) rfl (by simp only [List.all_cons, List.all_nil, hs8]; rfl)
  have r11' : Row H11 H.next [av, .int .i64 (b.length : Int), s8, .int .i64 (t8 : Int), .bool true] := r11
  have l11 : oLoad true 5 H11 (cellR H.next 5 0) = some (.agg [av, .int .i64 (b.length : Int), s8, .int .i64 (t8 : Int), .bool true]) := row_loadN r11' (n := 5) rfl
  have R91 : Row H11 H1.next [.slice none 0 (.known 0), .int .i64 0, .slice none 0 (.known 0), .int .i64 0, .bool false] := r2.same (by rw [o11 _ (by omega), og _ (by omega), o7 _ (by omega), o6 _ (by omega), E5.old _ (by omega), o4 _ (by omega), E3.old _ (by omega)])
  obtain ⟨H12, m12, r12, k12, o12⟩ := row_storeN R91 (n := 5) rfl (xs := [av, .int .i64 (b.length : Int), s8, .int .i64 (t8 : Int), .bool true]) rfl (by simp only [List.all_cons, List.all_nil, av1, hs8]; rfl)
  simp only [sA, Int.reduceNegSucc, reduceCtorEq, Nat.reduceEqDiff, ↓reduceIte, Nat.reduceAdd, Int.reduceEq, Int.reduceLT, Int.reduceLE, fldA, fld0, ext_0, ext_1, ← ht8, m9, m10, l10, m11, l11, m12]
  refine fin_c3 _ _ _ _ _ (by simp only [sA, Int.reduceNegSucc, reduceCtorEq, Nat.reduceEqDiff, ↓reduceIte, Nat.reduceAdd, Int.reduceEq, Int.reduceLT, Int.reduceLE]; exact row_loadN r12 (n := 5) rfl) ⟨_, _, _, _, s, by simp only [sA, Int.reduceNegSucc, reduceCtorEq, Nat.reduceEqDiff, ↓reduceIte, Nat.reduceAdd, Int.reduceEq, Int.reduceLT, Int.reduceLE]; try rfl, rfl, hs8, rfl, rfl, fun u c hu => by simp [aeq, aeqs, hu, rw_aeq q8, eqF_eq], ?_, ⟨by omega, fun c hc => by rw [o12 c (by omega), o11 c (by omega), og c (by omega), o7 c (by omega), o6 c (by omega), E5.old c (by omega), o4 c (by omega), E3.old c (by omega)]; exact E2.old c hc⟩⟩
  rw [pack_endB] at A8
  have el : (pack (endB b)).length = (endB b).length / 8 := by
    have := endB_len b
    rw [pack_len]; omega
  rw [el]
  exact AppN.samN' A8 (by omega) (by omega) fun c h1 h2 => by rw [o12 c (by omega), o11 c (by omega), o10 c (by omega), o9 c (by omega)]
theorem build21 (H : AHeap) : aBuildSl 2 [.int .u8 0] H [(0, 1, .int .u8 120), (1, 1, .int .u8 1)] = some (slR H.next 2 (.known 2), H.push (.cells (u8s [120, 1]) 0 false)) := _root_.id rfl
theorem app_u8 {H : AHeap} {s x : AVal} {a l : List Nat} {n : Nat} (h : AppN 1 0 H s (u8s a) a.length) (hx : Cel n H x (u8s l)) (hl : a.length + l.length ≤ 1000000) :
    ∃ s' H', aAppend 1 1 H s x = some (s', H') ∧ AppN 1 0 H' s' (u8s (a ++ l)) (a ++ l).length ∧ H.next ≤ H'.next ∧ (∀ P, Blk s P → Blk s' fun b => P b ∨ H.next ≤ b) ∧ ∀ c, c < H.next → Blk s (c ≠ ·) → H'.get c = H.get c := by
  have hs := hx.src
  rw [u8s_len] at hs
  obtain ⟨s', H', h1, h2, h3, h4, h5⟩ := h.many hs (by rw [u8s_len]; omega) (u8s_one l) (by omega) (bytes := 1) (by omega) (by omega)
  exact ⟨s', H', h1, by rw [u8s_append, List.length_append]; exact h2, h3, h4, h5⟩
theorem app_at {H : AHeap} {s : AVal} {L : List AVal} {k n : Nat} (h : AppN 1 0 H s L k) (hb : Blk s (n ≤ ·)) : AppN 1 n H s L k := by
  rcases h with h | ⟨b, low, rfl, h2, h3, h4, h5, h6, h7⟩
  · exact .inl h
  · exact .inr ⟨b, low, rfl, h2, hb _ _ _ rfl, h4, h5, h6, h7⟩
theorem fin_c6 {T : Env} {H : AHeap} (i j : Nat) (K : AVal → AHeap → Prop) {v : AVal} (h : oLoad true 6 H (T i) = some v) (hk : K (.tuple [v, T j]) H) : fin [.cell true 6 i, .t j] K .ret T H := by
  simp only [fin, wRes, h, OptP_some]; exact hk
def hd (bg : Bool) : List Nat := if bg then [] else [120, 1]
theorem rahead_spec {H : AHeap} {a0 a1 a2 a3 a4 bv : AVal} {bg : Bool} {l : List Nat} (q0 : a0.one = true) (q1 : a1.one = true) (q2 : a2.one = true) (q3 : a3.one = true) (q4 : a4.one = true) (hb : Cel H.next H bv (u8s l)) (hl : l.length ≤ 100000) :
    (aeq (.agg [a0, a1, a2, a3, a4, .bool true]) (.agg [a0, a1, a2, a3, a4, .bool true]) = true) →
    ACalls Try.prog natZ 39 [.agg [a0, a1, a2, a3, a4, .bool bg], bv] H fun w H' => ∃ s, w = .tuple [.agg [a0, a1, a2, a3, a4, .bool true], s] ∧ AppN 1 H.next H' s (u8s (hd bg ++ l)) (hd bg ++ l).length ∧ Ext H.next H H' := by
  intro haeq
  refine acalls_ofN rfl za39 rfl ?_
  obtain ⟨H1, m1, r1, k1, o1⟩ := row_newL H [a0, a1, a2, a3, a4, .bool bg] (n := 6) rfl
  obtain ⟨H2, m2, r2, k2', o2⟩ := row_newL H1 [.slice none 0 (.known 0), .int .i64 0, .slice none 0 (.known 0), .int .i64 0, .bool false, .bool false] (n := 6) rfl
  have E2 : Ext H.next H H2 := ⟨by omega, fun c hc => by rw [o2 c (by omega), o1 c (by omega)]⟩
  have R2 : Row H2 H.next [a0, a1, a2, a3, a4, .bool bg] := r1.same (o2 _ (by omega))
  have l5 : oLoad false 1 H2 (cellR H.next 6 5) = some (.bool bg) := row_load R2 rfl rfl
  have rest : ∀ (s3 : AVal) (H3 : AHeap) (a : List Nat), AppN 1 0 H3 s3 (u8s a) a.length → Blk s3 (H2.next ≤ ·) → a.length ≤ 2 → Ext H2.next H2 H3 → ∃ H4 s5 H5 H6, oStore 1 H3 (cellR H.next 6 5) (.bool true) = some H4 ∧ oLoad true 6 H4 (cellR H.next 6 0) = some (.agg [a0, a1, a2, a3, a4, .bool true]) ∧ aAppend 1 1 H4 s3 bv = some (s5, H5) ∧ oLoad true 6 H5 (cellR H.next 6 0) = some (.agg [a0, a1, a2, a3, a4, .bool true]) ∧ oStore 6 H5 (cellR H1.next 6 0) (.agg [a0, a1, a2, a3, a4, .bool true]) = some H6 ∧ oLoad true 6 H6 (cellR H1.next 6 0) = some (.agg [a0, a1, a2, a3, a4, .bool true]) ∧ AppN 1 H.next H6 s5 (u8s (a ++ l)) (a ++ l).length ∧ Ext H.next H H6 := by
    intro s3 H3 a A3 B3 hal E3
    have n3 := E3.next
    obtain ⟨H4, m4, r4, k4, o4⟩ := row_st (R2.same (E3.old _ (by omega))) (n := 6) rfl (i := 5) (by omega) (x := .bool true) rfl rfl
    have r4' : Row H4 H.next [a0, a1, a2, a3, a4, .bool true] := r4
    have E4 : Ext H.next H H4 := ⟨by omega, fun c hc => by rw [o4 c (by omega), E3.old c (by omega)]; exact E2.old c hc⟩
    have A4 := A3.same (H' := H4) (by omega) (B3.mono fun b hb => o4 b (by omega))
    obtain ⟨s5, H5, m5, A5, n5, b5, o5⟩ := app_u8 A4 (hb.ext E4) (by omega)
    have B5 : Blk s5 (H2.next ≤ ·) := (b5 _ B3).mono fun b hb => by omega
    have og : ∀ c, c < H2.next → H5.get c = H4.get c := fun c hc => o5 c (by omega) (B3.mono fun b hb => by omega)
    obtain ⟨H6, m6, r6, k6, o6⟩ := row_storeN (r2.same (H' := H5) (by rw [og _ (by omega), o4 _ (by omega), E3.old _ (by omega)])) (n := 6) rfl (xs := [a0, a1, a2, a3, a4, .bool true]) rfl (by simp only [List.all_cons, List.all_nil, q0, q1, q2, q3, q4]; rfl)
    exact ⟨H4, s5, H5, H6, m4, row_loadN r4' (n := 6) rfl, m5, row_loadN (r4'.same (og _ (by omega))) (n := 6) rfl, m6, row_loadN r6 (n := 6) rfl, app_at (A5.same (by omega) (B5.mono fun b hb => o6 b (by omega))) (B5.mono fun b hb => by omega), ⟨by omega, fun c hc => by rw [o6 c (by omega), og c (by omega)]; exact E4.old c hc⟩⟩
  cases bg with
  | true =>
    obtain ⟨H4, s5, H5, H6, p1, p2, p3, p4, p5, p6, p7, p8⟩ := rest nilS H2 [] (AppN.nil _ _ _) (blk_nil _) (by simp) (Ext.refl _ _)
    have p3' : aAppend 1 1 H4 (.slice none 0 (.known 0)) bv = some (s5, H5) := p3
    simp only [c39, sA, Int.reduceNegSucc, reduceCtorEq, Nat.reduceEqDiff, ↓reduceIte, Nat.reduceAdd, Int.reduceEq, Int.reduceLT, Int.reduceLE, cells_agg, m1, m2, fldA, fld0, l5, p1]
    refine aw_drawC rfl ?_
    simp only [sA, Int.reduceNegSucc, reduceCtorEq, Nat.reduceEqDiff, ↓reduceIte, Nat.reduceAdd, Int.reduceEq, Int.reduceLT, Int.reduceLE, sR, p2, p3', p5]
    simp only [ck_nil', ck_cons, ckP_load, ckP_nil, ck_end, and_true, true_and, List.map_cons, List.map_nil, sA, Int.reduceNegSucc, reduceCtorEq, Nat.reduceEqDiff, ↓reduceIte, Nat.reduceAdd, Int.reduceEq, Int.reduceLT, Int.reduceLE]
    refine ⟨⟨_, rfl, fun _ => ⟨_, p4, haeq⟩⟩, ?_⟩
    exact fin_c6 _ _ _ (by simp only [sA, Int.reduceNegSucc, reduceCtorEq, Nat.reduceEqDiff, ↓reduceIte, Nat.reduceAdd, Int.reduceEq, Int.reduceLT, Int.reduceLE]; exact p6) ⟨s5, by simp only [sA, Int.reduceNegSucc, reduceCtorEq, Nat.reduceEqDiff, ↓reduceIte, Nat.reduceAdd, Int.reduceEq, Int.reduceLT, Int.reduceLE]; try rfl, p7, p8⟩
  | false =>
    have c2 : Cel (H2.next + 1) (H2.push (.cells (u8s [120, 1]) 0 false)) (slR H2.next 2 (.known 2)) (u8s [120, 1]) := (row_push H2 (u8s [120, 1])).cel rfl (Nat.lt_succ_self _)
    obtain ⟨s3, H3, m3, A3, n3, b3, o3⟩ := app_u8 (a := []) (AppN.nil 1 0 (H2.push (.cells (u8s [120, 1]) 0 false))) c2 (by simp)
    rw [push_next] at n3 b3 o3
    have m3' : aAppend 1 1 (H2.push (.cells (u8s [120, 1]) 0 false)) (.slice none 0 (.known 0)) (slR H2.next 2 (.known 2)) = some (s3, H3) := m3
    obtain ⟨H4, s5, H5, H6, p1, p2, p3, p4, p5, p6, p7, p8⟩ := rest s3 H3 [120, 1] A3 ((b3 (fun _ => False) (blk_nil _)).mono fun b hb => hb.elim (fun q => q.elim) fun q => by omega) (by simp) ⟨by omega, fun c hc => (o3 c (by omega) (blk_nil _)).trans (get_push_lt hc)⟩
    simp only [c39, sA, Int.reduceNegSucc, reduceCtorEq, Nat.reduceEqDiff, ↓reduceIte, Nat.reduceAdd, Int.reduceEq, Int.reduceLT, Int.reduceLE, cells_agg, m1, m2, fldA, fld0, l5, build21, m3', p1]
    refine aw_drawC rfl ?_
    simp only [sA, Int.reduceNegSucc, reduceCtorEq, Nat.reduceEqDiff, ↓reduceIte, Nat.reduceAdd, Int.reduceEq, Int.reduceLT, Int.reduceLE, sR, p2, p3, p5]
    simp only [ck_nil', ck_cons, ckP_load, ckP_nil, ck_end, and_true, true_and, List.map_cons, List.map_nil, sA, Int.reduceNegSucc, reduceCtorEq, Nat.reduceEqDiff, ↓reduceIte, Nat.reduceAdd, Int.reduceEq, Int.reduceLT, Int.reduceLE]
    refine ⟨⟨_, rfl, fun _ => ⟨_, p4, haeq⟩⟩, ?_⟩
    exact fin_c6 _ _ _ (by simp only [sA, Int.reduceNegSucc, reduceCtorEq, Nat.reduceEqDiff, ↓reduceIte, Nat.reduceAdd, Int.reduceEq, Int.reduceLT, Int.reduceLE]; exact p6) ⟨s5, by simp only [sA, Int.reduceNegSucc, reduceCtorEq, Nat.reduceEqDiff, ↓reduceIte, Nat.reduceAdd, Int.reduceEq, Int.reduceLT, Int.reduceLE]; try rfl, p7, p8⟩
end Go.Proofs.Zt
namespace Go.Proofs.Zt
open Go.Abs Go.Abs.S
set_option linter.unusedSimpArgs false
theorem dw_aeq {H : AHeap} {av sv : AVal} {b : Bs} {L : List Bool} (h : DW H av sv b L) : aeq av av = true ∧ aeq sv sv = true ∧ sv.one = true := by
  refine ⟨cel_aeq (h.1.cel1 h.1.blk'), rw_aeq h.2, ?_⟩
  obtain ⟨_, esv, hsv⟩ := rw_val h.2
  simp only [AVal.agg.injEq, List.cons.injEq, and_true] at esv
  rw [esv.1]; exact hsv
theorem rwrite8_spec {n : Nat} {H : AHeap} {av sv bv : AVal} {b p : Bs} {bg : Bool} (h : DW H av sv b []) (hp : Cel n H bv (byts p)) (hn : n ≤ H.next) (hl : b.length + p.length ≤ 600) :
    ACalls Try.prog natZ 22 [.agg [av, .int .i64 0, sv, .int .i64 0, .bool false, .bool bg], bv] H fun w H' => ∃ av' sv' s, w = .tuple [.agg [av', .int .i64 0, sv', .int .i64 0, .bool false, .bool true], s, .int .i64 0] ∧ DW H' av' sv' (b ++ p) [] ∧ AppN 1 H.next H' s (u8s (hd bg)) (hd bg).length ∧ Blk av' (H.next ≤ ·) ∧ (∀ P, VB (.agg [sv, .int .i64 0]) P → VB (.agg [sv', .int .i64 0]) P) ∧ Ext H.next H H' := by
  refine acalls_ofN rfl za22 rfl ?_
  obtain ⟨H1, m1, r1, k1, o1⟩ := row_newL H [av, .int .i64 0, sv, .int .i64 0, .bool false, .bool bg] (n := 6) rfl
  obtain ⟨H2, m2, r2, k2', o2⟩ := row_newL H1 [.slice none 0 (.known 0), .int .i64 0, .slice none 0 (.known 0), .int .i64 0, .bool false, .bool false] (n := 6) rfl
  have E2 : Ext H.next H H2 := ⟨by omega, fun c hc => by rw [o2 c (by omega), o1 c (by omega)]⟩
  have R2 : Row H2 H.next [av, .int .i64 0, sv, .int .i64 0, .bool false, .bool bg] := r1.same (o2 _ (by omega))
  have l5 : oLoad true 5 H2 (cellR H.next 6 0) = some (.agg [av, .int .i64 0, sv, .int .i64 0, .bool false]) := row_loadK R2 (n := 6) rfl (i := 0) (k := 5) (by omega)
  have h2 : DW H2 av sv b [] := ⟨h.1.ext E2, h.2.fwd E2⟩
  have hv : VB (.agg [sv, .int .i64 0]) (· < H.next) := h.2.vb
  simp only [c22, sA, Int.reduceNegSucc, reduceCtorEq, Nat.reduceEqDiff, ↓reduceIte, Nat.reduceAdd, Int.reduceEq, Int.reduceLT, Int.reduceLE, cells_agg, m1, m2, fldA, fld0, l5]
  refine (rwrite6_spec h2 (hp.ext (E2.less hn)) (by omega) hl).mono ?_
  rintro _ H3 ⟨a3, s3, rfl, D3, B3, V3, E3⟩
  have n3 := E3.next
  have hv3 := V3 _ hv
  obtain ⟨x1, x2, x3⟩ := dw_aeq D3
  have a31 := app_one D3.1
  obtain ⟨H4, m4, r4, k4, o4⟩ := row_newL H3 [.slice none 0 (.known 0), .int .i64 0, .slice none 0 (.known 0), .int .i64 0, .bool false] (n := 5) rfl
  obtain ⟨H5, m5, r5, k5, o5⟩ := row_storeN r4 (n := 5) rfl (xs := [a3, .int .i64 0, s3, .int .i64 0, .bool false]) rfl (by simp only [List.all_cons, List.all_nil, a31, x3]; rfl)
  have l55 : oLoad true 5 H5 (cellR H3.next 5 0) = some (.agg [a3, .int .i64 0, s3, .int .i64 0, .bool false]) := row_loadN r5 (n := 5) rfl
  have og : ∀ c, c < H3.next → H5.get c = H3.get c := fun c hc => by rw [o5 c (by omega), o4 c (by omega)]
  obtain ⟨H6, m6, r6, k6, o6⟩ := row_storeK ((R2.same (E3.old _ (by omega))).same (og _ (by omega))) (n := 6) rfl (i := 0) (k := 5) (by omega) (xs := [a3, .int .i64 0, s3, .int .i64 0, .bool false]) rfl (by simp only [List.all_cons, List.all_nil, a31, x3]; rfl)
  have r6' : Row H6 H.next [a3, .int .i64 0, s3, .int .i64 0, .bool false, .bool bg] := r6
  have l66 : oLoad true 6 H6 (cellR H.next 6 0) = some (.agg [a3, .int .i64 0, s3, .int .i64 0, .bool false, .bool bg]) := row_loadN r6' (n := 6) rfl
  have haeq : aeq (.agg [a3, .int .i64 0, s3, .int .i64 0, .bool false, .bool true]) (.agg [a3, .int .i64 0, s3, .int .i64 0, .bool false, .bool true]) = true := by simp [aeq, aeqs, x1, x2, eqF_eq]
  simp only [sA, Int.reduceNegSucc, reduceCtorEq, Nat.reduceEqDiff, ↓reduceIte, Nat.reduceAdd, Int.reduceEq, Int.reduceLT, Int.reduceLE, fldA, fld0, ext_0, ext_1, ext_2, m4, m5, l55, m6, l66]
  refine (rahead_spec (l := []) a31 rfl x3 rfl rfl (.inl ⟨rfl, rfl⟩) (by simp) haeq).mono ?_
  rintro _ H7 ⟨s, rfl, A7, E7⟩
  rw [List.append_nil] at A7
  have n7 := E7.next
  obtain ⟨H8, m8, r8, k8, o8⟩ := row_storeN (r6'.same (E7.old _ (by omega))) (n := 6) rfl (xs := [a3, .int .i64 0, s3, .int .i64 0, .bool false, .bool true]) rfl (by simp only [List.all_cons, List.all_nil, a31, x3]; rfl)
  have l88 : oLoad true 6 H8 (cellR H.next 6 0) = some (.agg [a3, .int .i64 0, s3, .int .i64 0, .bool false, .bool true]) := row_loadN r8 (n := 6) rfl
  have R91 : Row H8 H1.next [.slice none 0 (.known 0), .int .i64 0, .slice none 0 (.known 0), .int .i64 0, .bool false, .bool false] := r2.same (by rw [o8 _ (by omega), E7.old _ (by omega), o6 _ (by omega), og _ (by omega), E3.old _ (by omega)])
  obtain ⟨H9, m9, r9, k9, o9⟩ := row_storeN R91 (n := 6) rfl (xs := [a3, .int .i64 0, s3, .int .i64 0, .bool false, .bool true]) rfl (by simp only [List.all_cons, List.all_nil, a31, x3]; rfl)
  simp only [sA, Int.reduceNegSucc, reduceCtorEq, Nat.reduceEqDiff, ↓reduceIte, Nat.reduceAdd, Int.reduceEq, Int.reduceLT, Int.reduceLE, fldA, fld0, ext_0, ext_1, m8, l88, m9]
  refine fin_c3 _ _ _ _ _ (by simp only [sA, Int.reduceNegSucc, reduceCtorEq, Nat.reduceEqDiff, ↓reduceIte, Nat.reduceAdd, Int.reduceEq, Int.reduceLT, Int.reduceLE]; exact row_loadN r9 (n := 6) rfl) ⟨a3, s3, s, by simp only [sA, Int.reduceNegSucc, reduceCtorEq, Nat.reduceEqDiff, ↓reduceIte, Nat.reduceAdd, Int.reduceEq, Int.reduceLT, Int.reduceLE]; try rfl, ⟨?_, ?_⟩, ?_, B3.mono fun b hb => by omega, V3, ⟨by omega, fun c hc => by rw [o9 c (by omega), o8 c (by omega), E7.old c (by omega), o6 c (by omega), og c (by omega), E3.old c (by omega)]; exact E2.old c hc⟩⟩
  · exact D3.1.same (by omega) ((B3.and D3.1.blk').mono fun b hb => by rw [o9 b (by omega), o8 b (by omega), E7.old b (by omega), o6 b (by omega), og b (by omega)])
  · exact rw_same D3.2 (by omega) (hv3.mono fun b hb => by rw [o9 b (by omega), o8 b (by omega), E7.old b (by omega), o6 b (by omega), og b (by omega)])
  · exact AppN.samN' A7 (by omega) (by omega) fun c h1 h2 => by rw [o9 c (by omega), o8 c (by omega)]
def endN (bg : Bool) (b : Bs) : List Nat := hd bg ++ pack (endB b) ++ fourL (adler 1 b)
theorem rend8_spec {H : AHeap} {av sv : AVal} {b : Bs} {bg : Bool} (h : DW H av sv b []) (hl : b.length ≤ 600) :
    ACalls Try.prog natZ 23 [.agg [av, .int .i64 0, sv, .int .i64 0, .bool false, .bool bg]] H fun w H' => ∃ u s, w = .tuple [u, s, .int .i64 0] ∧ (∃ cs, u = .agg cs ∧ cs.length = 6 ∧ cs.all AVal.one = true) ∧ Cel H'.next H' s (u8s (endN bg b)) ∧ Ext H.next H H' := by
  refine acalls_ofN rfl za23 rfl ?_
  obtain ⟨H1, m1, r1, k1, o1⟩ := row_newL H [av, .int .i64 0, sv, .int .i64 0, .bool false, .bool bg] (n := 6) rfl
  obtain ⟨H2, m2, r2, k2', o2⟩ := row_newL H1 [.slice none 0 (.known 0), .int .i64 0, .slice none 0 (.known 0), .int .i64 0, .bool false, .bool false] (n := 6) rfl
  have E2 : Ext H.next H H2 := ⟨by omega, fun c hc => by rw [o2 c (by omega), o1 c (by omega)]⟩
  have R2 : Row H2 H.next [av, .int .i64 0, sv, .int .i64 0, .bool false, .bool bg] := r1.same (o2 _ (by omega))
  have l5 : oLoad true 5 H2 (cellR H.next 6 0) = some (.agg [av, .int .i64 0, sv, .int .i64 0, .bool false]) := row_loadK R2 (n := 6) rfl (i := 0) (k := 5) (by omega)
  have h2 : DW H2 av sv b [] := ⟨h.1.ext E2, h.2.fwd E2⟩
  have av1 := app_one h.1
  simp only [c23, sA, Int.reduceNegSucc, reduceCtorEq, Nat.reduceEqDiff, ↓reduceIte, Nat.reduceAdd, Int.reduceEq, Int.reduceLT, Int.reduceLE, cells_agg, m1, m2, fldA, fld0, l5]
  refine (rend6_spec h2 hl).mono ?_
  rintro _ H3 ⟨x1, x2, x3, x4, s, rfl, y1, y2, y3, y4, yq, A3, E3⟩
  have n3 := E3.next
  obtain ⟨H4, m4, r4, k4, o4⟩ := row_newL H3 [.slice none 0 (.known 0), .int .i64 0, .slice none 0 (.known 0), .int .i64 0, .bool false] (n := 5) rfl
  obtain ⟨H5, m5, r5, k5, o5⟩ := row_storeN r4 (n := 5) rfl (xs := [av, x1, x2, x3, x4]) rfl (by simp only [List.all_cons, List.all_nil, av1, y1, y2, y3, y4]; rfl)
  have l55 : oLoad true 5 H5 (cellR H3.next 5 0) = some (.agg [av, x1, x2, x3, x4]) := row_loadN r5 (n := 5) rfl
  have og : ∀ c, c < H3.next → H5.get c = H3.get c := fun c hc => by rw [o5 c (by omega), o4 c (by omega)]
  obtain ⟨H6, m6, r6, k6, o6⟩ := row_storeK ((R2.same (E3.old _ (by omega))).same (og _ (by omega))) (n := 6) rfl (i := 0) (k := 5) (by omega) (xs := [av, x1, x2, x3, x4]) rfl (by simp only [List.all_cons, List.all_nil, av1, y1, y2, y3, y4]; rfl)
  have r6' : Row H6 H.next [av, x1, x2, x3, x4, .bool bg] := r6
  have l66 : oLoad true 6 H6 (cellR H.next 6 0) = some (.agg [av, x1, x2, x3, x4, .bool bg]) := row_loadN r6' (n := 6) rfl
  have haeq := yq av true (dw_aeq h).1
  have el := endB_len2 b hl
  have pl : (pack (endB b)).length ≤ 10000 := by rw [pack_len]; omega
  have A6 : AppN 1 H2.next H6 s (u8s (pack (endB b))) (pack (endB b)).length := AppN.samN' A3 (Nat.le_refl _) (by omega) fun c h1 h2 => by rw [o6 c (by omega), og c (by omega)]
  have C6 : Cel H6.next H6 s (u8s (pack (endB b))) := (AppN.samN' A6 (Nat.zero_le _) (Nat.le_refl _) fun _ _ _ => rfl).cel1 (AppN.samN' A6 (Nat.zero_le _) (Nat.le_refl _) fun _ _ _ => rfl).blk'
  simp only [sA, Int.reduceNegSucc, reduceCtorEq, Nat.reduceEqDiff, ↓reduceIte, Nat.reduceAdd, Int.reduceEq, Int.reduceLT, Int.reduceLE, fldA, fld0, ext_0, ext_1, ext_2, m4, m5, l55, m6, l66]
  refine (rahead_spec av1 y1 y2 y3 y4 C6 (by omega) haeq).mono ?_
  rintro _ H7 ⟨s7, rfl, A7, E7⟩
  have n7 := E7.next
  obtain ⟨H8, m8, r8, k8, o8⟩ := row_storeN (r6'.same (E7.old _ (by omega))) (n := 6) rfl (xs := [av, x1, x2, x3, x4, .bool true]) rfl (by simp only [List.all_cons, List.all_nil, av1, y1, y2, y3, y4]; rfl)
  have l88 : oLoad true 6 H8 (cellR H.next 6 0) = some (.agg [av, x1, x2, x3, x4, .bool true]) := row_loadN r8 (n := 6) rfl
  have lav : oLoad false 1 H8 (cellR H.next 6 0) = some av := row_load r8 rfl rfl
  have E8 : Ext H.next H H8 := ⟨by omega, fun c hc => by rw [o8 c (by omega), E7.old c (by omega), o6 c (by omega), og c (by omega), E3.old c (by omega)]; exact E2.old c hc⟩
  have cav : Cel H.next H av (byts b) := h.1.cel1 h.1.blk'
  simp only [sA, Int.reduceNegSucc, reduceCtorEq, Nat.reduceEqDiff, ↓reduceIte, Nat.reduceAdd, Int.reduceEq, Int.reduceLT, Int.reduceLE, fldA, fld0, ext_0, ext_1, m8]
  refine aw_drawC rfl ?_
  simp only [sA, Int.reduceNegSucc, reduceCtorEq, Nat.reduceEqDiff, ↓reduceIte, Nat.reduceAdd, Int.reduceEq, Int.reduceLT, Int.reduceLE, sR, fldA, fld0, l88, lav]
  refine (radler_spec (cav.ext E8) 1 (by omega) (by omega)).mono ?_
  rintro _ _ ⟨rfl, rfl⟩
  simp only [sA, Int.reduceNegSucc, reduceCtorEq, Nat.reduceEqDiff, ↓reduceIte, Nat.reduceAdd, Int.reduceEq, Int.reduceLT, Int.reduceLE, sR]
  refine (rfour_spec H8 (adler 1 b) (adler_lt 1 b)).mono ?_
  rintro _ H9 ⟨rfl, rfl⟩
  have A8 : AppN 1 0 H8 s7 (u8s (hd bg ++ pack (endB b))) (hd bg ++ pack (endB b)).length := AppN.samN' A7 (Nat.zero_le _) (by omega) fun c h1 h2 => o8 c (by omega)
  have B7 : Blk s7 (H6.next ≤ ·) := by
    rcases A7 with ⟨rfl, _⟩ | ⟨b, low, rfl, _, h3, _⟩
    · exact blk_nil _
    · exact blk_some h3
  have A9 : AppN 1 0 (H8.push (.cells (u8s (fourL (adler 1 b))) 0 false)) s7 (u8s (hd bg ++ pack (endB b))) (hd bg ++ pack (endB b)).length := A8.same (by rw [push_next]; omega) (A8.blk'.mono fun b hb => get_push_lt hb)
  have C9 : Cel (H8.next + 1) (H8.push (.cells (u8s (fourL (adler 1 b))) 0 false)) (slR H8.next 4 (.known 4)) (u8s (fourL (adler 1 b))) := (row_push H8 (u8s (fourL (adler 1 b)))).cel rfl (Nat.lt_succ_self _)
  have hdl : (hd bg).length ≤ 2 := by cases bg <;> simp [hd]
  obtain ⟨s9, H10, m10, A10, n10, b10, o10⟩ := app_u8 A9 C9 (by simp only [List.length_append, fourL, List.length_cons, List.length_nil]; omega)
  rw [push_next] at n10 b10 o10
  have B9 : Blk s9 (H6.next ≤ ·) := (b10 _ B7).mono fun b hb => by omega
  have og10 : ∀ c, c < H6.next → H10.get c = H8.get c := fun c hc => by rw [o10 c (by omega) (B7.mono fun b hb => by omega), get_push_lt (by omega)]
  have l9 : oLoad true 6 (H8.push (.cells (u8s (fourL (adler 1 b))) 0 false)) (cellR H.next 6 0) = some (.agg [av, x1, x2, x3, x4, .bool true]) := row_loadN (r8.same (get_push_lt (by omega))) (n := 6) rfl
  have l10 : oLoad true 6 H10 (cellR H.next 6 0) = some (.agg [av, x1, x2, x3, x4, .bool true]) := row_loadN (r8.same (og10 _ (by omega))) (n := 6) rfl
  have R91 : Row H10 H1.next [.slice none 0 (.known 0), .int .i64 0, .slice none 0 (.known 0), .int .i64 0, .bool false, .bool false] := r2.same (by rw [og10 _ (by omega), o8 _ (by omega), E7.old _ (by omega), o6 _ (by omega), og _ (by omega), E3.old _ (by omega)])
  obtain ⟨H11, m11, r11, k11, o11⟩ := row_storeN R91 (n := 6) rfl (xs := [av, x1, x2, x3, x4, .bool true]) rfl (by simp only [List.all_cons, List.all_nil, av1, y1, y2, y3, y4]; rfl)
  simp only [sA, Int.reduceNegSucc, reduceCtorEq, Nat.reduceEqDiff, ↓reduceIte, Nat.reduceAdd, Int.reduceEq, Int.reduceLT, Int.reduceLE, sR, m10, m11]
  simp only [ck_nil', ck_cons, ckP_load, ckP_nil, ck_end, and_true, true_and, List.map_cons, List.map_nil, sA, Int.reduceNegSucc, reduceCtorEq, Nat.reduceEqDiff, ↓reduceIte, Nat.reduceAdd, Int.reduceEq, Int.reduceLT, Int.reduceLE]
  refine ⟨⟨⟨_, rfl, fun _ => ⟨_, l88, haeq⟩⟩, ⟨_, rfl, fun _ => ⟨_, l9, haeq⟩⟩, ⟨_, rfl, fun _ => ⟨_, l10, haeq⟩⟩⟩, ?_⟩
  refine fin_c3 _ _ _ _ _ (by simp only [sA, Int.reduceNegSucc, reduceCtorEq, Nat.reduceEqDiff, ↓reduceIte, Nat.reduceAdd, Int.reduceEq, Int.reduceLT, Int.reduceLE]; exact row_loadN r11 (n := 6) rfl) ⟨_, s9, by simp only [sA, Int.reduceNegSucc, reduceCtorEq, Nat.reduceEqDiff, ↓reduceIte, Nat.reduceAdd, Int.reduceEq, Int.reduceLT, Int.reduceLE]; try rfl, ⟨_, rfl, rfl, by simp only [List.all_cons, List.all_nil, av1, y1, y2, y3, y4]; rfl⟩, ?_, ⟨by omega, fun c hc => by rw [o11 c (by omega), og10 c (by omega)]; exact E8.old c hc⟩⟩
  exact cel_same (A10.cel1 A10.blk') (by omega) (B9.mono fun b hb => o11 b (by omega))
end Go.Proofs.Zt
namespace Go.Proofs.Zt
open Go.Abs Go.Abs.S
set_option linter.unusedSimpArgs false
def dC (out kept : AVal) (noted : Nat) (mv : AVal) : List AVal := [.bool true, .bool false, out, kept, .int .i64 0, .int .i64 0, .int .i64 (noted : Int), mv, .int .i64 0]
theorem dnew_spec (H : AHeap) : ACalls Try.prog natZ 9 [] H fun w H' => w = cellR (H.next + 2) 9 0 ∧ Row H' (H.next + 2) (dC (cellR H.next 3 0) nilS 0 (.map (some (H.next + 1)))) ∧ Row H' H.next [.bool true, nilS, .int .i64 0] ∧ H'.get (H.next + 1) = some (.map [] 0) ∧ H'.next = H.next + 3 ∧ Ext H.next H H' := by
  refine acalls_ofN rfl za9 rfl ?_
  simp only [c9, sA, Int.reduceNegSucc, reduceCtorEq, Nat.reduceEqDiff, ↓reduceIte, Nat.reduceAdd, Int.reduceEq, Int.reduceLT, Int.reduceLE]
  refine (bnew_spec H).mono ?_
  rintro _ H1 ⟨rfl, r1, k1, o1⟩
  have mk : aHf .mkMap H1 [] = some (.map (some H1.next), H1.push (.map [] 0)) := rfl
  obtain ⟨H3, m3, r3, k3, o3⟩ := row_newL (H1.push (.map [] 0)) (dC (cellR H.next 3 0) nilS 0 (.map (some H1.next))) (n := 9) rfl
  have bd : aBuild [.bool false, .bool false, .ptr none, .slice none 0 (.known 0), .int .i64 0, .int .i64 0, .int .i64 0, .map none, .int .i64 0] [(0, 1, .bool true), (2, 1, cellR H.next 3 0), (7, 1, .map (some H1.next))] = some (.agg (dC (cellR H.next 3 0) nilS 0 (.map (some H1.next)))) := rfl
  simp only [sA, Int.reduceNegSucc, reduceCtorEq, Nat.reduceEqDiff, ↓reduceIte, Nat.reduceAdd, Int.reduceEq, Int.reduceLT, Int.reduceLE, mk, bd, cells_agg, m3]
  rw [push_next] at r3 k3 o3
  rw [push_next, k1]
  rw [k1] at r3 k3 o3
  refine ⟨(by first | with_reducible rfl | trivial | rfl | assumption), r3, (r1.same (get_push_lt (by omega))).same (o3 _ (by omega)), ?_, by omega, ⟨by omega, fun c hc => by rw [o3 c (by omega), get_push_lt (by omega), o1 c (by omega)]⟩⟩
  rw [o3 _ (by omega), AHeap.get_push, if_pos k1.symm]
def zC (bg : Bool) (dw : AVal) (sum : Nat) : List AVal := [.bool true, .bool bg, .bool false, dw, .int .u32 (sum : Int)]
theorem znew_spec (H : AHeap) : ACalls Try.prog natZ 16 [] H fun w H' => w = cellR (H.next + 3) 5 0 ∧ Row H' (H.next + 3) (zC false (cellR (H.next + 2) 9 0) 1) ∧ Row H' (H.next + 2) (dC (cellR H.next 3 0) nilS 0 (.map (some (H.next + 1)))) ∧ Row H' H.next [.bool true, nilS, .int .i64 0] ∧ H'.get (H.next + 1) = some (.map [] 0) ∧ H'.next = H.next + 4 ∧ Ext H.next H H' := by
  refine acalls_ofN rfl za16 rfl ?_
  simp only [c16, sA, Int.reduceNegSucc, reduceCtorEq, Nat.reduceEqDiff, ↓reduceIte, Nat.reduceAdd, Int.reduceEq, Int.reduceLT, Int.reduceLE]
  refine (dnew_spec H).mono ?_
  rintro _ H1 ⟨rfl, r1, r2, g1, k1, E1⟩
  obtain ⟨H3, m3, r3, k3, o3⟩ := row_newL H1 (zC false (cellR (H.next + 2) 9 0) 1) (n := 5) rfl
  have bd : aBuild [.bool false, .bool false, .bool false, .ptr none, .int .u32 0] [(0, 1, .bool true), (3, 1, cellR (H.next + 2) 9 0), (4, 1, .int .u32 1)] = some (.agg (zC false (cellR (H.next + 2) 9 0) 1)) := rfl
  simp only [sA, Int.reduceNegSucc, reduceCtorEq, Nat.reduceEqDiff, ↓reduceIte, Nat.reduceAdd, Int.reduceEq, Int.reduceLT, Int.reduceLE, bd, cells_agg, m3]
  rw [k1] at r3 k3 o3 ⊢
  exact ⟨(by first | with_reducible rfl | trivial | rfl | assumption), r3, r1.same (o3 _ (by omega)), r2.same (o3 _ (by omega)), by rw [o3 _ (by omega)]; exact g1, by omega, ⟨by omega, fun c hc => by rw [o3 c (by omega)]; exact E1.old c hc⟩⟩
theorem zstate_spec {H : AHeap} {z : Nat} {bg : Bool} {dw : AVal} {sum : Nat} (h : Row H z (zC bg dw sum)) : ACalls Try.prog natZ 34 [cellR z 5 0] H fun w H' => w = .int .i64 0 ∧ H = H' := by
  refine acalls_ofN rfl za34 rfl ?_
  have l0 : oLoad false 1 H (cellR z 5 0) = some (.bool true) := row_load h rfl rfl
  have l2 : oLoad false 1 H (cellR z 5 2) = some (.bool false) := row_load h rfl rfl
  simp only [c34, sA, Int.reduceNegSucc, reduceCtorEq, Nat.reduceEqDiff, ↓reduceIte, Nat.reduceAdd, Int.reduceEq, Int.reduceLT, Int.reduceLE, eq_ptr_nil, nil_cell, fldA, fld0, l0, l2]
  exact ⟨(by first | with_reducible rfl | trivial | rfl | assumption), (by first | with_reducible rfl | trivial | rfl | assumption)⟩
theorem trim_spec {H : AHeap} {ow : Nat} {out kept mv : AVal} {noted : Nat} (h : Row H ow (dC out kept noted mv)) : ACalls Try.prog natZ 29 [cellR ow 9 0] H fun w H' => H = H' := by
  refine acalls_ofN rfl za29 rfl ?_
  have l4 : oLoad false 1 H (cellR ow 9 4) = some (.int .i64 0) := row_load h rfl rfl
  have l5 : oLoad false 1 H (cellR ow 9 5) = some (.int .i64 0) := row_load h rfl rfl
  have w0 : IntKind.i64.wrap 0 = 0 := rfl
  have w1 : (0 : Int) ≤ 65536 := by omega
  simp only [c29, sA, Int.reduceNegSucc, reduceCtorEq, Nat.reduceEqDiff, ↓reduceIte, Nat.reduceAdd, Int.reduceEq, Int.reduceLT, Int.reduceLE, nil_cell, fldA, fld0, l4, l5, Int.sub_self, w0, w1]
  simp only [fin, wRes, OptP_some]
theorem prune_spec {H : AHeap} {ow : Nat} {out kept mv : AVal} {noted : Nat} (h : Row H ow (dC out kept noted mv)) : ACalls Try.prog natZ 44 [cellR ow 9 0] H fun w H' => H = H' := by
  refine acalls_ofN rfl za44 rfl ?_
  have l8 : oLoad false 1 H (cellR ow 9 8) = some (.int .i64 0) := row_load h rfl rfl
  have l5 : oLoad false 1 H (cellR ow 9 5) = some (.int .i64 0) := row_load h rfl rfl
  have w0 : IntKind.i64.wrap 0 = 0 := rfl
  have w1 : (0 : Int) < 32768 := by omega
  simp only [c44, sA, Int.reduceNegSucc, reduceCtorEq, Nat.reduceEqDiff, ↓reduceIte, Nat.reduceAdd, Int.reduceEq, Int.reduceLT, Int.reduceLE, nil_cell, fldA, fld0, l8, l5, Int.sub_self, w0, w1]
  simp only [fin, wRes, OptP_some]
def k3 (b : Bs) (i : Nat) : List Nat := [(b.getD i 0).toNat, (b.getD (i + 1) 0).toNat, (b.getD (i + 2) 0).toNat]
theorem k3_cut {b : Bs} {i : Nat} (h : i + 3 ≤ b.length) : ((byts b).drop i).take 3 = u8s (k3 b i) := by
  have e : ∀ j, j < b.length → b[j]? = some (b.getD j 0) := fun j hj => by rw [List.getD_eq_getElem?_getD, List.getElem?_eq_getElem hj]; rfl
  apply List.ext_getElem?
  intro j
  by_cases hj : j < 3
  · rw [List.getElem?_take_of_lt hj, List.getElem?_drop, byts_get (e (i + j) (by omega))]
    have : j = 0 ∨ j = 1 ∨ j = 2 := by omega
    rcases this with rfl | rfl | rfl <;> rfl
  · rw [List.getElem?_eq_none (by simp; omega), List.getElem?_eq_none (by simp [u8s, k3]; omega)]
theorem three_spec {H : AHeap} {ow : Nat} {out kept mv : AVal} {noted : Nat} {b : Bs} (h : Row H ow (dC out kept noted mv)) (hn : ow < H.next) (hk : AppN 1 0 H kept (byts b) b.length) (i : Nat) (hi : i + 3 ≤ b.length) (hb : b.length ≤ 100000) :
    ACalls Try.prog natZ 57 [cellR ow 9 0, .int .i64 (i : Int)] H fun w H' => w = .agg (u8s (k3 b i)) ∧ Ext H.next H H' := by
  refine acalls_ofN rfl za57 rfl ?_
  obtain ⟨H1, m1, r1, k1, o1⟩ := row_newL H [.int .u8 0, .int .u8 0, .int .u8 0] (n := 3) rfl
  have E1 : Ext H.next H H1 := Ext.of_new k1 o1 (Nat.le_refl _)
  obtain ⟨s, ms, cs, bs⟩ := (hk.ext E1).from_ (lo := i) (by omega)
  obtain ⟨a, r, rfl, hab, hrd⟩ : ∃ a r, s = .slice (some a) (b.length - i) r ∧ a.b < H1.next ∧ rdCells H1 a 3 = some (u8s (k3 b i)) := by
    have hl : ((byts b).drop i).length = b.length - i := by simp [byts_len]
    rcases cs with ⟨_, e⟩ | ⟨a, r, e, h1, h2⟩
    · rw [e] at hl; simp at hl; omega
    · refine ⟨a, r, by rw [e, hl], h1, ?_⟩
      have := rd_pre h2 (k := 3) (by rw [hl]; omega)
      rw [this, k3_cut hi]
  have l3 : oLoad false 1 H1 (cellR ow 9 3) = some kept := row_load (h.same (o1 _ (Nat.ne_of_lt hn))) rfl rfl
  have l4 : oLoad false 1 H1 (cellR ow 9 4) = some (.int .i64 0) := row_load (h.same (o1 _ (Nat.ne_of_lt hn))) rfl rfl
  have ws : IntKind.i64.wrap (i : Int) = (i : Int) := wrap64 (by omega) (by omega)
  have e0 : (i : Int) - 0 = (i : Int) := by omega
  have hble : Nat.ble 3 (b.length - i) = true := Nat.ble_eq_true_of_le (by omega)
  have sa : aPf (.s2a 3) [.slice (some a) (b.length - i) r] = some (.ptr (some a)) := by
    show (bif Nat.ble 3 (b.length - i) && Nat.blt 0 3 then some (AVal.ptr (some a)) else none) = _
    rw [hble]; rfl
  have la : oLoad true 3 H1 (.ptr (some a)) = some (.agg (u8s (k3 b i))) := by simp only [oLoad, hrd, cond_true]
  obtain ⟨H2, m2, r2, k2', o2⟩ := row_storeN r1 (n := 3) rfl (xs := u8s (k3 b i)) rfl (u8s_one _)
  have nc : aNilChk (.ptr (some a)) = some (.ptr (some a)) := rfl
  simp only [c57, sA, Int.reduceNegSucc, reduceCtorEq, Nat.reduceEqDiff, ↓reduceIte, Nat.reduceAdd, Int.reduceEq, Int.reduceLT, Int.reduceLE, m1, nil_cell, fldA, fld0, l3, l4, e0, ws, ms, sa, la, m2, nc]
  exact fin_1 _ _ _ (by simp only [sA, Int.reduceNegSucc, reduceCtorEq, Nat.reduceEqDiff, ↓reduceIte, Nat.reduceAdd, Int.reduceEq, Int.reduceLT, Int.reduceLE]; exact row_loadN r2 (n := 3) rfl) ⟨rfl, ⟨by omega, fun c hc => by rw [o2 c (by omega), o1 c (by omega)]⟩⟩
end Go.Proofs.Zt
namespace Go.Proofs.Zt
open Go.Abs Go.Abs.S
set_option linter.unusedSimpArgs false
def kv (k : List Nat) : AVal := .agg (u8s k)
def posL (b : Bs) (k : List Nat) : Nat → List Nat
  | 0 => []
  | K + 1 => if k3 b K = k then posL b k K ++ [K] else posL b k K
theorem posL_same (b : Bs) (K : Nat) : posL b (k3 b K) (K + 1) = posL b (k3 b K) K ++ [K] := if_pos rfl
theorem posL_other {b : Bs} {k : List Nat} {K : Nat} (h : k3 b K ≠ k) : posL b k (K + 1) = posL b k K := if_neg h
theorem posL_len (b : Bs) (k : List Nat) (K : Nat) : (posL b k K).length ≤ K := by
  induction K with
  | zero => exact Nat.le_refl _
  | succ K ih =>
    unfold posL
    split
    · rw [List.length_append, List.length_singleton]; omega
    · omega
theorem posL_mem {b : Bs} {k : List Nat} {K p : Nat} : p ∈ posL b k K ↔ p < K ∧ k3 b p = k := by
  induction K with
  | zero => simp [posL]
  | succ K ih =>
    unfold posL
    split
    · rename_i h
      simp only [List.mem_append, List.mem_singleton, ih]
      constructor
      · rintro (h1 | rfl)
        · exact ⟨by omega, h1.2⟩
        · exact ⟨by omega, h⟩
      · rintro ⟨h1, h2⟩
        by_cases e : p = K
        · exact .inr e
        · exact .inl ⟨by omega, h2⟩
    · rename_i h
      rw [ih]
      constructor
      · rintro ⟨h1, h2⟩; exact ⟨by omega, h2⟩
      · rintro ⟨h1, h2⟩
        refine ⟨?_, h2⟩
        rcases Nat.lt_or_ge p K with h3 | h3
        · exact h3
        · exact absurd (by rw [show K = p by omega]; exact h2) h
theorem kEqs_u8 : ∀ (a c : List Nat), a.length = c.length → kEqs (u8s a) (u8s c) = some (decide (a = c))
  | [], [], _ => rfl
  | x :: a, y :: c, h => by
    have ih := kEqs_u8 a c (by simpa using h)
    simp only [u8s, List.map_cons] at ih ⊢
    simp only [kEqs, if_true, eqF_eq]
    by_cases e : x = y
    · subst e
      simp only [beq_self_eq_true, cond_true, ih, List.cons.injEq, true_and]
    · have e2 : ((x : Int) == (y : Int)) = false := by rw [beq_eq_false_iff_ne]; omega
      simp only [e2, cond_false, List.cons.injEq, e, false_and, decide_false]
  | [], _ :: _, h => by simp at h
  | _ :: _, [], h => by simp at h
theorem kEq_kv {a c : List Nat} (ha : a.length = 3) (hc : c.length = 3) : kEq (.arr 3) (kv a) (kv c) = some (decide (a = c)) := by
  simp only [kEq, kv, u8s_len, ha, hc, Nat.beq_refl, Bool.and_self, cond_true]
  exact kEqs_u8 a c (by omega)
theorem isKs_u8 (l : List Nat) : isKs (u8s l) = true := by
  induction l with
  | nil => rfl
  | cons x l ih => exact ih
theorem isK_kv {k : List Nat} (h : k.length = 3) : isK (.arr 3) (kv k) = true := by
  simp only [isK, kv, u8s_len, h, Nat.beq_refl, isKs_u8, Bool.and_self]
theorem kv_inj {a c : List Nat} (h : kv a = kv c) : a = c := by
  simp only [kv, AVal.agg.injEq] at h
  unfold u8s at h
  exact List.map_inj_right (fun x y e => by simp only [AVal.int.injEq, true_and] at e; omega) |>.1 h
theorem mFind_kv {k : List Nat} (hk : k.length = 3) : ∀ (es : List Ent) (i : Nat), (∀ e ∈ es, ∃ a : List Nat, a.length = 3 ∧ e.1 = kv a) →
    (∃ j e, es[j]? = some e ∧ e.1 = kv k ∧ mFind (.arr 3) (kv k) es i = some (some (i + j, e))) ∨ ((∀ e ∈ es, e.1 ≠ kv k) ∧ mFind (.arr 3) (kv k) es i = some none)
  | [], i, _ => .inr ⟨fun e he => by simp at he, rfl⟩
  | e :: r, i, h => by
    obtain ⟨a, ha, ea⟩ := h e (by simp)
    have hq := kEq_kv hk ha
    by_cases e1 : k = a
    · rw [decide_eq_true e1] at hq
      refine .inl ⟨0, e, rfl, by rw [ea, e1], ?_⟩
      unfold mFind
      rw [ea, hq]; rfl
    · rw [decide_eq_false e1] at hq
      rcases mFind_kv hk r (i + 1) (fun e' he => h e' (by simp [he])) with ⟨j, e', h1, h2, h3⟩ | ⟨h1, h2⟩
      · refine .inl ⟨j + 1, e', by simpa using h1, h2, ?_⟩
        unfold mFind
        rw [ea, hq]
        simp only [h3, Option.some.injEq, Prod.mk.injEq, and_true]; omega
      · refine .inr ⟨fun e' he => ?_, ?_⟩
        · rcases List.mem_cons.1 he with rfl | he
          · rw [ea]; intro x; exact e1 (kv_inj x).symm
          · exact h1 e' he
        · unfold mFind
          rw [ea, hq]
          exact h2
theorem mBorn_at : ∀ (es : List Ent) (i n : Nat) (e : Ent), es[n]? = some e → (∀ j e, es[j]? = some e → e.2.2 = i + j) → mBorn (i + n) es i = some (i + n, e)
  | [], i, n, e, h, _ => by simp at h
  | x :: r, i, 0, e, h, hb => by
    have e1 : x = e := by simpa using h
    subst e1
    have := hb 0 x rfl
    unfold mBorn
    rw [this, Nat.beq_refl]; rfl
  | x :: r, i, n + 1, e, h, hb => by
    have h0 := hb 0 x rfl
    have hr := mBorn_at r (i + 1) n e (by simpa using h) (fun j e he => by have := hb (j + 1) e (by simpa using he); omega)
    unfold mBorn
    have hne : Nat.beq x.2.2 (i + (n + 1)) = false := by rw [beq_dec]; exact decide_eq_false (by omega)
    rw [hne, cond_false, show i + (n + 1) = i + 1 + n by omega]
    exact hr
theorem mSet_set : ∀ (es : List Ent) (i : Nat) (e : Ent), mSet es i e = es.set i e
  | [], _, _ => rfl
  | _ :: _, 0, _ => rfl
  | x :: r, i + 1, e => by simp only [mSet, List.set_cons_succ, mSet_set r i e]
def MR (n0 : Nat) (τ : Nat → Nat) (H : AHeap) (mb : Nat) (b : Bs) (K : Nat) : Prop :=
  ∃ es : List Ent, H.get mb = some (.map es es.length) ∧ (∀ i e, es[i]? = some e → e.2.2 = i ∧ ∃ k : List Nat, k.length = 3 ∧ e.1 = kv k ∧ AppN 1 n0 H e.2.1 (ints (posL b k K)) (posL b k K).length ∧ Blk e.2.1 (τ · = 100 + i)) ∧
    (∀ (i j : Nat) (e f : Ent), es[i]? = some e → es[j]? = some f → e.1 = f.1 → i = j) ∧ (∀ k : List Nat, posL b k K ≠ [] → ∃ e ∈ es, e.1 = kv k)
theorem MR.keys {n0 : Nat} {τ : Nat → Nat} {H : AHeap} {b : Bs} {K : Nat} {es : List Ent} (h : ∀ i e, es[i]? = some e → e.2.2 = i ∧ ∃ k : List Nat, k.length = 3 ∧ e.1 = kv k ∧ AppN 1 n0 H e.2.1 (ints (posL b k K)) (posL b k K).length ∧ Blk e.2.1 (τ · = 100 + i)) : ∀ e ∈ es, ∃ a : List Nat, a.length = 3 ∧ e.1 = kv a := by
  intro e he
  obtain ⟨i, hi⟩ := List.getElem?_of_mem he
  obtain ⟨_, k, h1, h2, _⟩ := h i e hi
  exact ⟨k, h1, h2⟩
theorem MR.look {n0 : Nat} {τ : Nat → Nat} {H : AHeap} {mb : Nat} {b : Bs} {K : Nat} (h : MR n0 τ H mb b K) {k : List Nat} (hk : k.length = 3) :
    ∃ v, aHf (.mLook (.arr 3) false (.slice none 0 (.known 0))) H [.map (some mb), kv k] = some (v, H) ∧ AppN 1 n0 H v (ints (posL b k K)) (posL b k K).length := by
  obtain ⟨es, h1, h2, h3, h4⟩ := h
  rcases mFind_kv hk es 0 (MR.keys h2) with ⟨j, e, q1, q2, q3⟩ | ⟨q1, q2⟩
  · obtain ⟨_, k', a1, a2, a3, _⟩ := h2 j e q1
    have ek : k' = k := kv_inj (a2.symm.trans q2)
    subst ek
    refine ⟨e.2.1, ?_, a3⟩
    simp only [aHf, aMLook, h1, aLookE, isK_kv hk, cond_true, q3, mRet, cond_false]
  · have hp : posL b k K = [] := by
      rcases Decidable.em (posL b k K = []) with h | h
      · exact h
      · obtain ⟨e, he, hek⟩ := h4 k h
        exact absurd hek (q1 e he)
    refine ⟨nilS, ?_, by rw [hp]; exact AppN.nil _ _ _⟩
    simp only [aHf, aMLook, h1, aLookE, isK_kv hk, cond_true, q2, mRet, cond_false]; rfl
end Go.Proofs.Zt
namespace Go.Proofs.Zt
open Go.Abs Go.Abs.S
set_option linter.unusedSimpArgs false
def ER (n0 : Nat) (τ : Nat → Nat) (H : AHeap) (b : Bs) (K : Nat) (es : List Ent) : Prop :=
  (∀ i e, es[i]? = some e → e.2.2 = i ∧ ∃ k : List Nat, k.length = 3 ∧ e.1 = kv k ∧ AppN 1 n0 H e.2.1 (ints (posL b k K)) (posL b k K).length ∧ Blk e.2.1 (τ · = 100 + i)) ∧
    (∀ (i j : Nat) (e f : Ent), es[i]? = some e → es[j]? = some f → e.1 = f.1 → i = j) ∧ (∀ k : List Nat, posL b k K ≠ [] → ∃ e ∈ es, e.1 = kv k)
theorem MR.iff {n0 : Nat} {τ : Nat → Nat} {H : AHeap} {mb : Nat} {b : Bs} {K : Nat} : MR n0 τ H mb b K ↔ ∃ es : List Ent, H.get mb = some (.map es es.length) ∧ ER n0 τ H b K es := Iff.rfl
theorem app_sameN {m n k : Nat} {H H' : AHeap} {s : AVal} {L : List AVal} (h : AppN m n H s L k) (hn : H.next ≤ H'.next) (e : Blk s fun c => H'.get c = H.get c) : AppN m n H' s L k := by
  rcases h with h | ⟨b, low, rfl, h2, h3, h4, h5, h6⟩
  · exact .inl h
  · exact .inr ⟨b, low, rfl, h2, h3, by omega, (e _ _ _ rfl).trans h5, h6⟩
theorem ER.same {n0 : Nat} {τ τ' : Nat → Nat} {H H' : AHeap} {b : Bs} {K : Nat} {es : List Ent} (h : ER n0 τ H b K es) (hn : H.next ≤ H'.next) (e : ∀ c, c < H.next → 100 ≤ τ c → H'.get c = H.get c ∧ τ' c = τ c) : ER n0 τ' H' b K es := by
  obtain ⟨h1, h2, h3⟩ := h
  refine ⟨fun i x hx => ?_, h2, h3⟩
  obtain ⟨q1, k, q2, q3, q4, q5⟩ := h1 i x hx
  have hb : Blk x.2.1 fun c => c < H.next ∧ τ c = 100 + i := by
    rcases q4 with ⟨ev, _⟩ | ⟨c, low, ev, _, _, h4, _⟩
    · rw [ev]; exact blk_nil _
    · rw [ev] at q5 ⊢
      exact blk_some ⟨h4, q5 _ _ _ rfl⟩
  exact ⟨q1, k, q2, q3, app_sameN q4 hn (hb.mono fun c hc => (e c hc.1 (by omega)).1), hb.mono fun c hc => by rw [(e c hc.1 (by omega)).2]; exact hc.2⟩
theorem entry_spec {n0 : Nat} {τ : Nat → Nat} {H : AHeap} {mb : Nat} {b : Bs} {K : Nat} {es : List Ent} (hg : H.get mb = some (.map es es.length)) (h : ER n0 τ H b K es) {k : List Nat} (hk : k.length = 3) :
    ∃ es' i v, aHf (.mf (.entry (.arr 3) (.slice none 0 (.known 0)))) H [.map (some mb), kv k] = some (.tuple [v, .int .i64 (Int.ofNat i)], H.set mb (.map es' es'.length)) ∧ es'[i]? = some (kv k, v, i) ∧ ER n0 τ H b K es' := by
  have h' := h
  obtain ⟨h1, h2, h3⟩ := h
  rcases mFind_kv hk es 0 (MR.keys h1) with ⟨j, e, q1, q2, q3⟩ | ⟨q1, q2⟩
  · obtain ⟨e1, e2, e3⟩ := e
    simp only at q2
    subst q2
    have hb : e3 = j := (h1 j _ q1).1
    subst hb
    have hset : mSet es e3 (kv k, e2, e3) = es := by
      rw [mSet_set]
      apply List.ext_getElem?
      intro i
      by_cases hi : i = e3
      · subst hi
        rw [List.getElem?_set_self (List.getElem?_eq_some_iff.1 q1).1, q1]
      · rw [List.getElem?_set_ne (Ne.symm hi)]
    refine ⟨es, e3, e2, ?_, q1, h'⟩
    rw [Nat.zero_add] at q3
    simp only [aHf, aMF, hg, aMf, isK_kv hk, cond_true, q3, hset]
  · refine ⟨es ++ [(kv k, nilS, es.length)], es.length, nilS, ?_, by simp, ?_, ?_, ?_⟩
    · simp only [aHf, aMF, hg, aMf, isK_kv hk, cond_true, q2, List.length_append, List.length_singleton]; rfl
    · intro i e he
      by_cases hi : i < es.length
      · rw [List.getElem?_append_left hi] at he
        exact h1 i e he
      · have hi2 : i = es.length := by
          have := (List.getElem?_eq_some_iff.1 he).1
          rw [List.length_append, List.length_singleton] at this; omega
        subst hi2
        simp only [List.getElem?_concat_length, Option.some.injEq] at he
        subst he
        have hp : posL b k K = [] := by
          rcases Decidable.em (posL b k K = []) with h | h
          · exact h
          · obtain ⟨e, he, hek⟩ := h3 k h
            exact absurd hek (q1 e he)
        exact ⟨rfl, k, hk, rfl, by rw [hp]; exact AppN.nil _ _ _, blk_nil _⟩
    · intro i j e f he hf hef
      have hi := (List.getElem?_eq_some_iff.1 he).1
      have hj := (List.getElem?_eq_some_iff.1 hf).1
      rw [List.length_append, List.length_singleton] at hi hj
      by_cases hi2 : i < es.length
      · rw [List.getElem?_append_left hi2] at he
        by_cases hj2 : j < es.length
        · rw [List.getElem?_append_left hj2] at hf
          exact h2 i j e f he hf hef
        · have : j = es.length := by omega
          subst this
          simp only [List.getElem?_concat_length, Option.some.injEq] at hf
          subst hf
          exact absurd hef (q1 e (List.mem_of_getElem? he))
      · have : i = es.length := by omega
        subst this
        simp only [List.getElem?_concat_length, Option.some.injEq] at he
        subst he
        by_cases hj2 : j < es.length
        · rw [List.getElem?_append_left hj2] at hf
          exact absurd hef.symm (q1 f (List.mem_of_getElem? hf))
        · omega
    · intro k' hk'
      obtain ⟨e, he, hek⟩ := h3 k' hk'
      exact ⟨e, by simp [he], hek⟩
theorem ints_append (a c : List Nat) : ints (a ++ c) = ints a ++ ints c := by simp [ints]
theorem note_spec {n0 : Nat} {τ : Nat → Nat} {H : AHeap} {mb : Nat} {b : Bs} {K : Nat} (h : MR n0 τ H mb b K) (hn0 : n0 ≤ H.next) (hmb : mb < n0) (hK : K ≤ 100000) (tz : ∀ c, H.next ≤ c → τ c = 0) :
    ∃ i v v' H1 H2 H3 τ', aHf (.mf (.entry (.arr 3) (.slice none 0 (.known 0)))) (H.push (.cells [.int .i64 (K : Int)] 0 false)) [.map (some mb), kv (k3 b K)] = some (.tuple [v, .int .i64 (Int.ofNat i)], H1) ∧
      aAppend 1 8 H1 v (oneS H) = some (v', H2) ∧ aHf (.mf .store) H2 [.map (some mb), .int .i64 (Int.ofNat i), v'] = some (.tuple [], H3) ∧ MR n0 τ' H3 mb b (K + 1) ∧ H.next ≤ H3.next ∧ (∀ c, H3.next ≤ c → τ' c = 0) ∧ (∀ c, c < H.next → τ' c = τ c ∧ (c ≠ mb → τ c < 100 → H3.get c = H.get c)) ∧ H1.next = H.next + 1 ∧ (∀ c, c < H.next → c ≠ mb → H1.get c = H.get c) := by
  obtain ⟨es, hg, hE⟩ := MR.iff.1 h
  obtain ⟨Hb, hHb⟩ : ∃ G, G = H.push (.cells [.int .i64 (K : Int)] 0 false) := ⟨_, rfl⟩
  have kb : Hb.next = H.next + 1 := by rw [hHb]; rfl
  have ob : ∀ c, c < H.next → Hb.get c = H.get c := fun c hc => by rw [hHb]; exact get_push_lt hc
  have gb : Hb.get H.next = some (.cells [.int .i64 (K : Int)] 0 false) := by rw [hHb, AHeap.get_push, if_pos rfl]
  have hgb : Hb.get mb = some (.map es es.length) := by rw [ob _ (by omega)]; exact hg
  have hEb : ER n0 τ Hb b K es := hE.same (by omega) fun c hc _ => ⟨ob c hc, rfl⟩
  obtain ⟨es', i, v, m1, q1, hE'⟩ := entry_spec hgb hEb (k := k3 b K) rfl
  obtain ⟨H1, hH1⟩ : ∃ G, G = Hb.set mb (.map es' es'.length) := ⟨_, rfl⟩
  have k1 : H1.next = Hb.next := by rw [hH1]; rfl
  have o1 : ∀ c, c ≠ mb → H1.get c = Hb.get c := fun c hc => by rw [hH1, AHeap.get_set, if_neg hc]
  have g1 : H1.get mb = some (.map es' es'.length) := by rw [hH1, AHeap.get_set, if_pos rfl]
  have hE1 : ER n0 τ H1 b K es' := by
    obtain ⟨a1, a2, a3⟩ := hE'
    refine ⟨fun j x hx => ?_, a2, a3⟩
    obtain ⟨p1, k, p2, p3, p4, p5⟩ := a1 j x hx
    refine ⟨p1, k, p2, p3, app_sameN p4 (by omega) ?_, p5⟩
    rcases p4 with ⟨ev, _⟩ | ⟨c, low, ev, _, h4, _⟩
    · rw [ev]; exact blk_nil _
    · rw [ev]; exact blk_some (o1 c (by omega))
  obtain ⟨a1, a2, a3⟩ := hE1
  obtain ⟨_, k, p2, p3, p4, p5⟩ := a1 i _ q1
  have ek : k3 b K = k := kv_inj p3
  subst ek
  have hsrc : aSrc 1 H1 (oneS H) = some (1, [.int .i64 (K : Int)]) := by
    have g : H1.get H.next = some (.cells [.int .i64 (K : Int)] 0 false) := (o1 _ (by omega)).trans gb
    have := rd_whole g (Nat.zero_le _)
    simp only [List.length_cons, List.length_nil, Nat.zero_add] at this
    simp only [aSrc, oneS, Nat.mul_one, this]
  have pb : Blk v fun c => n0 ≤ c ∧ c < H1.next ∧ τ c = 100 + i := by
    rcases p4 with ⟨ev, _⟩ | ⟨c, low, ev, _, h3, h4, _⟩
    · simp only at ev; rw [ev]; exact blk_nil _
    · simp only at ev p5
      rw [ev] at p5 ⊢
      exact blk_some ⟨h3, h4, p5 _ _ _ rfl⟩
  have pl := posL_len b (k3 b K) K
  have p40 : AppN 1 0 H1 v (ints (posL b (k3 b K) K)) (posL b (k3 b K) K).length := AppN.samN' p4 (Nat.zero_le _) (Nat.le_refl _) fun _ _ _ => rfl
  obtain ⟨v', H2, m2, A2, n2, b2, o2⟩ := p40.many hsrc rfl rfl (by omega) (bytes := 8) (by omega) (by omega)
  have g2 : H2.get mb = some (.map es' es'.length) := (o2 mb (by omega) (pb.mono fun c hc => by omega)).trans g1
  have hborn := mBorn_at es' 0 i _ q1 fun j e he => by rw [(a1 j e he).1, Nat.zero_add]
  rw [Nat.zero_add] at hborn
  obtain ⟨es2, hes2⟩ : ∃ l, l = es'.set i (kv (k3 b K), v', i) := ⟨_, rfl⟩
  have l2 : es2.length = es'.length := by rw [hes2, List.length_set]
  have m3 : aHf (.mf .store) H2 [.map (some mb), .int .i64 (Int.ofNat i), v'] = some (.tuple [], H2.set mb (.map es2 es'.length)) := by
    simp only [aHf, aMF, g2, aMf, hborn, mSet_set, ← hes2]
  obtain ⟨H3, hH3⟩ : ∃ G, G = H2.set mb (.map es2 es'.length) := ⟨_, rfl⟩
  have k3' : H3.next = H2.next := by rw [hH3]; rfl
  have o3 : ∀ c, c ≠ mb → H3.get c = H2.get c := fun c hc => by rw [hH3, AHeap.get_set, if_neg hc]
  have g3 : H3.get mb = some (.map es2 es2.length) := by rw [hH3, AHeap.get_set, if_pos rfl, l2]
  have hil := (List.getElem?_eq_some_iff.1 q1).1
  have nb : Blk v' fun c => n0 ≤ c ∧ upT τ H1 H2 (100 + i) c = 100 + i := by
    refine ((b2 _ pb).and A2.blk').mono fun c hc => ?_
    rcases hc.1 with hc1 | hc1
    · exact ⟨hc1.1, by rw [upT_old hc1.2.1]; exact hc1.2.2⟩
    · exact ⟨by omega, upT_new hc1 hc.2⟩
  have key : ∀ j e, es2[j]? = some e → ∃ e', es'[j]? = some e' ∧ e.1 = e'.1 ∧ (j ≠ i → e = e') := by
    intro j e he
    by_cases hj : j = i
    · subst hj
      rw [hes2, List.getElem?_set_self hil, Option.some.injEq] at he
      exact ⟨_, q1, by rw [← he], fun h => absurd rfl h⟩
    · rw [hes2, List.getElem?_set_ne (Ne.symm hj)] at he
      exact ⟨e, he, rfl, fun _ => rfl⟩
  refine ⟨i, v, v', H1, H2, H3, upT τ H1 H2 (100 + i), by rw [← hHb, hH1]; exact m1, m2, by rw [hH3]; exact m3, MR.iff.2 ⟨es2, g3, ?_, ?_, ?_⟩, by omega, fun c hc => upT_z n2 (by omega), fun c hc => ⟨upT_old (by omega), fun h1 h2 => ?_⟩, by omega, fun c hc hd => by rw [o1 c hd, ob c hc]⟩
  · intro j e he
    by_cases hj : j = i
    · subst hj
      rw [hes2, List.getElem?_set_self hil, Option.some.injEq] at he
      subst he
      refine ⟨rfl, k3 b K, rfl, rfl, ?_, nb.mono fun c hc => hc.2⟩
      rw [posL_same, ints_append, List.length_append]
      exact app_at (A2.same (by omega) (nb.mono fun c hc => o3 c (by omega))) (nb.mono fun c hc => hc.1)
    · rw [hes2, List.getElem?_set_ne (Ne.symm hj)] at he
      obtain ⟨r1, k', r2, r3, r4, r5⟩ := a1 j e he
      have hne : k3 b K ≠ k' := fun e' => hj (a2 j i _ _ he q1 (by rw [r3, ← e']))
      have rb : Blk e.2.1 fun c => n0 ≤ c ∧ c < H1.next ∧ τ c = 100 + j := by
        rcases r4 with ⟨ev, _⟩ | ⟨c, low, ev, _, h3, h4, _⟩
        · rw [ev]; exact blk_nil _
        · rw [ev] at r5 ⊢
          exact blk_some ⟨h3, h4, r5 _ _ _ rfl⟩
      refine ⟨r1, k', r2, r3, ?_, rb.mono fun c hc => by rw [upT_old hc.2.1]; exact hc.2.2⟩
      rw [posL_other hne]
      exact app_sameN r4 (by omega) (rb.mono fun c hc => by rw [o3 c (by omega), o2 c hc.2.1 (pb.mono fun d hd => by rintro rfl; omega)])
  · intro j l e f he hf hef
    obtain ⟨e', h1, h2, _⟩ := key j e he
    obtain ⟨f', h3, h4, _⟩ := key l f hf
    exact a2 j l e' f' h1 h3 (by rw [← h2, ← h4]; exact hef)
  · intro k' hk'
    by_cases hkk : k3 b K = k'
    · subst hkk
      exact ⟨_, List.mem_of_getElem? (by rw [hes2, List.getElem?_set_self hil]), rfl⟩
    · rw [posL_other hkk] at hk'
      obtain ⟨e, he, hek⟩ := a3 k' hk'
      obtain ⟨j, hj⟩ := List.getElem?_of_mem he
      have hji : j ≠ i := by
        rintro rfl
        rw [q1, Option.some.injEq] at hj
        subst hj
        exact hkk (kv_inj hek)
      exact ⟨e, List.mem_of_getElem? (i := j) (by rw [hes2, List.getElem?_set_ne (Ne.symm hji)]; exact hj), hek⟩
  · rw [o3 c h1, o2 c (by omega) (pb.mono fun d hd => by rintro rfl; omega), o1 c h1, ob c hc]
end Go.Proofs.Zt
namespace Go.Proofs.Zt
open Go.Abs Go.Abs.S
set_option linter.unusedSimpArgs false
def stepF (b : Bs) (i m p : Nat) (x : Nat × Nat) : Nat × Nat := if x.1 < run b p i m then (run b p i m, i - p) else x
def scanF (b : Bs) (i m : Nat) (l : List Nat) : Nat → Nat × Nat → Nat × Nat
  | 0, x => x
  | n + 1, x => scanF b i m l n (stepF b i m (l.getD n 0) x)
theorem scanF_pre (b : Bs) (i m : Nat) (l r : List Nat) : ∀ (n : Nat) (x : Nat × Nat), n ≤ l.length → scanF b i m (l ++ r) n x = scanF b i m l n x
  | 0, _, _ => rfl
  | n + 1, x, h => by
    have e : (l ++ r).getD n 0 = l.getD n 0 := by
      rw [List.getD_eq_getElem?_getD, List.getD_eq_getElem?_getD, List.getElem?_append_left (by omega)]
    simp only [scanF, e]
    exact scanF_pre b i m l r n _ (by omega)
theorem scanF_snoc (b : Bs) (i m : Nat) (l : List Nat) (p : Nat) (x : Nat × Nat) : scanF b i m (l ++ [p]) (l ++ [p]).length x = scanF b i m l l.length (stepF b i m p x) := by
  rw [List.length_append, List.length_singleton]
  have e : (l ++ [p]).getD l.length 0 = p := by rw [List.getD_eq_getElem?_getD, List.getElem?_concat_length]; rfl
  simp only [scanF, e]
  exact scanF_pre b i m l [p] _ _ (Nat.le_refl _)
theorem k3_eq {b : Bs} {p i : Nat} (hp : p + 3 ≤ b.length) (hi : i + 3 ≤ b.length) : k3 b p = k3 b i ↔ ∀ j, j < 3 → b[p + j]? = b[i + j]? := by
  have e : ∀ j, j < b.length → b[j]? = some (b.getD j 0) := fun j hj => by rw [List.getD_eq_getElem?_getD, List.getElem?_eq_getElem hj]; rfl
  constructor
  · intro h j hj
    simp only [k3, List.cons.injEq, and_true] at h
    obtain ⟨h0, h1, h2⟩ := h
    rw [e _ (by omega), e _ (by omega)]
    have : j = 0 ∨ j = 1 ∨ j = 2 := by omega
    rcases this with rfl | rfl | rfl
    · exact congrArg some (UInt8.toNat_inj.1 h0)
    · exact congrArg some (UInt8.toNat_inj.1 h1)
    · exact congrArg some (UInt8.toNat_inj.1 h2)
  · intro h
    have g : ∀ j, j < 3 → b.getD (p + j) 0 = b.getD (i + j) 0 := fun j hj => by
      have := h j hj
      rw [e _ (by omega), e _ (by omega)] at this
      exact Option.some.inj this
    simp only [k3]
    have g0 := g 0 (by omega)
    have g1 := g 1 (by omega)
    have g2 := g 2 (by omega)
    simp only [Nat.add_zero] at g0
    rw [g0, g1, g2]
theorem run_three {b : Bs} {p i m : Nat} (hm : 3 ≤ m) (hp : p + 3 ≤ b.length) (hi : i + 3 ≤ b.length) : 3 ≤ run b p i m ↔ k3 b p = k3 b i := by
  rw [k3_eq hp hi]
  constructor
  · intro h j hj
    exact run_at b m p i j (by omega)
  · intro h
    rcases Nat.lt_or_ge (run b p i m) 3 with h1 | h1
    · exact absurd (h _ h1) (run_stop b m p i (by omega))
    · exact h1
def Both (i : Nat) (x y : Nat × Nat) : Prop := (x.1 < 3 ∧ y = (0, 0)) ∨ (3 ≤ x.1 ∧ y = (x.1, i - x.2))
theorem both_scan {b : Bs} {i m : Nat} (hm : 3 ≤ m) (hi : i + 3 ≤ b.length) : ∀ (p : Nat) (x y : Nat × Nat), p ≤ i → Both i x y → Both i (best b i m p x) (scanF b i m (posL b (k3 b i) p) (posL b (k3 b i) p).length y)
  | 0, x, y, _, h => h
  | p + 1, x, y, hp, h => by
    have h3 := run_three (b := b) (p := p) hm (by omega) hi
    simp only [best]
    by_cases hk : k3 b p = k3 b i
    · have e : posL b (k3 b i) (p + 1) = posL b (k3 b i) p ++ [p] := if_pos hk
      rw [e, scanF_snoc]
      have hr := h3.2 hk
      refine both_scan hm hi p _ _ (by omega) ?_
      unfold stepF
      rcases h with ⟨h1, rfl⟩ | ⟨h1, rfl⟩
      · rw [if_pos (by omega), if_pos (by simp only; omega)]
        exact .inr ⟨hr, rfl⟩
      · by_cases hlt : x.1 < run b p i m
        · rw [if_pos hlt, if_pos hlt]
          exact .inr ⟨hr, rfl⟩
        · rw [if_neg hlt, if_neg hlt]
          exact .inr ⟨h1, rfl⟩
    · have e : posL b (k3 b i) (p + 1) = posL b (k3 b i) p := if_neg hk
      rw [e]
      have hr : ¬ 3 ≤ run b p i m := fun h => hk (h3.1 h)
      refine both_scan hm hi p _ _ (by omega) ?_
      rcases h with ⟨h1, rfl⟩ | ⟨h1, rfl⟩
      · refine .inl ⟨?_, rfl⟩
        split
        · simp only; omega
        · exact h1
      · rw [if_neg (by omega)]
        exact .inr ⟨h1, rfl⟩
def matchG (b : Bs) (i to : Nat) : Nat × Nat := if mlen i to < 3 then (0, 0) else scanF b i (mlen i to) (posL b (k3 b i) i) (posL b (k3 b i) i).length (0, 0)
theorem matchG_both {b : Bs} {i to : Nat} (hi : i < to) (hto : to ≤ b.length) : Both i (matchF b i to) (matchG b i to) := by
  unfold matchG
  by_cases h : mlen i to < 3
  · rw [if_pos h]
    refine .inl ⟨?_, rfl⟩
    have hs := best_spec b i (mlen i to) i (0, 0) (Nat.le_refl _) (.inl rfl)
    rcases hs with hs | ⟨_, h2⟩
    · show (best b i (mlen i to) i (0, 0)).1 < 3
      omega
    · show (best b i (mlen i to) i (0, 0)).1 < 3
      have := run_le b (best b i (mlen i to) i (0, 0)).2 i (mlen i to)
      omega
  · rw [if_neg h]
    have hm : mlen i to = min 258 (to - i) := rfl
    exact both_scan (by omega) (by omega) i (0, 0) (0, 0) (Nat.le_refl _) (.inl ⟨by simp, rfl⟩)
theorem scan_full (b : Bs) (i m : Nat) (l : List Nat) : ∀ (n : Nat) (x : Nat × Nat), m ≤ x.1 → scanF b i m l n x = x
  | 0, _, _ => rfl
  | n + 1, x, h => by
    have e : stepF b i m (l.getD n 0) x = x := by
      unfold stepF
      have := run_le b (l.getD n 0) i m
      rw [if_neg (by omega)]
    simp only [scanF, e]
    exact scan_full b i m l n x h
theorem run_cut {b : Bs} {p i m j : Nat} (h : b[p + j]? ≠ b[i + j]?) : run b p i m ≤ j := by
  rcases Nat.lt_or_ge j (run b p i m) with h1 | h1
  · exact absurd (run_at b m p i j h1) h
  · exact h1
end Go.Proofs.Zt
namespace Go.Proofs.Zt
open Go.Abs Go.Abs.S
set_option linter.unusedSimpArgs false
def Fm (mb ow : Nat) (τ : Nat → Nat) (H : AHeap) (τ' : Nat → Nat) (H' : AHeap) : Prop := H.next ≤ H'.next ∧ ∀ c, c < H.next → τ' c = τ c ∧ (c ≠ mb → c ≠ ow → τ c < 100 → H'.get c = H.get c)
theorem Fm.refl (mb ow : Nat) (τ : Nat → Nat) (H : AHeap) : Fm mb ow τ H τ H := ⟨Nat.le_refl _, fun _ _ => ⟨rfl, fun _ _ _ => rfl⟩⟩
theorem Fm.trans {mb ow : Nat} {τ τ' τ'' : Nat → Nat} {H H' H'' : AHeap} (h : Fm mb ow τ H τ' H') (k : Fm mb ow τ' H' τ'' H'') : Fm mb ow τ H τ'' H'' :=
  ⟨Nat.le_trans h.1 k.1, fun c hc => by
    obtain ⟨e1, e2⟩ := h.2 c hc
    obtain ⟨e3, e4⟩ := k.2 c (Nat.lt_of_lt_of_le hc h.1)
    exact ⟨e3.trans e1, fun h1 h2 h3 => (e4 h1 h2 (by rw [e1]; exact h3)).trans (e2 h1 h2 h3)⟩⟩
theorem Fm.of_ext {mb ow : Nat} {τ : Nat → Nat} {H H' : AHeap} (e : Ext H.next H H') : Fm mb ow τ H τ H' := ⟨e.next, fun c hc => ⟨rfl, fun _ _ _ => e.old c hc⟩⟩
theorem MR.ext {n0 : Nat} {τ : Nat → Nat} {H H' : AHeap} {mb : Nat} {b : Bs} {K : Nat} (h : MR n0 τ H mb b K) (hmb : mb < H.next) (e : Ext H.next H H') : MR n0 τ H' mb b K := by
  obtain ⟨es, h1, h2⟩ := MR.iff.1 h
  exact MR.iff.2 ⟨es, (e.old _ hmb).trans h1, h2.same e.next fun c hc _ => ⟨e.old c hc, rfl⟩⟩
structure PW (n0 : Nat) (τ : Nat → Nat) (H : AHeap) (ow mb : Nat) (out kept : AVal) (b : Bs) (K : Nat) : Prop where
  row : Row H ow (dC out kept K (.map (some mb)))
  kp : AppN 1 0 H kept (byts b) b.length
  kb : Blk kept fun c => c < n0 ∧ τ c < 100 ∧ c ≠ mb ∧ c ≠ ow
  map : MR n0 τ H mb b K
  own : ow < n0
  mbn : mb < n0
  ne : ow ≠ mb
  tow : τ ow < 100
  n0n : n0 ≤ H.next
  tz : ∀ c, H.next ≤ c → τ c = 0
theorem PW.ext {n0 : Nat} {τ : Nat → Nat} {H H' : AHeap} {ow mb : Nat} {out kept : AVal} {b : Bs} {K : Nat} (h : PW n0 τ H ow mb out kept b K) (e : Ext H.next H H') : PW n0 τ H' ow mb out kept b K :=
  ⟨h.row.same (e.old _ (Nat.lt_of_lt_of_le h.own h.n0n)), h.kp.ext e, h.kb, h.map.ext (Nat.lt_of_lt_of_le h.mbn h.n0n) e, h.own, h.mbn, h.ne, h.tow, Nat.le_trans h.n0n e.next, fun c hc => h.tz c (Nat.le_trans e.next hc)⟩
theorem match_note {n0 : Nat} {τ : Nat → Nat} {H : AHeap} {ow mb : Nat} {out kept : AVal} {b : Bs} {K : Nat} (P : PW n0 τ H ow mb out kept b K) (hK : K ≤ 600) :
    ∃ i v v' H1 H2 H3 H4 τ', aHf (.mf (.entry (.arr 3) (.slice none 0 (.known 0)))) (H.push (.cells [.int .i64 (K : Int)] 0 false)) [.map (some mb), .agg (u8s (k3 b K))] = some (.tuple [v, .int .i64 (Int.ofNat i)], H1) ∧
      aAppend 1 8 H1 v (oneS H) = some (v', H2) ∧ aHf (.mf .store) H2 [.map (some mb), .int .i64 (Int.ofNat i), v'] = some (.tuple [], H3) ∧ oLoad false 1 H3 (cellR ow 9 6) = some (.int .i64 (K : Int)) ∧ oStore 1 H3 (cellR ow 9 6) (.int .i64 ((K + 1 : Nat) : Int)) = some H4 ∧ PW n0 τ' H4 ow mb out kept b (K + 1) ∧ Fm mb ow τ H τ' H4 := by
  obtain ⟨i, v, v', H1, H2, H3, τ', m1, m2, m3, hM, hn, tz', fr, _, _⟩ := note_spec P.map P.n0n P.mbn (by omega) P.tz
  have o1 := P.own
  have o2 := P.n0n
  have R3 : Row H3 ow (dC out kept K (.map (some mb))) := P.row.same ((fr ow (by omega)).2 P.ne P.tow)
  obtain ⟨H4, m4, r4, k4, q4⟩ := row_st R3 (n := 9) rfl (i := 6) (by omega) (x := .int .i64 ((K + 1 : Nat) : Int)) rfl rfl
  refine ⟨i, v, v', H1, H2, H3, H4, τ', m1, m2, m3, row_load R3 rfl rfl, m4, ⟨r4, P.kp.same (by omega) (P.kb.mono fun c hc => by rw [q4 c hc.2.2.2, (fr c (by omega)).2 hc.2.2.1 hc.2.1]), P.kb.mono fun c hc => ⟨hc.1, by rw [(fr c (by omega)).1]; exact hc.2.1, hc.2.2⟩, ?_, P.own, P.mbn, P.ne, by rw [(fr ow (by omega)).1]; exact P.tow, by omega, fun c hc => tz' c (by omega)⟩, by omega, fun c hc => ⟨(fr c hc).1, fun h1 h2 h3 => by rw [q4 c h2]; exact (fr c hc).2 h1 h3⟩⟩
  obtain ⟨es, h1, h2⟩ := MR.iff.1 hM
  refine MR.iff.2 ⟨es, (q4 _ (Ne.symm P.ne)).trans h1, h2.same (by omega) fun c hc ht => ⟨q4 c ?_, rfl⟩⟩
  rintro rfl
  rw [(fr c (by omega)).1] at ht
  have := P.tow
  omega
end Go.Proofs.Zt
namespace Go.Proofs.Zt
open Go.Abs Go.Abs.S
set_option linter.unusedSimpArgs false
def restM : List Nat := [1, 1, 1, 1]
theorem aeq_map (r : Nat) : aeq (.map (some r)) (.map (some r)) = true := by simp [aeq]
theorem aeq_k3 (b : Bs) (i : Nat) : aeq (.agg (u8s (k3 b i))) (.agg (u8s (k3 b i))) = true := by simp [aeq, aeqs, u8s, k3, eqF_eq]
theorem match_pre {n0 : Nat} {τ : Nat → Nat} {H : AHeap} {ow mb : Nat} {out kept : AVal} {b : Bs} {K : Nat} (P : PW n0 τ H ow mb out kept b K) (i to : Nat) (hKi : K ≤ i) (hi : i < to) (hto : to ≤ b.length) (hb : b.length ≤ 600) (Q : AVal → AHeap → Prop)
    (h0 : mlen i to < 3 → Q (.tuple [.int .i64 0, .int .i64 0]) H)
    (hrest : 3 ≤ mlen i to → ∀ (T2 : Env) (H2 : AHeap) (τ2 : Nat → Nat), T2 0 = cellR ow 9 0 → T2 1 = .int .i64 (i : Int) → T2 2 = .int .i64 (to : Int) → T2 6 = .int .i64 0 → T2 7 = .int .i64 0 → T2 8 = .int .i64 ((mlen i to : Nat) : Int) → PW n0 τ2 H2 ow mb out kept b i → Fm mb ow τ H τ2 H2 → wp (ACalls Try.prog natZ) (hold (restP restM c45.body)) (fin c45.res Q) T2 H2) :
    ACalls Try.prog natZ 45 [cellR ow 9 0, .int .i64 (i : Int), .int .i64 (to : Int)] H Q := by
  refine acalls_ofN rfl za45 rfl ?_
  refine wp_cutP restM ?_
  have ws : IntKind.i64.wrap ((to : Int) - (i : Int)) = ((to - i : Nat) : Int) := by rw [wrap64 (by omega) (by omega)]; omega
  have hm : mlen i to = min 258 (to - i) := rfl
  have emin : (if ((to - i : Nat) : Int) < 258 then ((to - i : Nat) : Int) else 258) = ((mlen i to : Nat) : Int) := by split <;> omega
  by_cases h3 : mlen i to < 3
  · have h3' : ((mlen i to : Nat) : Int) < 3 := by omega
    simp only [c45, restM, sC, sA, Int.reduceNegSucc, reduceCtorEq, Nat.reduceEqDiff, ↓reduceIte, Nat.reduceAdd, Int.reduceEq, Int.reduceLT, Int.reduceLE, ws, pf_min, emin, h3']
    exact h0 h3
  · have h3' : ¬ ((mlen i to : Nat) : Int) < 3 := by omega
    have hrest := hrest (by omega)
    generalize mlen i to = m at *
    simp only [c45, restM] at hrest
    simp only [c45, restM, sC, sA, Int.reduceNegSucc, reduceCtorEq, Nat.reduceEqDiff, ↓reduceIte, Nat.reduceAdd, Int.reduceEq, Int.reduceLT, Int.reduceLE, ws, pf_min, emin, h3']
    refine aw_loop (fun q (T : Env) H' => ∃ (K' : Nat) (τ' : Nat → Nat), K' ≤ i ∧ q = i - K' ∧ T 0 = cellR ow 9 0 ∧ T 1 = .int .i64 (i : Int) ∧ T 2 = .int .i64 (to : Int) ∧ T 6 = .int .i64 0 ∧ T 7 = .int .i64 0 ∧ T 8 = .int .i64 (m : Int) ∧ PW n0 τ' H' ow mb out kept b K' ∧ Fm mb ow τ H τ' H') (i - K)
      ⟨K, τ, hKi, rfl, by simp only [sA, Int.reduceNegSucc, reduceCtorEq, Nat.reduceEqDiff, ↓reduceIte, Nat.reduceAdd, Int.reduceEq, Int.reduceLT, Int.reduceLE]; try rfl, by simp only [sA, Int.reduceNegSucc, reduceCtorEq, Nat.reduceEqDiff, ↓reduceIte, Nat.reduceAdd, Int.reduceEq, Int.reduceLT, Int.reduceLE]; try rfl, by simp only [sA, Int.reduceNegSucc, reduceCtorEq, Nat.reduceEqDiff, ↓reduceIte, Nat.reduceAdd, Int.reduceEq, Int.reduceLT, Int.reduceLE]; try rfl, by simp only [sA, Int.reduceNegSucc, reduceCtorEq, Nat.reduceEqDiff, ↓reduceIte, Nat.reduceAdd, Int.reduceEq, Int.reduceLT, Int.reduceLE]; try rfl, by simp only [sA, Int.reduceNegSucc, reduceCtorEq, Nat.reduceEqDiff, ↓reduceIte, Nat.reduceAdd, Int.reduceEq, Int.reduceLT, Int.reduceLE]; try rfl, by simp only [sA, Int.reduceNegSucc, reduceCtorEq, Nat.reduceEqDiff, ↓reduceIte, Nat.reduceAdd, Int.reduceEq, Int.reduceLT, Int.reduceLE]; try rfl, P, Fm.refl _ _ _ _⟩ ?_
    rintro q T H' ⟨K', τ', hK', rfl, g0, g1, g2, g6, g7, g8, P', F'⟩
    have l6 : oLoad false 1 H' (cellR ow 9 6) = some (.int .i64 (K' : Int)) := row_load P'.row rfl rfl
    by_cases hlt : K' < i
    · have hlt' : (K' : Int) < (i : Int) := by omega
      have o1 := P'.own
      have o2 := P'.n0n
      simp only [sA, Int.reduceNegSucc, reduceCtorEq, Nat.reduceEqDiff, ↓reduceIte, Nat.reduceAdd, Int.reduceEq, Int.reduceLT, Int.reduceLE, g0, g1, g2, g6, g7, g8, nil_cell, fldA, fld0, l6, hlt']
      refine (three_spec P'.row (by omega) P'.kp K' (by omega) (by omega)).mono ?_
      rintro _ Ha ⟨rfl, Ea⟩
      have na := Ea.next
      obtain ⟨Hb, mb1, rb, kb, ob⟩ := row_newL Ha [.int .u8 0, .int .u8 0, .int .u8 0] (n := 3) rfl
      obtain ⟨Hc, mc, rc, kc, oc⟩ := row_storeN rb (n := 3) rfl (xs := u8s (k3 b K')) rfl (u8s_one _)
      have Ec : Ext H'.next H' Hc := ⟨by omega, fun c hc => by rw [oc c (by omega), ob c (by omega)]; exact Ea.old c hc⟩
      have Pc := P'.ext Ec
      obtain ⟨j, v, v', H1, H2, H3, H4, τ2, m1, m2, m3, l63, m4, P4, F4⟩ := match_note Pc (by omega)
      have m1' : aHf (.mf (.entry (.arr 3) (.slice none 0 (.known 0)))) (Hc.push (.cells [.int .i64 (K' : Int)] 0 false)) [.map (some mb), .agg (u8s (k3 b K'))] = some (.tuple [v, .int .i64 (j : Int)], H1) := m1
      have m3' : aHf (.mf .store) H2 [.map (some mb), .int .i64 (j : Int), v'] = some (.tuple [], H3) := m3
      have l7c : oLoad false 1 Hc (cellR ow 9 7) = some (.map (some mb)) := row_load Pc.row rfl rfl
      have l6c : oLoad false 1 Hc (cellR ow 9 6) = some (.int .i64 (K' : Int)) := row_load Pc.row rfl rfl
      have lkc : oLoad true 3 Hc (cellR Ha.next 3 0) = some (.agg (u8s (k3 b K'))) := row_loadN rc (n := 3) rfl
      have bld := build1 (.int .i64 0) Hc (x := .int .i64 (K' : Int)) rfl
      have l7d : oLoad false 1 (Hc.push (.cells [.int .i64 (K' : Int)] 0 false)) (cellR ow 9 7) = some (.map (some mb)) := row_load (Pc.row.same (get_push_lt (by omega))) rfl rfl
      have lkd : oLoad true 3 (Hc.push (.cells [.int .i64 (K' : Int)] 0 false)) (cellR Ha.next 3 0) = some (.agg (u8s (k3 b K'))) := row_loadN (rc.same (get_push_lt (by omega))) (n := 3) rfl
      simp only [sA, Int.reduceNegSucc, reduceCtorEq, Nat.reduceEqDiff, ↓reduceIte, Nat.reduceAdd, Int.reduceEq, Int.reduceLT, Int.reduceLE, g0, g1, g2, g6, g7, g8, mb1, mc]
      refine aw_drawC rfl ?_
      simp only [sA, Int.reduceNegSucc, reduceCtorEq, Nat.reduceEqDiff, ↓reduceIte, Nat.reduceAdd, Int.reduceEq, Int.reduceLT, Int.reduceLE, sR, g0, nil_cell, fldA, fld0, l7c, lkc, l6c, bld, m1', ext_0, ext_1, m2, m3']
      simp only [ck_nil', ck_cons, ckP_load, ckP_nil, ck_end, and_true, true_and, List.map_cons, List.map_nil, sA, Int.reduceNegSucc, reduceCtorEq, Nat.reduceEqDiff, ↓reduceIte, Nat.reduceAdd, Int.reduceEq, Int.reduceLT, Int.reduceLE, g0, fldA, fld0]
      refine ⟨⟨⟨_, rfl, fun _ => ⟨_, l7d, aeq_map _⟩⟩, ⟨_, rfl, fun _ => ⟨_, lkd, aeq_k3 _ _⟩⟩⟩, ?_⟩
      simp only [sA, Int.reduceNegSucc, reduceCtorEq, Nat.reduceEqDiff, ↓reduceIte, Nat.reduceAdd, Int.reduceEq, Int.reduceLT, Int.reduceLE, g0, g1, g2, g6, g7, g8, nil_cell, fldA, fld0, l63, wrap1 K' (by omega), m4]
      exact ⟨_, by omega, K' + 1, τ2, by omega, rfl, (by first | with_reducible rfl | trivial | rfl | assumption), (by first | with_reducible rfl | trivial | rfl | assumption), (by first | with_reducible rfl | trivial | rfl | assumption), (by first | with_reducible rfl | trivial | rfl | assumption), (by first | with_reducible rfl | trivial | rfl | assumption), (by first | with_reducible rfl | trivial | rfl | assumption), P4, F'.trans ((Fm.of_ext Ec).trans F4)⟩
    · have hlt' : ¬ (K' : Int) < (i : Int) := by omega
      obtain rfl : K' = i := by omega
      simp only [sA, Int.reduceNegSucc, reduceCtorEq, Nat.reduceEqDiff, ↓reduceIte, Nat.reduceAdd, Int.reduceEq, Int.reduceLT, Int.reduceLE, g0, g1, g2, g6, g7, g8, nil_cell, fldA, fld0, l6, hlt']
      exact hrest _ _ τ' (by simp only [sA, Int.reduceNegSucc, reduceCtorEq, Nat.reduceEqDiff, ↓reduceIte, Nat.reduceAdd, Int.reduceEq, Int.reduceLT, Int.reduceLE, g0]) (by simp only [sA, Int.reduceNegSucc, reduceCtorEq, Nat.reduceEqDiff, ↓reduceIte, Nat.reduceAdd, Int.reduceEq, Int.reduceLT, Int.reduceLE, g1]) (by simp only [sA, Int.reduceNegSucc, reduceCtorEq, Nat.reduceEqDiff, ↓reduceIte, Nat.reduceAdd, Int.reduceEq, Int.reduceLT, Int.reduceLE, g2]) (by simp only [sA, Int.reduceNegSucc, reduceCtorEq, Nat.reduceEqDiff, ↓reduceIte, Nat.reduceAdd, Int.reduceEq, Int.reduceLT, Int.reduceLE, g6]) (by simp only [sA, Int.reduceNegSucc, reduceCtorEq, Nat.reduceEqDiff, ↓reduceIte, Nat.reduceAdd, Int.reduceEq, Int.reduceLT, Int.reduceLE, g7]) (by simp only [sA, Int.reduceNegSucc, reduceCtorEq, Nat.reduceEqDiff, ↓reduceIte, Nat.reduceAdd, Int.reduceEq, Int.reduceLT, Int.reduceLE, g8]) P' F'
end Go.Proofs.Zt
namespace Go.Proofs.Zt
open Go.Abs Go.Abs.S
set_option linter.unusedSimpArgs false
theorem match_rest {n0 : Nat} {τ : Nat → Nat} {H : AHeap} {ow mb : Nat} {out kept : AVal} {b : Bs} {T : Env} {i to m : Nat} (P : PW n0 τ H ow mb out kept b i) (hm : m = mlen i to) (hm3 : 3 ≤ m) (hi : i < to) (hto : to ≤ b.length) (hb : b.length ≤ 600) (Q : AVal → AHeap → Prop)
    (g0 : T 0 = cellR ow 9 0) (g1 : T 1 = .int .i64 (i : Int)) (g6 : T 6 = .int .i64 0) (g7 : T 7 = .int .i64 0) (g8 : T 8 = .int .i64 (m : Int))
    (hQ : ∀ H2, Ext H.next H H2 → Q (.tuple [.int .i64 (((matchG b i to).1 : Nat) : Int), .int .i64 (((matchG b i to).2 : Nat) : Int)]) H2) :
    wp (ACalls Try.prog natZ) (hold (restP restM c45.body)) (fin c45.res Q) T H := by
  have hmm : mlen i to = min 258 (to - i) := rfl
  have l3 : oLoad false 1 H (cellR ow 9 3) = some kept := row_load P.row rfl rfl
  have l4 : oLoad false 1 H (cellR ow 9 4) = some (.int .i64 0) := row_load P.row rfl rfl
  have l7 : oLoad false 1 H (cellR ow 9 7) = some (.map (some mb)) := row_load P.row rfl rfl
  have e0 : (i : Int) - 0 = (i : Int) := by omega
  have wi : IntKind.i64.wrap (i : Int) = (i : Int) := wrap64 (by omega) (by omega)
  obtain ⟨here, mh, ch, _⟩ := P.kp.slice (lo := i) (hi := i + m) (by omega) (by omega)
  have eh : ((byts b).drop i).take (i + m - i) = byts ((b.drop i).take m) := by rw [show i + m - i = m by omega]; simp [byts]
  rw [eh] at ch
  have o1 := P.own
  have o2 := P.n0n
  simp only [c45, restP, restM, hold_eq, sA, Int.reduceNegSucc, reduceCtorEq, Nat.reduceEqDiff, ↓reduceIte, Nat.reduceAdd, Int.reduceEq, Int.reduceLT, Int.reduceLE, g0, g1, g6, g7, g8, nil_cell, fldA, fld0, l3, l4, e0, wi, wrapN i m (by omega), mh]
  refine aw_drawC rfl ?_
  simp only [sA, Int.reduceNegSucc, reduceCtorEq, Nat.reduceEqDiff, ↓reduceIte, Nat.reduceAdd, Int.reduceEq, Int.reduceLT, Int.reduceLE, sR, g0, g1, nil_cell, fldA, fld0, l7]
  refine (three_spec P.row (by omega) P.kp i (by omega) (by omega)).mono ?_
  rintro _ Ha ⟨rfl, Ea⟩
  have Pa := P.ext Ea
  have l7a : oLoad false 1 Ha (cellR ow 9 7) = some (.map (some mb)) := row_load Pa.row rfl rfl
  have l3a : oLoad false 1 Ha (cellR ow 9 3) = some kept := row_load Pa.row rfl rfl
  have l4a : oLoad false 1 Ha (cellR ow 9 4) = some (.int .i64 0) := row_load Pa.row rfl rfl
  obtain ⟨v, ml, Av⟩ := Pa.map.look (k := k3 b i) rfl
  have ml' : aHf (.mLook (.arr 3) false (.slice none 0 (.known 0))) Ha [.map (some mb), .agg (u8s (k3 b i))] = some (v, Ha) := ml
  simp only [sA, Int.reduceNegSucc, reduceCtorEq, Nat.reduceEqDiff, ↓reduceIte, Nat.reduceAdd, Int.reduceEq, Int.reduceLT, Int.reduceLE, sR, ml']
  simp only [ck_nil', ck_cons, ckP_load, ckP_nil, ck_end, and_true, true_and, List.map_cons, List.map_nil, sA, Int.reduceNegSucc, reduceCtorEq, Nat.reduceEqDiff, ↓reduceIte, Nat.reduceAdd, Int.reduceEq, Int.reduceLT, Int.reduceLE, g0, g1, fldA, fld0]
  refine ⟨⟨_, rfl, fun _ => ⟨_, l7a, aeq_map _⟩⟩, ?_⟩
  have Av0 : AppN 1 0 Ha v (ints (posL b (k3 b i) i)) (posL b (k3 b i) i).length := AppN.samN' Av (Nat.zero_le _) (Nat.le_refl _) fun _ _ _ => rfl
  have Cv : Cel Ha.next Ha v (ints (posL b (k3 b i) i)) := Av0.cel1 Av0.blk'
  have hlen := Av0.len
  have hpl := posL_len b (k3 b i) i
  have hmem : ∀ p, p ∈ posL b (k3 b i) i → p < i := fun p hp => (posL_mem.1 hp).1
  have hG : matchG b i to = scanF b i m (posL b (k3 b i) i) (posL b (k3 b i) i).length (0, 0) := by unfold matchG; rw [if_neg (by omega), ← hm]
  obtain ⟨l, hl⟩ : ∃ l, l = posL b (k3 b i) i := ⟨_, rfl⟩
  rw [← hl] at Cv hlen hpl hmem hG
  have cha := ch.ext Ea
  have wl : IntKind.i64.wrap ((l.length : Int) - 1) = (l.length : Int) - 1 := wrap64 (by omega) (by omega)
  have w3 : IntKind.i64.wrap ((i : Int) - 32768) = (i : Int) - 32768 := wrap64 (by omega) (by omega)
  simp only [sA, Int.reduceNegSucc, reduceCtorEq, Nat.reduceEqDiff, ↓reduceIte, Nat.reduceAdd, Int.reduceEq, Int.reduceLT, Int.reduceLE, g0, g1, g6, g7, g8, hlen, wl]
  refine aw_loop (fun q (T : Env) H' => ∃ y : Nat × Nat, q ≤ l.length ∧ y.1 ≤ m ∧ T 0 = cellR ow 9 0 ∧ T 1 = .int .i64 (i : Int) ∧ T 6 = .int .i64 (y.1 : Int) ∧ T 7 = .int .i64 (y.2 : Int) ∧ T 8 = .int .i64 (m : Int) ∧ T 10 = here ∧ T 11 = v ∧ T 12 = .int .i64 ((q : Int) - 1) ∧ scanF b i m l q y = matchG b i to ∧ Ha = H') l.length
    ⟨(0, 0), Nat.le_refl _, Nat.zero_le _, by simp only [sA, Int.reduceNegSucc, reduceCtorEq, Nat.reduceEqDiff, ↓reduceIte, Nat.reduceAdd, Int.reduceEq, Int.reduceLT, Int.reduceLE, g0], by simp only [sA, Int.reduceNegSucc, reduceCtorEq, Nat.reduceEqDiff, ↓reduceIte, Nat.reduceAdd, Int.reduceEq, Int.reduceLT, Int.reduceLE, g1], by simp only [sA, Int.reduceNegSucc, reduceCtorEq, Nat.reduceEqDiff, ↓reduceIte, Nat.reduceAdd, Int.reduceEq, Int.reduceLT, Int.reduceLE, g6]; try rfl, by simp only [sA, Int.reduceNegSucc, reduceCtorEq, Nat.reduceEqDiff, ↓reduceIte, Nat.reduceAdd, Int.reduceEq, Int.reduceLT, Int.reduceLE, g7]; try rfl, by simp only [sA, Int.reduceNegSucc, reduceCtorEq, Nat.reduceEqDiff, ↓reduceIte, Nat.reduceAdd, Int.reduceEq, Int.reduceLT, Int.reduceLE, g8], by simp only [sA, Int.reduceNegSucc, reduceCtorEq, Nat.reduceEqDiff, ↓reduceIte, Nat.reduceAdd, Int.reduceEq, Int.reduceLT, Int.reduceLE], by simp only [sA, Int.reduceNegSucc, reduceCtorEq, Nat.reduceEqDiff, ↓reduceIte, Nat.reduceAdd, Int.reduceEq, Int.reduceLT, Int.reduceLE], by simp only [sA, Int.reduceNegSucc, reduceCtorEq, Nat.reduceEqDiff, ↓reduceIte, Nat.reduceAdd, Int.reduceEq, Int.reduceLT, Int.reduceLE], hG.symm, rfl⟩ ?_
  rintro q T _ ⟨y, hq, hym, k0, k1, k6, k7, k8, k10, k11, k12, hsc, rfl⟩
  have leave : scanF b i m l q y = y → Q (.tuple [.int .i64 (y.1 : Int), .int .i64 (y.2 : Int)]) Ha := fun h => by
    have := hQ Ha Ea
    rw [← hsc, h] at this
    exact this
  cases q with
  | zero =>
    have hge : ¬ (0 : Int) ≤ ((0 : Nat) : Int) - 1 := by omega
    simp only [sA, Int.reduceNegSucc, reduceCtorEq, Nat.reduceEqDiff, ↓reduceIte, Nat.reduceAdd, Int.reduceEq, Int.reduceLT, Int.reduceLE, k0, k1, k6, k7, k8, k10, k11, k12, hge]
    exact leave rfl
  | succ n =>
    have en : ((n + 1 : Nat) : Int) - 1 = (n : Int) := by omega
    rw [en] at k12
    have hge : (0 : Int) ≤ (n : Int) := by omega
    obtain ⟨p, hp⟩ : ∃ p, l[n]? = some p := ⟨_, List.getElem?_eq_getElem (by omega)⟩
    have hpd : l.getD n 0 = p := by rw [List.getD_eq_getElem?_getD, hp]; rfl
    have hpi := hmem p (List.mem_of_getElem? hp)
    have hidx := Cv.idx .i64 (i := n) (by rw [ints_len]; omega)
    have hld := Cv.load (ints_get hp)
    have hge2 : (i : Int) - 32768 ≤ (p : Int) := by omega
    have wn : IntKind.i64.wrap ((n : Int) - 1) = (n : Int) - 1 := wrap64 (by omega) (by omega)
    by_cases hy : y.1 < m
    · have hy' : (y.1 : Int) < (m : Int) := by omega
      have hpi' : ¬ (i : Int) ≤ (p : Int) := by omega
      simp only [scanF, hpd] at hsc
      obtain ⟨th, mt, ct, _⟩ := Pa.kp.from_ (lo := p) (by omega)
      have et : (byts b).drop p = byts (b.drop p) := by simp [byts]
      rw [et] at ct
      have e0p : (p : Int) - 0 = (p : Int) := by omega
      have wp_ : IntKind.i64.wrap (p : Int) = (p : Int) := wrap64 (by omega) (by omega)
      have wsp : IntKind.i64.wrap ((i : Int) - (p : Int)) = ((i - p : Nat) : Int) := by rw [wrap64 (by omega) (by omega)]; omega
      have at1 : ∀ j, j < m → ∃ c d, b[p + j]? = some c ∧ b[i + j]? = some d ∧ aIdxA 1 th (.int .i64 (j : Int)) = some (cellP th j) ∧ oLoad false 1 Ha (cellP th j) = some (.int .u8 (c.toNat : Int)) ∧ aIdxA 1 here (.int .i64 (j : Int)) = some (cellP here j) ∧ oLoad false 1 Ha (cellP here j) = some (.int .u8 (d.toNat : Int)) := by
        intro j hj
        obtain ⟨c, hc⟩ : ∃ c, b[p + j]? = some c := ⟨_, List.getElem?_eq_getElem (by omega)⟩
        obtain ⟨d, hd⟩ : ∃ d, b[i + j]? = some d := ⟨_, List.getElem?_eq_getElem (by omega)⟩
        exact ⟨c, d, hc, hd, ct.idx .i64 (by rw [byts_len, List.length_drop]; omega), ct.load (byts_get (by rw [List.getElem?_drop]; exact hc)), cha.idx .i64 (by rw [byts_len, List.length_take, List.length_drop]; omega), cha.load (byts_get (by rw [List.getElem?_take_of_lt hj, List.getElem?_drop]; exact hd))⟩
      obtain ⟨c, d, hc, hd, i1, x1, i2, x2⟩ := at1 y.1 hy
      by_cases hcd : c = d
      · have hne : (c.toNat : Int) = (d.toNat : Int) := by rw [hcd]
        simp only [sA, Int.reduceNegSucc, reduceCtorEq, Nat.reduceEqDiff, ↓reduceIte, Nat.reduceAdd, Int.reduceEq, Int.reduceLT, Int.reduceLE, k0, k1, k6, k7, k8, k10, k11, k12, hge, hidx, hld, w3, hge2, hy', hpi', nil_cell, fldA, fld0, l3a, l4a, e0p, wp_, mt, i1, x1, i2, x2, hne]
        refine aw_loop (fun q (T2 : Env) H' => ∃ j : Nat, j ≤ m ∧ q = m - j ∧ T2 0 = cellR ow 9 0 ∧ T2 1 = .int .i64 (i : Int) ∧ T2 6 = .int .i64 (y.1 : Int) ∧ T2 7 = .int .i64 (y.2 : Int) ∧ T2 8 = .int .i64 (m : Int) ∧ T2 10 = here ∧ T2 11 = v ∧ T2 12 = .int .i64 (n : Int) ∧ T2 13 = th ∧ T2 14 = .int .i64 (j : Int) ∧ run b p i m = j + run b (p + j) (i + j) (m - j) ∧ Ha = H') m
          ⟨0, Nat.zero_le _, rfl, by simp only [sA, Int.reduceNegSucc, reduceCtorEq, Nat.reduceEqDiff, ↓reduceIte, Nat.reduceAdd, Int.reduceEq, Int.reduceLT, Int.reduceLE, k0], by simp only [sA, Int.reduceNegSucc, reduceCtorEq, Nat.reduceEqDiff, ↓reduceIte, Nat.reduceAdd, Int.reduceEq, Int.reduceLT, Int.reduceLE, k1], by simp only [sA, Int.reduceNegSucc, reduceCtorEq, Nat.reduceEqDiff, ↓reduceIte, Nat.reduceAdd, Int.reduceEq, Int.reduceLT, Int.reduceLE, k6], by simp only [sA, Int.reduceNegSucc, reduceCtorEq, Nat.reduceEqDiff, ↓reduceIte, Nat.reduceAdd, Int.reduceEq, Int.reduceLT, Int.reduceLE, k7], by simp only [sA, Int.reduceNegSucc, reduceCtorEq, Nat.reduceEqDiff, ↓reduceIte, Nat.reduceAdd, Int.reduceEq, Int.reduceLT, Int.reduceLE, k8], by simp only [sA, Int.reduceNegSucc, reduceCtorEq, Nat.reduceEqDiff, ↓reduceIte, Nat.reduceAdd, Int.reduceEq, Int.reduceLT, Int.reduceLE, k10], by simp only [sA, Int.reduceNegSucc, reduceCtorEq, Nat.reduceEqDiff, ↓reduceIte, Nat.reduceAdd, Int.reduceEq, Int.reduceLT, Int.reduceLE, k11], by simp only [sA, Int.reduceNegSucc, reduceCtorEq, Nat.reduceEqDiff, ↓reduceIte, Nat.reduceAdd, Int.reduceEq, Int.reduceLT, Int.reduceLE, k12], by simp only [sA, Int.reduceNegSucc, reduceCtorEq, Nat.reduceEqDiff, ↓reduceIte, Nat.reduceAdd, Int.reduceEq, Int.reduceLT, Int.reduceLE], by simp only [sA, Int.reduceNegSucc, reduceCtorEq, Nat.reduceEqDiff, ↓reduceIte, Nat.reduceAdd, Int.reduceEq, Int.reduceLT, Int.reduceLE]; try rfl, by simp, rfl⟩ ?_
        rintro q T2 _ ⟨j, hj, rfl, f0, f1, f6, f7, f8, f10, f11, f12, f13, f14, hrun, rfl⟩
        by_cases hjm : j < m
        · have hjm' : (j : Int) < (m : Int) := by omega
          obtain ⟨c', d', hc', hd', j1, z1, j2, z2⟩ := at1 j hjm
          rw [run_step b p i m j hjm, hc', hd'] at hrun
          by_cases hcd' : c' = d'
          · have heq : (c'.toNat : Int) = (d'.toNat : Int) := by rw [hcd']
            rw [if_pos (by rw [hcd'])] at hrun
            simp only [sA, Int.reduceNegSucc, reduceCtorEq, Nat.reduceEqDiff, ↓reduceIte, Nat.reduceAdd, Int.reduceEq, Int.reduceLT, Int.reduceLE, f0, f1, f6, f7, f8, f10, f11, f12, f13, f14, hjm', j1, z1, j2, z2, heq, wrap1 j (by omega)]
            exact ⟨_, by omega, j + 1, by omega, rfl, (by first | with_reducible rfl | trivial | rfl | assumption), (by first | with_reducible rfl | trivial | rfl | assumption), (by first | with_reducible rfl | trivial | rfl | assumption), (by first | with_reducible rfl | trivial | rfl | assumption), (by first | with_reducible rfl | trivial | rfl | assumption), (by first | with_reducible rfl | trivial | rfl | assumption), (by first | with_reducible rfl | trivial | rfl | assumption), (by first | with_reducible rfl | trivial | rfl | assumption), (by first | with_reducible rfl | trivial | rfl | assumption), (by first | with_reducible rfl | trivial | rfl | assumption), by rw [hrun]; omega, (by first | with_reducible rfl | trivial | rfl | assumption)⟩
          · have heq : ¬ (c'.toNat : Int) = (d'.toNat : Int) := fun e => hcd' (UInt8.toNat_inj.1 (by omega))
            rw [if_neg (by simpa using hcd')] at hrun
            have hr : run b p i m = j := by omega
            by_cases hcmp : y.1 < j
            · have hcmp' : (y.1 : Int) < (j : Int) := by omega
              have hst : stepF b i m p y = (j, i - p) := by unfold stepF; rw [hr, if_pos hcmp]
              simp only [sA, Int.reduceNegSucc, reduceCtorEq, Nat.reduceEqDiff, ↓reduceIte, Nat.reduceAdd, Int.reduceEq, Int.reduceLT, Int.reduceLE, f0, f1, f6, f7, f8, f10, f11, f12, f13, f14, hjm', j1, z1, j2, z2, heq, hcmp', hidx, hld, wsp, wn]
              exact ⟨n, by omega, (j, i - p), by omega, by simp only; omega, (by first | with_reducible rfl | trivial | rfl | assumption), (by first | with_reducible rfl | trivial | rfl | assumption), (by first | with_reducible rfl | trivial | rfl | assumption), (by first | with_reducible rfl | trivial | rfl | assumption), (by first | with_reducible rfl | trivial | rfl | assumption), (by first | with_reducible rfl | trivial | rfl | assumption), (by first | with_reducible rfl | trivial | rfl | assumption), (by first | with_reducible rfl | trivial | rfl | assumption), by rw [← hst]; exact hsc, (by first | with_reducible rfl | trivial | rfl | assumption)⟩
            · have hcmp' : ¬ (y.1 : Int) < (j : Int) := by omega
              have hst : stepF b i m p y = y := by unfold stepF; rw [hr, if_neg hcmp]
              rw [hst] at hsc
              simp only [sA, Int.reduceNegSucc, reduceCtorEq, Nat.reduceEqDiff, ↓reduceIte, Nat.reduceAdd, Int.reduceEq, Int.reduceLT, Int.reduceLE, f0, f1, f6, f7, f8, f10, f11, f12, f13, f14, hjm', j1, z1, j2, z2, heq, hcmp', wn]
              exact ⟨n, by omega, y, by omega, hym, (by first | with_reducible rfl | trivial | rfl | assumption), (by first | with_reducible rfl | trivial | rfl | assumption), (by first | with_reducible rfl | trivial | rfl | assumption), (by first | with_reducible rfl | trivial | rfl | assumption), (by first | with_reducible rfl | trivial | rfl | assumption), (by first | with_reducible rfl | trivial | rfl | assumption), (by first | with_reducible rfl | trivial | rfl | assumption), (by first | with_reducible rfl | trivial | rfl | assumption), hsc, (by first | with_reducible rfl | trivial | rfl | assumption)⟩
        · have hjm' : ¬ (j : Int) < (m : Int) := by omega
          have hr : run b p i m = j := by rw [hrun, show m - j = 0 by omega, run]; rfl
          by_cases hcmp : y.1 < j
          · have hcmp' : (y.1 : Int) < (j : Int) := by omega
            have hst : stepF b i m p y = (j, i - p) := by unfold stepF; rw [hr, if_pos hcmp]
            simp only [sA, Int.reduceNegSucc, reduceCtorEq, Nat.reduceEqDiff, ↓reduceIte, Nat.reduceAdd, Int.reduceEq, Int.reduceLT, Int.reduceLE, f0, f1, f6, f7, f8, f10, f11, f12, f13, f14, hjm', hcmp', hidx, hld, wsp, wn]
            exact ⟨n, by omega, (j, i - p), by omega, by simp only; omega, (by first | with_reducible rfl | trivial | rfl | assumption), (by first | with_reducible rfl | trivial | rfl | assumption), (by first | with_reducible rfl | trivial | rfl | assumption), (by first | with_reducible rfl | trivial | rfl | assumption), (by first | with_reducible rfl | trivial | rfl | assumption), (by first | with_reducible rfl | trivial | rfl | assumption), (by first | with_reducible rfl | trivial | rfl | assumption), (by first | with_reducible rfl | trivial | rfl | assumption), by rw [← hst]; exact hsc, (by first | with_reducible rfl | trivial | rfl | assumption)⟩
          · have hcmp' : ¬ (y.1 : Int) < (j : Int) := by omega
            have hst : stepF b i m p y = y := by unfold stepF; rw [hr, if_neg hcmp]
            rw [hst] at hsc
            simp only [sA, Int.reduceNegSucc, reduceCtorEq, Nat.reduceEqDiff, ↓reduceIte, Nat.reduceAdd, Int.reduceEq, Int.reduceLT, Int.reduceLE, f0, f1, f6, f7, f8, f10, f11, f12, f13, f14, hjm', hcmp', wn]
            exact ⟨n, by omega, y, by omega, hym, (by first | with_reducible rfl | trivial | rfl | assumption), (by first | with_reducible rfl | trivial | rfl | assumption), (by first | with_reducible rfl | trivial | rfl | assumption), (by first | with_reducible rfl | trivial | rfl | assumption), (by first | with_reducible rfl | trivial | rfl | assumption), (by first | with_reducible rfl | trivial | rfl | assumption), (by first | with_reducible rfl | trivial | rfl | assumption), (by first | with_reducible rfl | trivial | rfl | assumption), hsc, (by first | with_reducible rfl | trivial | rfl | assumption)⟩
      · have hne : ¬ (c.toNat : Int) = (d.toNat : Int) := fun e => hcd (UInt8.toNat_inj.1 (by omega))
        have hcut := run_cut (b := b) (p := p) (i := i) (m := m) (j := y.1) (by rw [hc, hd]; simpa using hcd)
        have hst : stepF b i m p y = y := by unfold stepF; rw [if_neg (by omega)]
        rw [hst] at hsc
        simp only [sA, Int.reduceNegSucc, reduceCtorEq, Nat.reduceEqDiff, ↓reduceIte, Nat.reduceAdd, Int.reduceEq, Int.reduceLT, Int.reduceLE, k0, k1, k6, k7, k8, k10, k11, k12, hge, hidx, hld, w3, hge2, hy', hpi', nil_cell, fldA, fld0, l3a, l4a, e0p, wp_, mt, i1, x1, i2, x2, hne, wn]
        exact ⟨n, by omega, y, by omega, hym, (by first | with_reducible rfl | trivial | rfl | assumption), (by first | with_reducible rfl | trivial | rfl | assumption), (by first | with_reducible rfl | trivial | rfl | assumption), (by first | with_reducible rfl | trivial | rfl | assumption), (by first | with_reducible rfl | trivial | rfl | assumption), (by first | with_reducible rfl | trivial | rfl | assumption), (by first | with_reducible rfl | trivial | rfl | assumption), (by first | with_reducible rfl | trivial | rfl | assumption), hsc, (by first | with_reducible rfl | trivial | rfl | assumption)⟩
    · have hy' : ¬ (y.1 : Int) < (m : Int) := by omega
      simp only [sA, Int.reduceNegSucc, reduceCtorEq, Nat.reduceEqDiff, ↓reduceIte, Nat.reduceAdd, Int.reduceEq, Int.reduceLT, Int.reduceLE, k0, k1, k6, k7, k8, k10, k11, k12, hge, hidx, hld, w3, hge2, hy']
      exact leave (scan_full b i m l _ _ (by omega))
theorem match_spec {n0 : Nat} {τ : Nat → Nat} {H : AHeap} {ow mb : Nat} {out kept : AVal} {b : Bs} {K : Nat} (P : PW n0 τ H ow mb out kept b K) (i to : Nat) (hKi : K ≤ i) (hi : i < to) (hto : to ≤ b.length) (hb : b.length ≤ 600) :
    ACalls Try.prog natZ 45 [cellR ow 9 0, .int .i64 (i : Int), .int .i64 (to : Int)] H fun w H' => w = .tuple [.int .i64 (((matchG b i to).1 : Nat) : Int), .int .i64 (((matchG b i to).2 : Nat) : Int)] ∧ ∃ τ' K', K' ≤ i ∧ PW n0 τ' H' ow mb out kept b K' ∧ Fm mb ow τ H τ' H' := by
  refine match_pre P i to hKi hi hto hb _ (fun h => ?_) fun h3 T2 H2 τ2 g0 g1 g2 g6 g7 g8 P2 F2 => ?_
  · have e : matchG b i to = (0, 0) := by unfold matchG; rw [if_pos h]
    rw [e]
    exact ⟨rfl, τ, K, hKi, P, Fm.refl _ _ _ _⟩
  · exact match_rest P2 rfl h3 hi hto hb _ g0 g1 g6 g7 g8 fun H3 E3 => ⟨rfl, τ2, i, Nat.le_refl _, P2.ext E3, F2.trans (Fm.of_ext E3)⟩
end Go.Proofs.Zt
namespace Go.Proofs.Zt
open Go.Abs Go.Abs.S
set_option linter.unusedSimpArgs false
def tokFl (t : Tok) : List (Nat × Nat) := if t.back = 0 then [symF t.b.toNat] else lenFl t.n ++ disFl t.back
theorem tokFl_ok {t : Tok} (h : tokOk t) : fldBits (tokFl t) = tokB t ∧ ∀ f ∈ tokFl t, fldOk f = true := by
  unfold tokFl tokB
  by_cases h0 : t.back = 0
  · rw [if_pos h0, if_pos h0]
    have hb := t.b.toNat_lt
    obtain ⟨a, e⟩ := symF_ok (s := t.b.toNat) (by omega)
    refine ⟨by simp [fldBits, e], fun f hf => ?_⟩
    rw [List.mem_singleton] at hf; rw [hf]; exact a
  · rw [if_neg h0, if_neg h0]
    rcases h with h | ⟨h1, h2, h3, h4⟩
    · exact absurd h h0
    · obtain ⟨a1, a2⟩ := lenFl_ok h1 h2
      obtain ⟨b1, b2⟩ := disFl_ok h3 h4
      refine ⟨by rw [fldBits_append, a1, b1], fun f hf => ?_⟩
      rcases List.mem_append.1 hf with hf | hf
      · exact a2 f hf
      · exact b2 f hf
theorem toksFl_ok : ∀ (l : List Tok), (∀ t ∈ l, tokOk t) → fldBits (l.flatMap tokFl) = l.flatMap tokB ∧ ∀ f ∈ l.flatMap tokFl, fldOk f = true
  | [], _ => ⟨rfl, fun f hf => by simp at hf⟩
  | t :: r, h => by
    obtain ⟨a1, a2⟩ := tokFl_ok (h t (by simp))
    obtain ⟨b1, b2⟩ := toksFl_ok r fun t ht => h t (by simp [ht])
    refine ⟨by simp only [List.flatMap_cons, fldBits_append, a1, b1], fun f hf => ?_⟩
    rw [List.flatMap_cons] at hf
    rcases List.mem_append.1 hf with hf | hf
    · exact a2 f hf
    · exact b2 f hf
def blockFl (last : Nat) (l : List Tok) : List (Nat × Nat) := [(last, 1), (1, 2)] ++ l.flatMap tokFl ++ [symF 256]
theorem blockFl_ok {last : Nat} (hla : last ≤ 1) {l : List Tok} (h : ∀ t ∈ l, tokOk t) : fldBits (blockFl last l) = fixedB l last ∧ ∀ f ∈ blockFl last l, fldOk f = true := by
  obtain ⟨a1, a2⟩ := toksFl_ok l h
  obtain ⟨b1, b2⟩ := symF_ok (s := 256) (by omega)
  unfold blockFl
  refine ⟨?_, fun f hf => ?_⟩
  · rw [fldBits_append, fldBits_append, a1]
    have e1 : fldBits [(last, 1), (1, 2)] = bitsN last 1 ++ bitsN 1 2 := by simp [fldBits]
    have e2 : fldBits [symF 256] = fixB 256 := by simp [fldBits, b2]
    rw [e1, e2]
    simp only [fixedB, List.append_assoc]
  · rcases List.mem_append.1 hf with hf | hf
    · rcases List.mem_append.1 hf with hf | hf
      · simp only [List.mem_cons, List.not_mem_nil, or_false] at hf
        rcases hf with rfl | rfl
        · have : last = 0 ∨ last = 1 := by omega
          rcases this with rfl | rfl <;> rfl
        · rfl
      · exact a2 f hf
    · rw [List.mem_singleton] at hf; rw [hf]; exact b1
def wideF (fs : List (Nat × Nat)) : Nat := (fs.map (·.2)).sum
theorem wideF_bits (fs : List (Nat × Nat)) : wideF fs = (fldBits fs).length := by
  induction fs with
  | nil => rfl
  | cons f r ih =>
    simp only [wideF, fldBits] at ih
    simp only [wideF, fldBits, List.map_cons, List.sum_cons, List.flatMap_cons, List.length_append, bitsN_len, ih]
theorem tok_at {b : Bs} {to i f : Nat} (hi : i < to) (hto : to ≤ b.length) :
    (3 ≤ (matchG b i to).1 ∧ toksF b to (f + 1) i = ⟨(matchG b i to).1, (matchG b i to).2, 0⟩ :: toksF b to f (i + (matchG b i to).1)) ∨
    (¬ 3 ≤ (matchG b i to).1 ∧ toksF b to (f + 1) i = ⟨0, 0, b.getD i 0⟩ :: toksF b to f (i + 1)) := by
  have hB := matchG_both hi hto
  simp only [toksF, if_pos hi]
  rcases hB with ⟨h1, h2⟩ | ⟨h1, h2⟩
  · refine .inr ⟨by rw [h2]; simp, ?_⟩
    rw [if_neg (by omega)]
  · refine .inl ⟨by rw [h2]; exact h1, ?_⟩
    rw [if_pos h1, h2]
end Go.Proofs.Zt
namespace Go.Proofs.Zt
open Go.Abs Go.Abs.S
set_option linter.unusedSimpArgs false
def FM (τ : Nat → Nat) (H : AHeap) (v : AVal) (fs : List (Nat × Nat)) : Prop := FL H v fs ∧ Blk v (τ · = 6)
theorem PW.mark {n0 : Nat} {τ : Nat → Nat} {H H' : AHeap} {ow mb : Nat} {out kept : AVal} {b : Bs} {K : Nat} (h : PW n0 τ H ow mb out kept b K) (h6 : ∀ c, c < n0 → τ c ≠ 6) (hn : H.next ≤ H'.next) (e : ∀ c, c < H.next → τ c ≠ 6 → H'.get c = H.get c) : PW n0 (upT τ H H' 6) H' ow mb out kept b K := by
  have o1 := h.own
  have o2 := h.mbn
  have o3 := h.n0n
  refine ⟨h.row.same (e _ (by omega) (h6 _ o1)), h.kp.same hn (h.kb.mono fun c hc => e c (by omega) (h6 c hc.1)), h.kb.mono fun c hc => ⟨hc.1, by rw [upT_old (by omega)]; exact hc.2.1, hc.2.2⟩, ?_, o1, o2, h.ne, by rw [upT_old (by omega)]; exact h.tow, by omega, fun c hc => upT_z hn hc⟩
  obtain ⟨es, h1, h2⟩ := MR.iff.1 h.map
  exact MR.iff.2 ⟨es, (e _ (by omega) (h6 _ o2)).trans h1, h2.same hn fun c hc ht => ⟨e c hc (by omega), upT_old hc⟩⟩
theorem FM.fm {τ τ' : Nat → Nat} {H H' : AHeap} {v : AVal} {fs : List (Nat × Nat)} {mb ow : Nat} (h : FM τ H v fs) (f : Fm mb ow τ H τ' H') (hm : τ mb ≠ 6) (ho : τ ow ≠ 6) : FM τ' H' v fs := by
  have hb : Blk v fun c => c < H.next ∧ τ c = 6 := (LinM.blk h.1).and h.2
  exact ⟨LinM.same h.1 f.1 (hb.mono fun c hc => (f.2 c hc.1).2 (by rintro rfl; exact hm hc.2) (by rintro rfl; exact ho hc.2) (by omega)), hb.mono fun c hc => by rw [(f.2 c hc.1).1]; exact hc.2⟩
theorem FM.stp {τ : Nat → Nat} {H H' : AHeap} {v w : AVal} {fs gs : List (Nat × Nat)} (h : FM τ H v fs) (k : FL H' w gs) (s : Stp v H w H') : FM (upT τ H H' 6) H' w gs ∧ ∀ c, c < H.next → τ c ≠ 6 → H'.get c = H.get c := by
  have hb : Blk v fun c => c < H.next ∧ τ c = 6 := (LinM.blk h.1).and h.2
  refine ⟨⟨k, ((s.2.1 _ hb).and (LinM.blk k)).mono fun c hc => ?_⟩, fun c hc h6 => s.2.2 c hc (hb.mono fun d hd => by rintro rfl; exact h6 hd.2)⟩
  rcases hc.1 with h1 | h1
  · rw [upT_old h1.1]; exact h1.2
  · exact upT_new h1 hc.2
end Go.Proofs.Zt
namespace Go.Proofs.Zt
open Go.Abs Go.Abs.S
set_option linter.unusedSimpArgs false
theorem block_step {n0 : Nat} {τ : Nat → Nat} {H : AHeap} {ow mb : Nat} {out kept v : AVal} {b : Bs} {K i : Nat} {fs : List (Nat × Nat)} (P : PW n0 τ H ow mb out kept b K) (F : FM τ H v fs) (h6 : ∀ c, c < n0 → τ c ≠ 6) (hKi : K ≤ i) (hi : i < b.length) (hb : b.length ≤ 600) :
    ACalls Try.prog natZ 45 [cellR ow 9 0, .int .i64 (i : Int), .int .i64 (b.length : Int)] H fun w H' => w = .tuple [.int .i64 (((matchG b i b.length).1 : Nat) : Int), .int .i64 (((matchG b i b.length).2 : Nat) : Int)] ∧ ∃ τ' K', K' ≤ i ∧ PW n0 τ' H' ow mb out kept b K' ∧ FM τ' H' v fs ∧ (∀ c, c < n0 → τ' c ≠ 6) ∧ Fm mb ow τ H τ' H' := by
  refine (match_spec P i b.length hKi hi (Nat.le_refl _) hb).mono ?_
  rintro w H' ⟨rfl, τ', K', h1, P', f⟩
  have o3 := P.n0n
  exact ⟨rfl, τ', K', h1, P', F.fm f (h6 _ P.mbn) (h6 _ P.own), fun c hc => by rw [(f.2 c (by omega)).1]; exact h6 c hc, f⟩
theorem matchG_ok {b : Bs} {i : Nat} (hi : i < b.length) (hb : b.length ≤ 600) (h : 3 ≤ (matchG b i b.length).1) : (matchG b i b.length).1 ≤ 258 ∧ 1 ≤ (matchG b i b.length).2 ∧ (matchG b i b.length).2 ≤ 600 ∧ i + (matchG b i b.length).1 ≤ b.length := by
  rcases matchG_both hi (Nat.le_refl _) with ⟨_, h2⟩ | ⟨h1, h2⟩
  · rw [h2] at h; simp at h
  · obtain ⟨m1, m2, m3⟩ := match_ok b i b.length h1
    rw [h2]
    simp only
    omega
end Go.Proofs.Zt
