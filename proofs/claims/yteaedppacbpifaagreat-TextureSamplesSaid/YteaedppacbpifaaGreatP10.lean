/- Part of a proof (X6 X7 X8 S13); no condition. -/
import Derived.Test.YteaedppacbpifaaGreatP6
import Derived.Test.YteaedppacbpifaaGreatP7
import Derived.Test.YteaedppacbpifaaGreatP9
set_option linter.unusedSimpArgs false
set_option linter.unusedVariables false
set_option linter.unnecessarySimpa false
/- Texture: the colour at a place, the program's own: the contract. -/
namespace Go.Proofs.Tx
open Go.Abs Go.Abs.S
set_option linter.unusedSimpArgs false
variable {N : ANat}
set_option maxHeartbeats 1000000 in
theorem sample_spec (hN : NTx N) {H : AHeap} {w h : Int} {s : AVal} {pix : List UInt8} (hs : Cel H.next H s (byts pix)) (h1 : s.one = true) {u v : Int} (u1 : -9223372036854775808 ≤ u) (u2 : u ≤ 9223372036854775807) (v1 : -9223372036854775808 ≤ v) (v2 : v ≤ 9223372036854775807) :
    ACalls Tryz.prog N 4 [texV w h s, .int .i64 u, .int .i64 v] H fun x H' => x = .agg (nats (colF w h pix u v)) ∧ Ext H.next H H' := by
  refine acalls_ofN hN.n4 za4 rfl ?_
  obtain ⟨H1, m1, r1, k1, o1⟩ := row_newL H [.int .i64 w, .int .i64 h, s] (n := 3) rfl
  have E1 : Ext H.next H H1 := Ext.of_new k1 o1 (Nat.le_refl _)
  obtain ⟨H2, m2, r2, k2, o2⟩ := row_newL H1 [.int .i64 0, .int .i64 0, .int .i64 0] (n := 3) rfl
  have E2 : Ext H1.next H1 H2 := Ext.of_new k2 o2 (Nat.le_refl _)
  have R1 : Row H2 H.next [.int .i64 w, .int .i64 h, s] := r1.same (o2 _ (by omega))
  have L1 := row_loadN R1 (n := 3) rfl
  have hlen : aLenK false s = some (.int .i64 (pix.length : Int)) := by have := hs.len; rwa [byts_len] at this
  simp only [c4, pf_min, undef_bool, str_len, str_eql, str_neq, conv_in, un_not, eq_self, decide_true, decide_false, Bool.not_true, Bool.not_false, argE_0, argE_1, argE_2, argE_3, argE_4, aw_skip, aw_reg, aw_seq, aw_cond, aw_block, aw_exit, aw_ret, inSeq_normal, inSeq_exit, inSeq_ret, inBlk_exit, inBlk_normal, inBlk_ret, OptK_some, OptH_some, OptS_some, kont_app, ar_nil, ar_guard, ar_mv, ar_pick, ar_new, ar_box, ar_build, ar_buildSl, ar_load, ar_store, ar_nilChk, ar_bin, ar_un, ar_conv, ar_convSB, ar_convBS, ar_mkFunc, ar_mkIface, ar_mkSlice, ar_sl, ar_slStr, ar_fieldA, ar_field, ar_idxA, ar_idxArr, ar_idx, ar_idxS, ar_extract, ar_append, ar_len, ar_call, ar_callv, callvP_func, List.nil_append, List.cons_append, List.append_nil, ar_pf, ar_hf, ar_slA, upO_some, upO_none, sX_t, sX_c, sX_f, sXs, sXO, sXP, fin_t, fin_t2, fin_t3, up_same, up_ne, ne_eq, not_false_eq_true, AVal.bool.injEq, decide_eq_true_eq, decide_eq_false_iff_not, Int.ofNat_eq_natCast, Int.reduceNegSucc, Int.cast_ofNat_Int, reduceCtorEq, bin_lss, bin_leq, bin_gtr, bin_geq, bin_eql, bin_neq, bin_add, bin_sub, bin_mul, Bool.not_eq_true', Bool.not_eq_false', Bool.true_eq_false, Bool.false_eq_true, Nat.reduceEqDiff, ↓reduceIte, if_true, if_false, Nat.reduceAdd, Int.reduceEq, Int.reduceLT, Int.reduceLE, cells_agg, m1, m2, L1]
  refine (right_spec hN.n7 w h hlen).mono ?_
  rintro x H3 ⟨rfl, E3⟩
  have k3 := E3.next
  have R2 : Row H3 H1.next [.int .i64 0, .int .i64 0, .int .i64 0] := r2.same (E3.old _ (by omega))
  cases hr : rightB w h pix.length with
  | false =>
    have b0 : aBuild [.int .i64 0, .int .i64 0, .int .i64 0] [] = some (.agg [.int .i64 0, .int .i64 0, .int .i64 0]) := rfl
    obtain ⟨H4, m4, r4, k4, o4⟩ := row_storeN R2 (n := 3) rfl (xs := [.int .i64 0, .int .i64 0, .int .i64 0]) rfl rfl
    simp only [pf_min, undef_bool, str_len, str_eql, str_neq, conv_in, un_not, eq_self, decide_true, decide_false, Bool.not_true, Bool.not_false, argE_0, argE_1, argE_2, argE_3, argE_4, aw_skip, aw_reg, aw_seq, aw_cond, aw_block, aw_exit, aw_ret, inSeq_normal, inSeq_exit, inSeq_ret, inBlk_exit, inBlk_normal, inBlk_ret, OptK_some, OptH_some, OptS_some, kont_app, ar_nil, ar_guard, ar_mv, ar_pick, ar_new, ar_box, ar_build, ar_buildSl, ar_load, ar_store, ar_nilChk, ar_bin, ar_un, ar_conv, ar_convSB, ar_convBS, ar_mkFunc, ar_mkIface, ar_mkSlice, ar_sl, ar_slStr, ar_fieldA, ar_field, ar_idxA, ar_idxArr, ar_idx, ar_idxS, ar_extract, ar_append, ar_len, ar_call, ar_callv, callvP_func, List.nil_append, List.cons_append, List.append_nil, ar_pf, ar_hf, ar_slA, upO_some, upO_none, sX_t, sX_c, sX_f, sXs, sXO, sXP, fin_t, fin_t2, fin_t3, up_same, up_ne, ne_eq, not_false_eq_true, AVal.bool.injEq, decide_eq_true_eq, decide_eq_false_iff_not, Int.ofNat_eq_natCast, Int.reduceNegSucc, Int.cast_ofNat_Int, reduceCtorEq, bin_lss, bin_leq, bin_gtr, bin_geq, bin_eql, bin_neq, bin_add, bin_sub, bin_mul, Bool.not_eq_true', Bool.not_eq_false', Bool.true_eq_false, Bool.false_eq_true, Nat.reduceEqDiff, ↓reduceIte, if_true, if_false, Nat.reduceAdd, Int.reduceEq, Int.reduceLT, Int.reduceLE, b0, m4]
    refine fin_c1 _ _ _ _ (row_loadN r4 (n := 3) rfl) ⟨by simp [colF, hr, nats], ?_⟩
    exact ⟨by omega, fun c hc => by rw [o4 _ (by omega), E3.old _ (by omega), o2 _ (by omega), o1 _ (by omega)]⟩
  | true =>
    obtain ⟨W, Hh, rfl, rfl, w1, w2, g1, g2, hn⟩ := right_nat hr
    have hat := at_lt (u := u) (v := v) w1 g1
    rw [← hn] at hat
    have R1' : Row H3 H.next [.int .i64 (W : Int), .int .i64 (Hh : Int), s] := R1.same (E3.old _ (by omega))
    simp only [pf_min, undef_bool, str_len, str_eql, str_neq, conv_in, un_not, eq_self, decide_true, decide_false, Bool.not_true, Bool.not_false, argE_0, argE_1, argE_2, argE_3, argE_4, aw_skip, aw_reg, aw_seq, aw_cond, aw_block, aw_exit, aw_ret, inSeq_normal, inSeq_exit, inSeq_ret, inBlk_exit, inBlk_normal, inBlk_ret, OptK_some, OptH_some, OptS_some, kont_app, ar_nil, ar_guard, ar_mv, ar_pick, ar_new, ar_box, ar_build, ar_buildSl, ar_load, ar_store, ar_nilChk, ar_bin, ar_un, ar_conv, ar_convSB, ar_convBS, ar_mkFunc, ar_mkIface, ar_mkSlice, ar_sl, ar_slStr, ar_fieldA, ar_field, ar_idxA, ar_idxArr, ar_idx, ar_idxS, ar_extract, ar_append, ar_len, ar_call, ar_callv, callvP_func, List.nil_append, List.cons_append, List.append_nil, ar_pf, ar_hf, ar_slA, upO_some, upO_none, sX_t, sX_c, sX_f, sXs, sXO, sXP, fin_t, fin_t2, fin_t3, up_same, up_ne, ne_eq, not_false_eq_true, AVal.bool.injEq, decide_eq_true_eq, decide_eq_false_iff_not, Int.ofNat_eq_natCast, Int.reduceNegSucc, Int.cast_ofNat_Int, reduceCtorEq, bin_lss, bin_leq, bin_gtr, bin_geq, bin_eql, bin_neq, bin_add, bin_sub, bin_mul, Bool.not_eq_true', Bool.not_eq_false', Bool.true_eq_false, Bool.false_eq_true, Nat.reduceEqDiff, ↓reduceIte, if_true, if_false, Nat.reduceAdd, Int.reduceEq, Int.reduceLT, Int.reduceLE]
    rw [aw_draw]
    simp only [claims, reserves, newOf]
    obtain ⟨K, hK⟩ : ∃ K, K = H3.push (.cells [.int .i64 0] 0 false) := ⟨_, rfl⟩
    have kK : K.next = H3.next + 1 := by rw [hK]; rfl
    have oK : ∀ c, c < H3.next → K.get c = H3.get c := fun c hc => by rw [hK]; exact get_push_lt hc
    have cl := claim_push H3 (.int .i64 0) (aeq_int _ _)
    have rK : Row K H3.next [.int .i64 0] := by rw [hK]; exact row_push _ _
    try simp only [Int.ofNat_eq_natCast, Int.cast_ofNat_Int]
    rw [← hK] at cl
    rw [← hK]
    have RK : Row K H.next [.int .i64 (W : Int), .int .i64 (Hh : Int), s] := R1'.same (oK _ (by omega))
    have l0 := row_load RK (n := 3) rfl (i := 0) rfl
    have l1 := row_load RK (n := 3) rfl (i := 1) rfl
    have p1 := plF_lt v g1
    have p2 := plF_lt u w1
    have mb : plF v Hh * W ≤ 1024 * 1024 := Nat.mul_le_mul (by omega) w2
    have e1 : IntKind.i64.wrap ((plF v Hh : Int) * (W : Int)) = ((plF v Hh * W : Nat) : Int) := by
      rw [show (plF v Hh : Int) * (W : Int) = ((plF v Hh * W : Nat) : Int) by simp]
      exact wrap64 (by omega) (by omega)
    have e2 : IntKind.i64.wrap (((plF v Hh * W : Nat) : Int) + (plF u W : Int)) = ((plF v Hh * W + plF u W : Nat) : Int) := wrapN _ _ (by omega)
    have e3 : IntKind.i64.wrap (4 * ((plF v Hh * W + plF u W : Nat) : Int)) = ((atF W Hh u v : Nat) : Int) := by
      unfold atF
      rw [wrap64 (by omega) (by omega)]
      omega
    obtain ⟨K2, m5, r5, k5, o5⟩ := row_store rK (n := 1) rfl (i := 0) (by omega) (x := .int .i64 ((atF W Hh u v : Nat) : Int)) rfl
    simp only [pf_min, undef_bool, str_len, str_eql, str_neq, conv_in, un_not, eq_self, decide_true, decide_false, Bool.not_true, Bool.not_false, argE_0, argE_1, argE_2, argE_3, argE_4, aw_skip, aw_reg, aw_seq, aw_cond, aw_block, aw_exit, aw_ret, inSeq_normal, inSeq_exit, inSeq_ret, inBlk_exit, inBlk_normal, inBlk_ret, OptK_some, OptH_some, OptS_some, kont_app, ar_nil, ar_guard, ar_mv, ar_pick, ar_new, ar_box, ar_build, ar_buildSl, ar_load, ar_store, ar_nilChk, ar_bin, ar_un, ar_conv, ar_convSB, ar_convBS, ar_mkFunc, ar_mkIface, ar_mkSlice, ar_sl, ar_slStr, ar_fieldA, ar_field, ar_idxA, ar_idxArr, ar_idx, ar_idxS, ar_extract, ar_append, ar_len, ar_call, ar_callv, callvP_func, List.nil_append, List.cons_append, List.append_nil, ar_pf, ar_hf, ar_slA, upO_some, upO_none, sX_t, sX_c, sX_f, sXs, sXO, sXP, fin_t, fin_t2, fin_t3, up_same, up_ne, ne_eq, not_false_eq_true, AVal.bool.injEq, decide_eq_true_eq, decide_eq_false_iff_not, Int.ofNat_eq_natCast, Int.reduceNegSucc, Int.cast_ofNat_Int, reduceCtorEq, bin_lss, bin_leq, bin_gtr, bin_geq, bin_eql, bin_neq, bin_add, bin_sub, bin_mul, Bool.not_eq_true', Bool.not_eq_false', Bool.true_eq_false, Bool.false_eq_true, Nat.reduceEqDiff, ↓reduceIte, if_true, if_false, Nat.reduceAdd, Int.reduceEq, Int.reduceLT, Int.reduceLE, consK_app, OptKT_some, OptHT_some, OptST_some, kontT_app, tr_nil, tr_guard, tr_pick, tr_mv, tr_new, tr_box, tr_build, tr_buildSl, tr_load, tr_store, tr_nilChk, tr_bin, tr_un, tr_conv, tr_convSB, tr_convBS, tr_mkFunc, tr_mkIface, tr_mkSlice, tr_sl, tr_slStr, tr_fieldA, tr_field, tr_idxA, tr_idxArr, tr_idx, tr_idxS, tr_extract, tr_append, tr_len, tr_call, tr_callv, tr_pf, tr_hf, tr_slA, fld0, l0, l1]
    refine (place_spec hN.n8 hN.n21 hN.n11 hN.n20 hN.n22 hN.n23 hN.n24 hN.n40 hN.n41 v1 v2 g2).mono ?_
    rintro x _ ⟨rfl, rfl⟩
    simp only [pf_min, undef_bool, str_len, str_eql, str_neq, conv_in, un_not, eq_self, decide_true, decide_false, Bool.not_true, Bool.not_false, argE_0, argE_1, argE_2, argE_3, argE_4, aw_skip, aw_reg, aw_seq, aw_cond, aw_block, aw_exit, aw_ret, inSeq_normal, inSeq_exit, inSeq_ret, inBlk_exit, inBlk_normal, inBlk_ret, OptK_some, OptH_some, OptS_some, kont_app, ar_nil, ar_guard, ar_mv, ar_pick, ar_new, ar_box, ar_build, ar_buildSl, ar_load, ar_store, ar_nilChk, ar_bin, ar_un, ar_conv, ar_convSB, ar_convBS, ar_mkFunc, ar_mkIface, ar_mkSlice, ar_sl, ar_slStr, ar_fieldA, ar_field, ar_idxA, ar_idxArr, ar_idx, ar_idxS, ar_extract, ar_append, ar_len, ar_call, ar_callv, callvP_func, List.nil_append, List.cons_append, List.append_nil, ar_pf, ar_hf, ar_slA, upO_some, upO_none, sX_t, sX_c, sX_f, sXs, sXO, sXP, fin_t, fin_t2, fin_t3, up_same, up_ne, ne_eq, not_false_eq_true, AVal.bool.injEq, decide_eq_true_eq, decide_eq_false_iff_not, Int.ofNat_eq_natCast, Int.reduceNegSucc, Int.cast_ofNat_Int, reduceCtorEq, bin_lss, bin_leq, bin_gtr, bin_geq, bin_eql, bin_neq, bin_add, bin_sub, bin_mul, Bool.not_eq_true', Bool.not_eq_false', Bool.true_eq_false, Bool.false_eq_true, Nat.reduceEqDiff, ↓reduceIte, if_true, if_false, Nat.reduceAdd, Int.reduceEq, Int.reduceLT, Int.reduceLE, consK_app, OptKT_some, OptHT_some, OptST_some, kontT_app, tr_nil, tr_guard, tr_pick, tr_mv, tr_new, tr_box, tr_build, tr_buildSl, tr_load, tr_store, tr_nilChk, tr_bin, tr_un, tr_conv, tr_convSB, tr_convBS, tr_mkFunc, tr_mkIface, tr_mkSlice, tr_sl, tr_slStr, tr_fieldA, tr_field, tr_idxA, tr_idxArr, tr_idx, tr_idxS, tr_extract, tr_append, tr_len, tr_call, tr_callv, tr_pf, tr_hf, tr_slA, fld0, l0, l1, e1]
    refine (place_spec hN.n8 hN.n21 hN.n11 hN.n20 hN.n22 hN.n23 hN.n24 hN.n40 hN.n41 u1 u2 w2).mono ?_
    rintro x _ ⟨rfl, rfl⟩
    simp only [pf_min, undef_bool, str_len, str_eql, str_neq, conv_in, un_not, eq_self, decide_true, decide_false, Bool.not_true, Bool.not_false, argE_0, argE_1, argE_2, argE_3, argE_4, aw_skip, aw_reg, aw_seq, aw_cond, aw_block, aw_exit, aw_ret, inSeq_normal, inSeq_exit, inSeq_ret, inBlk_exit, inBlk_normal, inBlk_ret, OptK_some, OptH_some, OptS_some, kont_app, ar_nil, ar_guard, ar_mv, ar_pick, ar_new, ar_box, ar_build, ar_buildSl, ar_load, ar_store, ar_nilChk, ar_bin, ar_un, ar_conv, ar_convSB, ar_convBS, ar_mkFunc, ar_mkIface, ar_mkSlice, ar_sl, ar_slStr, ar_fieldA, ar_field, ar_idxA, ar_idxArr, ar_idx, ar_idxS, ar_extract, ar_append, ar_len, ar_call, ar_callv, callvP_func, List.nil_append, List.cons_append, List.append_nil, ar_pf, ar_hf, ar_slA, upO_some, upO_none, sX_t, sX_c, sX_f, sXs, sXO, sXP, fin_t, fin_t2, fin_t3, up_same, up_ne, ne_eq, not_false_eq_true, AVal.bool.injEq, decide_eq_true_eq, decide_eq_false_iff_not, Int.ofNat_eq_natCast, Int.reduceNegSucc, Int.cast_ofNat_Int, reduceCtorEq, bin_lss, bin_leq, bin_gtr, bin_geq, bin_eql, bin_neq, bin_add, bin_sub, bin_mul, Bool.not_eq_true', Bool.not_eq_false', Bool.true_eq_false, Bool.false_eq_true, Nat.reduceEqDiff, ↓reduceIte, if_true, if_false, Nat.reduceAdd, Int.reduceEq, Int.reduceLT, Int.reduceLE, consK_app, OptKT_some, OptHT_some, OptST_some, kontT_app, tr_nil, tr_guard, tr_pick, tr_mv, tr_new, tr_box, tr_build, tr_buildSl, tr_load, tr_store, tr_nilChk, tr_bin, tr_un, tr_conv, tr_convSB, tr_convBS, tr_mkFunc, tr_mkIface, tr_mkSlice, tr_sl, tr_slStr, tr_fieldA, tr_field, tr_idxA, tr_idxArr, tr_idx, tr_idxS, tr_extract, tr_append, tr_len, tr_call, tr_callv, tr_pf, tr_hf, tr_slA, e2, e3, tr_claim, cl, m5]
    refine ⟨?_, ?_⟩
    · simp only [ck_nil', ck_cons, ckP_load, ckP_claim, ckP_nil, ck_end, and_true, true_and, List.map_cons, List.map_nil, pf_min, undef_bool, str_len, str_eql, str_neq, conv_in, un_not, eq_self, decide_true, decide_false, Bool.not_true, Bool.not_false, argE_0, argE_1, argE_2, argE_3, argE_4, aw_skip, aw_reg, aw_seq, aw_cond, aw_block, aw_exit, aw_ret, inSeq_normal, inSeq_exit, inSeq_ret, inBlk_exit, inBlk_normal, inBlk_ret, OptK_some, OptH_some, OptS_some, kont_app, ar_nil, ar_guard, ar_mv, ar_pick, ar_new, ar_box, ar_build, ar_buildSl, ar_load, ar_store, ar_nilChk, ar_bin, ar_un, ar_conv, ar_convSB, ar_convBS, ar_mkFunc, ar_mkIface, ar_mkSlice, ar_sl, ar_slStr, ar_fieldA, ar_field, ar_idxA, ar_idxArr, ar_idx, ar_idxS, ar_extract, ar_append, ar_len, ar_call, ar_callv, callvP_func, List.nil_append, List.cons_append, List.append_nil, ar_pf, ar_hf, ar_slA, upO_some, upO_none, sX_t, sX_c, sX_f, sXs, sXO, sXP, fin_t, fin_t2, fin_t3, up_same, up_ne, ne_eq, not_false_eq_true, AVal.bool.injEq, decide_eq_true_eq, decide_eq_false_iff_not, Int.ofNat_eq_natCast, Int.reduceNegSucc, Int.cast_ofNat_Int, reduceCtorEq, bin_lss, bin_leq, bin_gtr, bin_geq, bin_eql, bin_neq, bin_add, bin_sub, bin_mul, Bool.not_eq_true', Bool.not_eq_false', Bool.true_eq_false, Bool.false_eq_true, Nat.reduceEqDiff, ↓reduceIte, if_true, if_false, Nat.reduceAdd, Int.reduceEq, Int.reduceLT, Int.reduceLE, fld0]
      refine ⟨⟨⟨_, rfl, fun _ => ⟨_, l0, aeq_int _ _⟩⟩, ⟨_, rfl, fun _ => ⟨_, l0, aeq_int _ _⟩⟩⟩, ⟨_, rfl, fun _ => ⟨_, l0, aeq_int _ _⟩⟩, ⟨_, rfl, fun _ => ⟨_, cl, aeq_ptr _⟩⟩, ⟨_, rfl, fun _ => ⟨_, cl, aeq_ptr _⟩⟩⟩
    · simp only [List.set_cons_zero] at r5
      have RT : Row K2 H.next [.int .i64 (W : Int), .int .i64 (Hh : Int), s] := RK.same (o5 _ (by omega))
      have E13 : Ext H.next H K2 := ⟨by omega, fun c hc => by rw [o5 _ (by omega), oK _ (by omega), E3.old _ (by omega), o2 _ (by omega), o1 _ (by omega)]⟩
      have hs2 : Cel H.next K2 s (byts pix) := hs.ext E13
      have R3 : Row K2 H1.next [.int .i64 0, .int .i64 0, .int .i64 0] := R2.same (by rw [o5 _ (by omega), oK _ (by omega)])
      have hb : ∀ i, i < 3 → pix[atF W Hh u v + i]? = some (pix.getD (atF W Hh u v + i) 0) := fun i hi => by
        rw [List.getD_eq_getElem?_getD, List.getElem?_eq_getElem (by omega)]; rfl
      have hwid : pix.length ≤ 4194304 := by
        have : W * Hh ≤ 1024 * 1024 := Nat.mul_le_mul w2 g2
        rw [hn, Nat.mul_assoc]; omega
      try simp only [pf_min, undef_bool, str_len, str_eql, str_neq, conv_in, un_not, eq_self, decide_true, decide_false, Bool.not_true, Bool.not_false, argE_0, argE_1, argE_2, argE_3, argE_4, aw_skip, aw_reg, aw_seq, aw_cond, aw_block, aw_exit, aw_ret, inSeq_normal, inSeq_exit, inSeq_ret, inBlk_exit, inBlk_normal, inBlk_ret, OptK_some, OptH_some, OptS_some, kont_app, ar_nil, ar_guard, ar_mv, ar_pick, ar_new, ar_box, ar_build, ar_buildSl, ar_load, ar_store, ar_nilChk, ar_bin, ar_un, ar_conv, ar_convSB, ar_convBS, ar_mkFunc, ar_mkIface, ar_mkSlice, ar_sl, ar_slStr, ar_fieldA, ar_field, ar_idxA, ar_idxArr, ar_idx, ar_idxS, ar_extract, ar_append, ar_len, ar_call, ar_callv, callvP_func, List.nil_append, List.cons_append, List.append_nil, ar_pf, ar_hf, ar_slA, upO_some, upO_none, sX_t, sX_c, sX_f, sXs, sXO, sXP, fin_t, fin_t2, fin_t3, up_same, up_ne, ne_eq, not_false_eq_true, AVal.bool.injEq, decide_eq_true_eq, decide_eq_false_iff_not, Int.ofNat_eq_natCast, Int.reduceNegSucc, Int.cast_ofNat_Int, reduceCtorEq, bin_lss, bin_leq, bin_gtr, bin_geq, bin_eql, bin_neq, bin_add, bin_sub, bin_mul, Bool.not_eq_true', Bool.not_eq_false', Bool.true_eq_false, Bool.false_eq_true, Nat.reduceEqDiff, ↓reduceIte, if_true, if_false, Nat.reduceAdd, Int.reduceEq, Int.reduceLT, Int.reduceLE]
      refine (part_spec hN (i := 0) RT r5 hs2 (hb 0 (by decide)) (by omega)).mono ?_
      rintro x _ ⟨rfl, rfl⟩
      simp only [pf_min, undef_bool, str_len, str_eql, str_neq, conv_in, un_not, eq_self, decide_true, decide_false, Bool.not_true, Bool.not_false, argE_0, argE_1, argE_2, argE_3, argE_4, aw_skip, aw_reg, aw_seq, aw_cond, aw_block, aw_exit, aw_ret, inSeq_normal, inSeq_exit, inSeq_ret, inBlk_exit, inBlk_normal, inBlk_ret, OptK_some, OptH_some, OptS_some, kont_app, ar_nil, ar_guard, ar_mv, ar_pick, ar_new, ar_box, ar_build, ar_buildSl, ar_load, ar_store, ar_nilChk, ar_bin, ar_un, ar_conv, ar_convSB, ar_convBS, ar_mkFunc, ar_mkIface, ar_mkSlice, ar_sl, ar_slStr, ar_fieldA, ar_field, ar_idxA, ar_idxArr, ar_idx, ar_idxS, ar_extract, ar_append, ar_len, ar_call, ar_callv, callvP_func, List.nil_append, List.cons_append, List.append_nil, ar_pf, ar_hf, ar_slA, upO_some, upO_none, sX_t, sX_c, sX_f, sXs, sXO, sXP, fin_t, fin_t2, fin_t3, up_same, up_ne, ne_eq, not_false_eq_true, AVal.bool.injEq, decide_eq_true_eq, decide_eq_false_iff_not, Int.ofNat_eq_natCast, Int.reduceNegSucc, Int.cast_ofNat_Int, reduceCtorEq, bin_lss, bin_leq, bin_gtr, bin_geq, bin_eql, bin_neq, bin_add, bin_sub, bin_mul, Bool.not_eq_true', Bool.not_eq_false', Bool.true_eq_false, Bool.false_eq_true, Nat.reduceEqDiff, ↓reduceIte, if_true, if_false, Nat.reduceAdd, Int.reduceEq, Int.reduceLT, Int.reduceLE]
      refine (part_spec hN (i := 1) RT r5 hs2 (hb 1 (by decide)) (by omega)).mono ?_
      rintro x _ ⟨rfl, rfl⟩
      simp only [pf_min, undef_bool, str_len, str_eql, str_neq, conv_in, un_not, eq_self, decide_true, decide_false, Bool.not_true, Bool.not_false, argE_0, argE_1, argE_2, argE_3, argE_4, aw_skip, aw_reg, aw_seq, aw_cond, aw_block, aw_exit, aw_ret, inSeq_normal, inSeq_exit, inSeq_ret, inBlk_exit, inBlk_normal, inBlk_ret, OptK_some, OptH_some, OptS_some, kont_app, ar_nil, ar_guard, ar_mv, ar_pick, ar_new, ar_box, ar_build, ar_buildSl, ar_load, ar_store, ar_nilChk, ar_bin, ar_un, ar_conv, ar_convSB, ar_convBS, ar_mkFunc, ar_mkIface, ar_mkSlice, ar_sl, ar_slStr, ar_fieldA, ar_field, ar_idxA, ar_idxArr, ar_idx, ar_idxS, ar_extract, ar_append, ar_len, ar_call, ar_callv, callvP_func, List.nil_append, List.cons_append, List.append_nil, ar_pf, ar_hf, ar_slA, upO_some, upO_none, sX_t, sX_c, sX_f, sXs, sXO, sXP, fin_t, fin_t2, fin_t3, up_same, up_ne, ne_eq, not_false_eq_true, AVal.bool.injEq, decide_eq_true_eq, decide_eq_false_iff_not, Int.ofNat_eq_natCast, Int.reduceNegSucc, Int.cast_ofNat_Int, reduceCtorEq, bin_lss, bin_leq, bin_gtr, bin_geq, bin_eql, bin_neq, bin_add, bin_sub, bin_mul, Bool.not_eq_true', Bool.not_eq_false', Bool.true_eq_false, Bool.false_eq_true, Nat.reduceEqDiff, ↓reduceIte, if_true, if_false, Nat.reduceAdd, Int.reduceEq, Int.reduceLT, Int.reduceLE]
      refine (part_spec hN (i := 2) RT r5 hs2 (hb 2 (by decide)) (by omega)).mono ?_
      rintro x _ ⟨rfl, rfl⟩
      have b3 : ∀ a b c : Int, aBuild [.int .i64 0, .int .i64 0, .int .i64 0] [(0, 1, .int .i64 a), (1, 1, .int .i64 b), (2, 1, .int .i64 c)] = some (.agg [.int .i64 a, .int .i64 b, .int .i64 c]) := fun _ _ _ => rfl
      obtain ⟨H4, m6, r6, k6, o6⟩ := row_storeN R3 (n := 3) rfl (xs := nats [partF (pix.getD (atF W Hh u v + 0) 0).toNat, partF (pix.getD (atF W Hh u v + 1) 0).toNat, partF (pix.getD (atF W Hh u v + 2) 0).toNat]) rfl rfl
      try simp only [nats, List.map_cons, List.map_nil] at m6
      simp only [pf_min, undef_bool, str_len, str_eql, str_neq, conv_in, un_not, eq_self, decide_true, decide_false, Bool.not_true, Bool.not_false, argE_0, argE_1, argE_2, argE_3, argE_4, aw_skip, aw_reg, aw_seq, aw_cond, aw_block, aw_exit, aw_ret, inSeq_normal, inSeq_exit, inSeq_ret, inBlk_exit, inBlk_normal, inBlk_ret, OptK_some, OptH_some, OptS_some, kont_app, ar_nil, ar_guard, ar_mv, ar_pick, ar_new, ar_box, ar_build, ar_buildSl, ar_load, ar_store, ar_nilChk, ar_bin, ar_un, ar_conv, ar_convSB, ar_convBS, ar_mkFunc, ar_mkIface, ar_mkSlice, ar_sl, ar_slStr, ar_fieldA, ar_field, ar_idxA, ar_idxArr, ar_idx, ar_idxS, ar_extract, ar_append, ar_len, ar_call, ar_callv, callvP_func, List.nil_append, List.cons_append, List.append_nil, ar_pf, ar_hf, ar_slA, upO_some, upO_none, sX_t, sX_c, sX_f, sXs, sXO, sXP, fin_t, fin_t2, fin_t3, up_same, up_ne, ne_eq, not_false_eq_true, AVal.bool.injEq, decide_eq_true_eq, decide_eq_false_iff_not, Int.ofNat_eq_natCast, Int.reduceNegSucc, Int.cast_ofNat_Int, reduceCtorEq, bin_lss, bin_leq, bin_gtr, bin_geq, bin_eql, bin_neq, bin_add, bin_sub, bin_mul, Bool.not_eq_true', Bool.not_eq_false', Bool.true_eq_false, Bool.false_eq_true, Nat.reduceEqDiff, ↓reduceIte, if_true, if_false, Nat.reduceAdd, Int.reduceEq, Int.reduceLT, Int.reduceLE, b3, m6]
      have hld := row_loadN r6 (n := 3) rfl
      refine fin_c1 _ _ _ _ hld ?_
      refine ⟨?_, ?_⟩
      · simp only [colF, hr, if_true, Int.toNat_natCast, Nat.add_zero]
      · exact ⟨by omega, fun c hc => by rw [o6 _ (by omega)]; exact E13.old c hc⟩
end Go.Proofs.Tx
/- Texture: the colour at a place, the document's: the contract. -/
namespace Go.Proofs.Tx
open Go.Abs Go.Abs.S
set_option linter.unusedSimpArgs false
variable {N : ANat}
set_option maxHeartbeats 1000000 in
theorem rsample_spec (hN : NTx N) {H : AHeap} {w h : Int} {s : AVal} {pix : List UInt8} (hs : Cel H.next H s (byts pix)) (h1 : s.one = true) {u v : Int} (u1 : -9223372036854775808 ≤ u) (u2 : u ≤ 9223372036854775807) (v1 : -9223372036854775808 ≤ v) (v2 : v ≤ 9223372036854775807) :
    ACalls Tryz.prog N 5 [texV w h s, .int .i64 u, .int .i64 v] H fun x H' => x = .agg (nats (colF w h pix u v)) ∧ Ext H.next H H' := by
  refine acalls_ofN hN.n5 za5 rfl ?_
  obtain ⟨H1, m1, r1, k1, o1⟩ := row_newL H [.int .i64 w, .int .i64 h, s] (n := 3) rfl
  have E1 : Ext H.next H H1 := Ext.of_new k1 o1 (Nat.le_refl _)
  obtain ⟨H2, m2, r2, k2, o2⟩ := row_newL H1 [.int .i64 0, .int .i64 0, .int .i64 0] (n := 3) rfl
  have E2 : Ext H1.next H1 H2 := Ext.of_new k2 o2 (Nat.le_refl _)
  have R1 : Row H2 H.next [.int .i64 w, .int .i64 h, s] := r1.same (o2 _ (by omega))
  have L1 := row_loadN R1 (n := 3) rfl
  have hlen : aLenK false s = some (.int .i64 (pix.length : Int)) := by have := hs.len; rwa [byts_len] at this
  simp only [c5, pf_min, undef_bool, str_len, str_eql, str_neq, conv_in, un_not, eq_self, decide_true, decide_false, Bool.not_true, Bool.not_false, argE_0, argE_1, argE_2, argE_3, argE_4, aw_skip, aw_reg, aw_seq, aw_cond, aw_block, aw_exit, aw_ret, inSeq_normal, inSeq_exit, inSeq_ret, inBlk_exit, inBlk_normal, inBlk_ret, OptK_some, OptH_some, OptS_some, kont_app, ar_nil, ar_guard, ar_mv, ar_pick, ar_new, ar_box, ar_build, ar_buildSl, ar_load, ar_store, ar_nilChk, ar_bin, ar_un, ar_conv, ar_convSB, ar_convBS, ar_mkFunc, ar_mkIface, ar_mkSlice, ar_sl, ar_slStr, ar_fieldA, ar_field, ar_idxA, ar_idxArr, ar_idx, ar_idxS, ar_extract, ar_append, ar_len, ar_call, ar_callv, callvP_func, List.nil_append, List.cons_append, List.append_nil, ar_pf, ar_hf, ar_slA, upO_some, upO_none, sX_t, sX_c, sX_f, sXs, sXO, sXP, fin_t, fin_t2, fin_t3, up_same, up_ne, ne_eq, not_false_eq_true, AVal.bool.injEq, decide_eq_true_eq, decide_eq_false_iff_not, Int.ofNat_eq_natCast, Int.reduceNegSucc, Int.cast_ofNat_Int, reduceCtorEq, bin_lss, bin_leq, bin_gtr, bin_geq, bin_eql, bin_neq, bin_add, bin_sub, bin_mul, Bool.not_eq_true', Bool.not_eq_false', Bool.true_eq_false, Bool.false_eq_true, Nat.reduceEqDiff, ↓reduceIte, if_true, if_false, Nat.reduceAdd, Int.reduceEq, Int.reduceLT, Int.reduceLE, cells_agg, m1, m2, L1]
  refine (rright_spec hN.n12 w h hlen).mono ?_
  rintro x H3 ⟨rfl, E3⟩
  have k3 := E3.next
  have R2 : Row H3 H1.next [.int .i64 0, .int .i64 0, .int .i64 0] := r2.same (E3.old _ (by omega))
  cases hr : rightB w h pix.length with
  | false =>
    have b0 : aBuild [.int .i64 0, .int .i64 0, .int .i64 0] [] = some (.agg [.int .i64 0, .int .i64 0, .int .i64 0]) := rfl
    obtain ⟨H4, m4, r4, k4, o4⟩ := row_storeN R2 (n := 3) rfl (xs := [.int .i64 0, .int .i64 0, .int .i64 0]) rfl rfl
    simp only [pf_min, undef_bool, str_len, str_eql, str_neq, conv_in, un_not, eq_self, decide_true, decide_false, Bool.not_true, Bool.not_false, argE_0, argE_1, argE_2, argE_3, argE_4, aw_skip, aw_reg, aw_seq, aw_cond, aw_block, aw_exit, aw_ret, inSeq_normal, inSeq_exit, inSeq_ret, inBlk_exit, inBlk_normal, inBlk_ret, OptK_some, OptH_some, OptS_some, kont_app, ar_nil, ar_guard, ar_mv, ar_pick, ar_new, ar_box, ar_build, ar_buildSl, ar_load, ar_store, ar_nilChk, ar_bin, ar_un, ar_conv, ar_convSB, ar_convBS, ar_mkFunc, ar_mkIface, ar_mkSlice, ar_sl, ar_slStr, ar_fieldA, ar_field, ar_idxA, ar_idxArr, ar_idx, ar_idxS, ar_extract, ar_append, ar_len, ar_call, ar_callv, callvP_func, List.nil_append, List.cons_append, List.append_nil, ar_pf, ar_hf, ar_slA, upO_some, upO_none, sX_t, sX_c, sX_f, sXs, sXO, sXP, fin_t, fin_t2, fin_t3, up_same, up_ne, ne_eq, not_false_eq_true, AVal.bool.injEq, decide_eq_true_eq, decide_eq_false_iff_not, Int.ofNat_eq_natCast, Int.reduceNegSucc, Int.cast_ofNat_Int, reduceCtorEq, bin_lss, bin_leq, bin_gtr, bin_geq, bin_eql, bin_neq, bin_add, bin_sub, bin_mul, Bool.not_eq_true', Bool.not_eq_false', Bool.true_eq_false, Bool.false_eq_true, Nat.reduceEqDiff, ↓reduceIte, if_true, if_false, Nat.reduceAdd, Int.reduceEq, Int.reduceLT, Int.reduceLE, b0, m4]
    refine fin_c1 _ _ _ _ (row_loadN r4 (n := 3) rfl) ⟨by simp [colF, hr, nats], ?_⟩
    exact ⟨by omega, fun c hc => by rw [o4 _ (by omega), E3.old _ (by omega), o2 _ (by omega), o1 _ (by omega)]⟩
  | true =>
    obtain ⟨W, Hh, rfl, rfl, w1, w2, g1, g2, hn⟩ := right_nat hr
    have hat := at_lt (u := u) (v := v) w1 g1
    rw [← hn] at hat
    have RK : Row H3 H.next [.int .i64 (W : Int), .int .i64 (Hh : Int), s] := R1.same (E3.old _ (by omega))
    simp only [pf_min, undef_bool, str_len, str_eql, str_neq, conv_in, un_not, eq_self, decide_true, decide_false, Bool.not_true, Bool.not_false, argE_0, argE_1, argE_2, argE_3, argE_4, aw_skip, aw_reg, aw_seq, aw_cond, aw_block, aw_exit, aw_ret, inSeq_normal, inSeq_exit, inSeq_ret, inBlk_exit, inBlk_normal, inBlk_ret, OptK_some, OptH_some, OptS_some, kont_app, ar_nil, ar_guard, ar_mv, ar_pick, ar_new, ar_box, ar_build, ar_buildSl, ar_load, ar_store, ar_nilChk, ar_bin, ar_un, ar_conv, ar_convSB, ar_convBS, ar_mkFunc, ar_mkIface, ar_mkSlice, ar_sl, ar_slStr, ar_fieldA, ar_field, ar_idxA, ar_idxArr, ar_idx, ar_idxS, ar_extract, ar_append, ar_len, ar_call, ar_callv, callvP_func, List.nil_append, List.cons_append, List.append_nil, ar_pf, ar_hf, ar_slA, upO_some, upO_none, sX_t, sX_c, sX_f, sXs, sXO, sXP, fin_t, fin_t2, fin_t3, up_same, up_ne, ne_eq, not_false_eq_true, AVal.bool.injEq, decide_eq_true_eq, decide_eq_false_iff_not, Int.ofNat_eq_natCast, Int.reduceNegSucc, Int.cast_ofNat_Int, reduceCtorEq, bin_lss, bin_leq, bin_gtr, bin_geq, bin_eql, bin_neq, bin_add, bin_sub, bin_mul, Bool.not_eq_true', Bool.not_eq_false', Bool.true_eq_false, Bool.false_eq_true, Nat.reduceEqDiff, ↓reduceIte, if_true, if_false, Nat.reduceAdd, Int.reduceEq, Int.reduceLT, Int.reduceLE]
    refine aw_drawC rfl ?_
    have l0 := row_load RK (n := 3) rfl (i := 0) rfl
    have l1 := row_load RK (n := 3) rfl (i := 1) rfl
    have p1 := plF_lt v g1
    have p2 := plF_lt u w1
    have mb : plF v Hh * W ≤ 1024 * 1024 := Nat.mul_le_mul (by omega) w2
    have e1 : IntKind.i64.wrap ((plF v Hh : Int) * (W : Int)) = ((plF v Hh * W : Nat) : Int) := by
      rw [show (plF v Hh : Int) * (W : Int) = ((plF v Hh * W : Nat) : Int) by simp]
      exact wrap64 (by omega) (by omega)
    have e2 : IntKind.i64.wrap (((plF v Hh * W : Nat) : Int) + (plF u W : Int)) = ((plF v Hh * W + plF u W : Nat) : Int) := wrapN _ _ (by omega)
    have e3 : IntKind.i64.wrap (4 * ((plF v Hh * W + plF u W : Nat) : Int)) = ((atF W Hh u v : Nat) : Int) := by
      unfold atF
      rw [wrap64 (by omega) (by omega)]
      omega
    simp only [pf_min, undef_bool, str_len, str_eql, str_neq, conv_in, un_not, eq_self, decide_true, decide_false, Bool.not_true, Bool.not_false, argE_0, argE_1, argE_2, argE_3, argE_4, aw_skip, aw_reg, aw_seq, aw_cond, aw_block, aw_exit, aw_ret, inSeq_normal, inSeq_exit, inSeq_ret, inBlk_exit, inBlk_normal, inBlk_ret, OptK_some, OptH_some, OptS_some, kont_app, ar_nil, ar_guard, ar_mv, ar_pick, ar_new, ar_box, ar_build, ar_buildSl, ar_load, ar_store, ar_nilChk, ar_bin, ar_un, ar_conv, ar_convSB, ar_convBS, ar_mkFunc, ar_mkIface, ar_mkSlice, ar_sl, ar_slStr, ar_fieldA, ar_field, ar_idxA, ar_idxArr, ar_idx, ar_idxS, ar_extract, ar_append, ar_len, ar_call, ar_callv, callvP_func, List.nil_append, List.cons_append, List.append_nil, ar_pf, ar_hf, ar_slA, upO_some, upO_none, sX_t, sX_c, sX_f, sXs, sXO, sXP, fin_t, fin_t2, fin_t3, up_same, up_ne, ne_eq, not_false_eq_true, AVal.bool.injEq, decide_eq_true_eq, decide_eq_false_iff_not, Int.ofNat_eq_natCast, Int.reduceNegSucc, Int.cast_ofNat_Int, reduceCtorEq, bin_lss, bin_leq, bin_gtr, bin_geq, bin_eql, bin_neq, bin_add, bin_sub, bin_mul, Bool.not_eq_true', Bool.not_eq_false', Bool.true_eq_false, Bool.false_eq_true, Nat.reduceEqDiff, ↓reduceIte, if_true, if_false, Nat.reduceAdd, Int.reduceEq, Int.reduceLT, Int.reduceLE, consK_app, OptKT_some, OptHT_some, OptST_some, kontT_app, tr_nil, tr_guard, tr_pick, tr_mv, tr_new, tr_box, tr_build, tr_buildSl, tr_load, tr_store, tr_nilChk, tr_bin, tr_un, tr_conv, tr_convSB, tr_convBS, tr_mkFunc, tr_mkIface, tr_mkSlice, tr_sl, tr_slStr, tr_fieldA, tr_field, tr_idxA, tr_idxArr, tr_idx, tr_idxS, tr_extract, tr_append, tr_len, tr_call, tr_callv, tr_pf, tr_hf, tr_slA, fld0, l0, l1]
    refine (rplace_spec hN.n13 hN.n27 hN.n15 hN.n26 hN.n28 hN.n29 hN.n30 hN.n31 v1 v2 g2).mono ?_
    rintro x _ ⟨rfl, rfl⟩
    simp only [pf_min, undef_bool, str_len, str_eql, str_neq, conv_in, un_not, eq_self, decide_true, decide_false, Bool.not_true, Bool.not_false, argE_0, argE_1, argE_2, argE_3, argE_4, aw_skip, aw_reg, aw_seq, aw_cond, aw_block, aw_exit, aw_ret, inSeq_normal, inSeq_exit, inSeq_ret, inBlk_exit, inBlk_normal, inBlk_ret, OptK_some, OptH_some, OptS_some, kont_app, ar_nil, ar_guard, ar_mv, ar_pick, ar_new, ar_box, ar_build, ar_buildSl, ar_load, ar_store, ar_nilChk, ar_bin, ar_un, ar_conv, ar_convSB, ar_convBS, ar_mkFunc, ar_mkIface, ar_mkSlice, ar_sl, ar_slStr, ar_fieldA, ar_field, ar_idxA, ar_idxArr, ar_idx, ar_idxS, ar_extract, ar_append, ar_len, ar_call, ar_callv, callvP_func, List.nil_append, List.cons_append, List.append_nil, ar_pf, ar_hf, ar_slA, upO_some, upO_none, sX_t, sX_c, sX_f, sXs, sXO, sXP, fin_t, fin_t2, fin_t3, up_same, up_ne, ne_eq, not_false_eq_true, AVal.bool.injEq, decide_eq_true_eq, decide_eq_false_iff_not, Int.ofNat_eq_natCast, Int.reduceNegSucc, Int.cast_ofNat_Int, reduceCtorEq, bin_lss, bin_leq, bin_gtr, bin_geq, bin_eql, bin_neq, bin_add, bin_sub, bin_mul, Bool.not_eq_true', Bool.not_eq_false', Bool.true_eq_false, Bool.false_eq_true, Nat.reduceEqDiff, ↓reduceIte, if_true, if_false, Nat.reduceAdd, Int.reduceEq, Int.reduceLT, Int.reduceLE, consK_app, OptKT_some, OptHT_some, OptST_some, kontT_app, tr_nil, tr_guard, tr_pick, tr_mv, tr_new, tr_box, tr_build, tr_buildSl, tr_load, tr_store, tr_nilChk, tr_bin, tr_un, tr_conv, tr_convSB, tr_convBS, tr_mkFunc, tr_mkIface, tr_mkSlice, tr_sl, tr_slStr, tr_fieldA, tr_field, tr_idxA, tr_idxArr, tr_idx, tr_idxS, tr_extract, tr_append, tr_len, tr_call, tr_callv, tr_pf, tr_hf, tr_slA, fld0, l0, l1, e1]
    refine (rplace_spec hN.n13 hN.n27 hN.n15 hN.n26 hN.n28 hN.n29 hN.n30 hN.n31 u1 u2 w2).mono ?_
    rintro x _ ⟨rfl, rfl⟩
    obtain ⟨H4, m4, r4, k4, o4⟩ := row_newL H3 [.int .i64 0, .int .i64 0, .int .i64 0] (n := 3) rfl
    simp only [pf_min, undef_bool, str_len, str_eql, str_neq, conv_in, un_not, eq_self, decide_true, decide_false, Bool.not_true, Bool.not_false, argE_0, argE_1, argE_2, argE_3, argE_4, aw_skip, aw_reg, aw_seq, aw_cond, aw_block, aw_exit, aw_ret, inSeq_normal, inSeq_exit, inSeq_ret, inBlk_exit, inBlk_normal, inBlk_ret, OptK_some, OptH_some, OptS_some, kont_app, ar_nil, ar_guard, ar_mv, ar_pick, ar_new, ar_box, ar_build, ar_buildSl, ar_load, ar_store, ar_nilChk, ar_bin, ar_un, ar_conv, ar_convSB, ar_convBS, ar_mkFunc, ar_mkIface, ar_mkSlice, ar_sl, ar_slStr, ar_fieldA, ar_field, ar_idxA, ar_idxArr, ar_idx, ar_idxS, ar_extract, ar_append, ar_len, ar_call, ar_callv, callvP_func, List.nil_append, List.cons_append, List.append_nil, ar_pf, ar_hf, ar_slA, upO_some, upO_none, sX_t, sX_c, sX_f, sXs, sXO, sXP, fin_t, fin_t2, fin_t3, up_same, up_ne, ne_eq, not_false_eq_true, AVal.bool.injEq, decide_eq_true_eq, decide_eq_false_iff_not, Int.ofNat_eq_natCast, Int.reduceNegSucc, Int.cast_ofNat_Int, reduceCtorEq, bin_lss, bin_leq, bin_gtr, bin_geq, bin_eql, bin_neq, bin_add, bin_sub, bin_mul, Bool.not_eq_true', Bool.not_eq_false', Bool.true_eq_false, Bool.false_eq_true, Nat.reduceEqDiff, ↓reduceIte, if_true, if_false, Nat.reduceAdd, Int.reduceEq, Int.reduceLT, Int.reduceLE, consK_app, OptKT_some, OptHT_some, OptST_some, kontT_app, tr_nil, tr_guard, tr_pick, tr_mv, tr_new, tr_box, tr_build, tr_buildSl, tr_load, tr_store, tr_nilChk, tr_bin, tr_un, tr_conv, tr_convSB, tr_convBS, tr_mkFunc, tr_mkIface, tr_mkSlice, tr_sl, tr_slStr, tr_fieldA, tr_field, tr_idxA, tr_idxArr, tr_idx, tr_idxS, tr_extract, tr_append, tr_len, tr_call, tr_callv, tr_pf, tr_hf, tr_slA, e2, e3, m4]
    refine ⟨?_, ?_⟩
    · simp only [ck_nil', ck_cons, ckP_load, ckP_claim, ckP_nil, ck_end, and_true, true_and, List.map_cons, List.map_nil, pf_min, undef_bool, str_len, str_eql, str_neq, conv_in, un_not, eq_self, decide_true, decide_false, Bool.not_true, Bool.not_false, argE_0, argE_1, argE_2, argE_3, argE_4, aw_skip, aw_reg, aw_seq, aw_cond, aw_block, aw_exit, aw_ret, inSeq_normal, inSeq_exit, inSeq_ret, inBlk_exit, inBlk_normal, inBlk_ret, OptK_some, OptH_some, OptS_some, kont_app, ar_nil, ar_guard, ar_mv, ar_pick, ar_new, ar_box, ar_build, ar_buildSl, ar_load, ar_store, ar_nilChk, ar_bin, ar_un, ar_conv, ar_convSB, ar_convBS, ar_mkFunc, ar_mkIface, ar_mkSlice, ar_sl, ar_slStr, ar_fieldA, ar_field, ar_idxA, ar_idxArr, ar_idx, ar_idxS, ar_extract, ar_append, ar_len, ar_call, ar_callv, callvP_func, List.nil_append, List.cons_append, List.append_nil, ar_pf, ar_hf, ar_slA, upO_some, upO_none, sX_t, sX_c, sX_f, sXs, sXO, sXP, fin_t, fin_t2, fin_t3, up_same, up_ne, ne_eq, not_false_eq_true, AVal.bool.injEq, decide_eq_true_eq, decide_eq_false_iff_not, Int.ofNat_eq_natCast, Int.reduceNegSucc, Int.cast_ofNat_Int, reduceCtorEq, bin_lss, bin_leq, bin_gtr, bin_geq, bin_eql, bin_neq, bin_add, bin_sub, bin_mul, Bool.not_eq_true', Bool.not_eq_false', Bool.true_eq_false, Bool.false_eq_true, Nat.reduceEqDiff, ↓reduceIte, if_true, if_false, Nat.reduceAdd, Int.reduceEq, Int.reduceLT, Int.reduceLE, fld0]
      refine ⟨⟨⟨_, rfl, fun _ => ⟨_, l0, aeq_int _ _⟩⟩, ⟨_, rfl, fun _ => ⟨_, l0, aeq_int _ _⟩⟩⟩, ⟨_, rfl, fun _ => ⟨_, l0, aeq_int _ _⟩⟩⟩
    · have hb : ∀ i, i < 3 → pix[atF W Hh u v + i]? = some (pix.getD (atF W Hh u v + i) 0) := fun i hi => by
        rw [List.getD_eq_getElem?_getD, List.getElem?_eq_getElem (by omega)]; rfl
      have hwid : pix.length ≤ 4194304 := by
        have : W * Hh ≤ 1024 * 1024 := Nat.mul_le_mul w2 g2
        rw [hn, Nat.mul_assoc]; omega
      obtain ⟨P, hP⟩ : ∃ P, P = [partF (pix.getD (atF W Hh u v) 0).toNat, partF (pix.getD (atF W Hh u v + 1) 0).toNat, partF (pix.getD (atF W Hh u v + 2) 0).toNat] := ⟨_, rfl⟩
      refine aw_loop (fun k (T : Env) H' => ∃ j : Nat, j ≤ 3 ∧ k = 3 - j ∧ T 3 = cellR H.next 3 0 ∧ T 6 = cellR H1.next 3 0 ∧ T 7 = .int .i64 ((atF W Hh u v : Nat) : Int) ∧ T 8 = cellR H3.next 3 0 ∧ T 9 = .int .i64 (j : Int) ∧ Row H' H.next [.int .i64 (W : Int), .int .i64 (Hh : Int), s] ∧
        Row H' H1.next [.int .i64 0, .int .i64 0, .int .i64 0] ∧ Row H' H3.next (nats (P.take j ++ List.replicate (3 - j) 0)) ∧ H4.next ≤ H'.next ∧ ∀ c, c < H.next → H'.get c = H.get c) 3
        ⟨0, Nat.zero_le _, rfl, by simp only [pf_min, undef_bool, str_len, str_eql, str_neq, conv_in, un_not, eq_self, decide_true, decide_false, Bool.not_true, Bool.not_false, argE_0, argE_1, argE_2, argE_3, argE_4, aw_skip, aw_reg, aw_seq, aw_cond, aw_block, aw_exit, aw_ret, inSeq_normal, inSeq_exit, inSeq_ret, inBlk_exit, inBlk_normal, inBlk_ret, OptK_some, OptH_some, OptS_some, kont_app, ar_nil, ar_guard, ar_mv, ar_pick, ar_new, ar_box, ar_build, ar_buildSl, ar_load, ar_store, ar_nilChk, ar_bin, ar_un, ar_conv, ar_convSB, ar_convBS, ar_mkFunc, ar_mkIface, ar_mkSlice, ar_sl, ar_slStr, ar_fieldA, ar_field, ar_idxA, ar_idxArr, ar_idx, ar_idxS, ar_extract, ar_append, ar_len, ar_call, ar_callv, callvP_func, List.nil_append, List.cons_append, List.append_nil, ar_pf, ar_hf, ar_slA, upO_some, upO_none, sX_t, sX_c, sX_f, sXs, sXO, sXP, fin_t, fin_t2, fin_t3, up_same, up_ne, ne_eq, not_false_eq_true, AVal.bool.injEq, decide_eq_true_eq, decide_eq_false_iff_not, Int.ofNat_eq_natCast, Int.reduceNegSucc, Int.cast_ofNat_Int, reduceCtorEq, bin_lss, bin_leq, bin_gtr, bin_geq, bin_eql, bin_neq, bin_add, bin_sub, bin_mul, Bool.not_eq_true', Bool.not_eq_false', Bool.true_eq_false, Bool.false_eq_true, Nat.reduceEqDiff, ↓reduceIte, if_true, if_false, Nat.reduceAdd, Int.reduceEq, Int.reduceLT, Int.reduceLE], by simp only [pf_min, undef_bool, str_len, str_eql, str_neq, conv_in, un_not, eq_self, decide_true, decide_false, Bool.not_true, Bool.not_false, argE_0, argE_1, argE_2, argE_3, argE_4, aw_skip, aw_reg, aw_seq, aw_cond, aw_block, aw_exit, aw_ret, inSeq_normal, inSeq_exit, inSeq_ret, inBlk_exit, inBlk_normal, inBlk_ret, OptK_some, OptH_some, OptS_some, kont_app, ar_nil, ar_guard, ar_mv, ar_pick, ar_new, ar_box, ar_build, ar_buildSl, ar_load, ar_store, ar_nilChk, ar_bin, ar_un, ar_conv, ar_convSB, ar_convBS, ar_mkFunc, ar_mkIface, ar_mkSlice, ar_sl, ar_slStr, ar_fieldA, ar_field, ar_idxA, ar_idxArr, ar_idx, ar_idxS, ar_extract, ar_append, ar_len, ar_call, ar_callv, callvP_func, List.nil_append, List.cons_append, List.append_nil, ar_pf, ar_hf, ar_slA, upO_some, upO_none, sX_t, sX_c, sX_f, sXs, sXO, sXP, fin_t, fin_t2, fin_t3, up_same, up_ne, ne_eq, not_false_eq_true, AVal.bool.injEq, decide_eq_true_eq, decide_eq_false_iff_not, Int.ofNat_eq_natCast, Int.reduceNegSucc, Int.cast_ofNat_Int, reduceCtorEq, bin_lss, bin_leq, bin_gtr, bin_geq, bin_eql, bin_neq, bin_add, bin_sub, bin_mul, Bool.not_eq_true', Bool.not_eq_false', Bool.true_eq_false, Bool.false_eq_true, Nat.reduceEqDiff, ↓reduceIte, if_true, if_false, Nat.reduceAdd, Int.reduceEq, Int.reduceLT, Int.reduceLE], by simp only [pf_min, undef_bool, str_len, str_eql, str_neq, conv_in, un_not, eq_self, decide_true, decide_false, Bool.not_true, Bool.not_false, argE_0, argE_1, argE_2, argE_3, argE_4, aw_skip, aw_reg, aw_seq, aw_cond, aw_block, aw_exit, aw_ret, inSeq_normal, inSeq_exit, inSeq_ret, inBlk_exit, inBlk_normal, inBlk_ret, OptK_some, OptH_some, OptS_some, kont_app, ar_nil, ar_guard, ar_mv, ar_pick, ar_new, ar_box, ar_build, ar_buildSl, ar_load, ar_store, ar_nilChk, ar_bin, ar_un, ar_conv, ar_convSB, ar_convBS, ar_mkFunc, ar_mkIface, ar_mkSlice, ar_sl, ar_slStr, ar_fieldA, ar_field, ar_idxA, ar_idxArr, ar_idx, ar_idxS, ar_extract, ar_append, ar_len, ar_call, ar_callv, callvP_func, List.nil_append, List.cons_append, List.append_nil, ar_pf, ar_hf, ar_slA, upO_some, upO_none, sX_t, sX_c, sX_f, sXs, sXO, sXP, fin_t, fin_t2, fin_t3, up_same, up_ne, ne_eq, not_false_eq_true, AVal.bool.injEq, decide_eq_true_eq, decide_eq_false_iff_not, Int.ofNat_eq_natCast, Int.reduceNegSucc, Int.cast_ofNat_Int, reduceCtorEq, bin_lss, bin_leq, bin_gtr, bin_geq, bin_eql, bin_neq, bin_add, bin_sub, bin_mul, Bool.not_eq_true', Bool.not_eq_false', Bool.true_eq_false, Bool.false_eq_true, Nat.reduceEqDiff, ↓reduceIte, if_true, if_false, Nat.reduceAdd, Int.reduceEq, Int.reduceLT, Int.reduceLE], by simp only [pf_min, undef_bool, str_len, str_eql, str_neq, conv_in, un_not, eq_self, decide_true, decide_false, Bool.not_true, Bool.not_false, argE_0, argE_1, argE_2, argE_3, argE_4, aw_skip, aw_reg, aw_seq, aw_cond, aw_block, aw_exit, aw_ret, inSeq_normal, inSeq_exit, inSeq_ret, inBlk_exit, inBlk_normal, inBlk_ret, OptK_some, OptH_some, OptS_some, kont_app, ar_nil, ar_guard, ar_mv, ar_pick, ar_new, ar_box, ar_build, ar_buildSl, ar_load, ar_store, ar_nilChk, ar_bin, ar_un, ar_conv, ar_convSB, ar_convBS, ar_mkFunc, ar_mkIface, ar_mkSlice, ar_sl, ar_slStr, ar_fieldA, ar_field, ar_idxA, ar_idxArr, ar_idx, ar_idxS, ar_extract, ar_append, ar_len, ar_call, ar_callv, callvP_func, List.nil_append, List.cons_append, List.append_nil, ar_pf, ar_hf, ar_slA, upO_some, upO_none, sX_t, sX_c, sX_f, sXs, sXO, sXP, fin_t, fin_t2, fin_t3, up_same, up_ne, ne_eq, not_false_eq_true, AVal.bool.injEq, decide_eq_true_eq, decide_eq_false_iff_not, Int.ofNat_eq_natCast, Int.reduceNegSucc, Int.cast_ofNat_Int, reduceCtorEq, bin_lss, bin_leq, bin_gtr, bin_geq, bin_eql, bin_neq, bin_add, bin_sub, bin_mul, Bool.not_eq_true', Bool.not_eq_false', Bool.true_eq_false, Bool.false_eq_true, Nat.reduceEqDiff, ↓reduceIte, if_true, if_false, Nat.reduceAdd, Int.reduceEq, Int.reduceLT, Int.reduceLE], by simp only [pf_min, undef_bool, str_len, str_eql, str_neq, conv_in, un_not, eq_self, decide_true, decide_false, Bool.not_true, Bool.not_false, argE_0, argE_1, argE_2, argE_3, argE_4, aw_skip, aw_reg, aw_seq, aw_cond, aw_block, aw_exit, aw_ret, inSeq_normal, inSeq_exit, inSeq_ret, inBlk_exit, inBlk_normal, inBlk_ret, OptK_some, OptH_some, OptS_some, kont_app, ar_nil, ar_guard, ar_mv, ar_pick, ar_new, ar_box, ar_build, ar_buildSl, ar_load, ar_store, ar_nilChk, ar_bin, ar_un, ar_conv, ar_convSB, ar_convBS, ar_mkFunc, ar_mkIface, ar_mkSlice, ar_sl, ar_slStr, ar_fieldA, ar_field, ar_idxA, ar_idxArr, ar_idx, ar_idxS, ar_extract, ar_append, ar_len, ar_call, ar_callv, callvP_func, List.nil_append, List.cons_append, List.append_nil, ar_pf, ar_hf, ar_slA, upO_some, upO_none, sX_t, sX_c, sX_f, sXs, sXO, sXP, fin_t, fin_t2, fin_t3, up_same, up_ne, ne_eq, not_false_eq_true, AVal.bool.injEq, decide_eq_true_eq, decide_eq_false_iff_not, Int.ofNat_eq_natCast, Int.reduceNegSucc, Int.cast_ofNat_Int, reduceCtorEq, bin_lss, bin_leq, bin_gtr, bin_geq, bin_eql, bin_neq, bin_add, bin_sub, bin_mul, Bool.not_eq_true', Bool.not_eq_false', Bool.true_eq_false, Bool.false_eq_true, Nat.reduceEqDiff, ↓reduceIte, if_true, if_false, Nat.reduceAdd, Int.reduceEq, Int.reduceLT, Int.reduceLE] <;> rfl, RK.same (o4 _ (by omega)), R2.same (o4 _ (by omega)), (by rw [hP]; exact r4), Nat.le_refl _, fun c hc => by rw [o4 _ (by omega), E3.old _ (by omega), o2 _ (by omega), o1 _ (by omega)]⟩ ?_
      rintro k T H5 ⟨j, hj, rfl, t3, t6, t7, t8, t9, RT, R6, R8, n5, o5⟩
      have l2 := row_load RT (n := 3) rfl (i := 2) rfl
      have hs5 : Cel H.next H5 s (byts pix) := hs.ext ⟨by omega, o5⟩
      by_cases hlt : j < 3
      · have hlt' : (j : Int) < 3 := by omega
        have hbj := hb j hlt
        have hlt2 : atF W Hh u v + j < (byts pix).length := by rw [byts_len]; omega
        have hi := hs5.idx .i64 (i := atF W Hh u v + j) hlt2
        have hl := hs5.load (byts_get hbj)
        obtain ⟨b, hbv⟩ : ∃ b, b = pix.getD (atF W Hh u v + j) 0 := ⟨_, rfl⟩
        rw [← hbv] at hl
        have hb256 : b.toNat < 256 := b.toNat_lt
        have e4 : IntKind.i64.wrap (b.toNat : Int) = (b.toNat : Int) := wrap64 (by omega) (by omega)
        simp only [pf_min, undef_bool, str_len, str_eql, str_neq, conv_in, un_not, eq_self, decide_true, decide_false, Bool.not_true, Bool.not_false, argE_0, argE_1, argE_2, argE_3, argE_4, aw_skip, aw_reg, aw_seq, aw_cond, aw_block, aw_exit, aw_ret, inSeq_normal, inSeq_exit, inSeq_ret, inBlk_exit, inBlk_normal, inBlk_ret, OptK_some, OptH_some, OptS_some, kont_app, ar_nil, ar_guard, ar_mv, ar_pick, ar_new, ar_box, ar_build, ar_buildSl, ar_load, ar_store, ar_nilChk, ar_bin, ar_un, ar_conv, ar_convSB, ar_convBS, ar_mkFunc, ar_mkIface, ar_mkSlice, ar_sl, ar_slStr, ar_fieldA, ar_field, ar_idxA, ar_idxArr, ar_idx, ar_idxS, ar_extract, ar_append, ar_len, ar_call, ar_callv, callvP_func, List.nil_append, List.cons_append, List.append_nil, ar_pf, ar_hf, ar_slA, upO_some, upO_none, sX_t, sX_c, sX_f, sXs, sXO, sXP, fin_t, fin_t2, fin_t3, up_same, up_ne, ne_eq, not_false_eq_true, AVal.bool.injEq, decide_eq_true_eq, decide_eq_false_iff_not, Int.ofNat_eq_natCast, Int.reduceNegSucc, Int.cast_ofNat_Int, reduceCtorEq, bin_lss, bin_leq, bin_gtr, bin_geq, bin_eql, bin_neq, bin_add, bin_sub, bin_mul, Bool.not_eq_true', Bool.not_eq_false', Bool.true_eq_false, Bool.false_eq_true, Nat.reduceEqDiff, ↓reduceIte, if_true, if_false, Nat.reduceAdd, Int.reduceEq, Int.reduceLT, Int.reduceLE, t3, t6, t7, t8, t9, hlt', fld0, l2, wrapN (atF W Hh u v) j (by omega), hi, hl, e4]
        refine (rof_spec hN.n15 hN.n29 hN.n30 hN.n31 (x := (b.toNat : Int)) (by omega) (by omega)).mono ?_
        rintro x _ ⟨rfl, rfl⟩
        simp only [pf_min, undef_bool, str_len, str_eql, str_neq, conv_in, un_not, eq_self, decide_true, decide_false, Bool.not_true, Bool.not_false, argE_0, argE_1, argE_2, argE_3, argE_4, aw_skip, aw_reg, aw_seq, aw_cond, aw_block, aw_exit, aw_ret, inSeq_normal, inSeq_exit, inSeq_ret, inBlk_exit, inBlk_normal, inBlk_ret, OptK_some, OptH_some, OptS_some, kont_app, ar_nil, ar_guard, ar_mv, ar_pick, ar_new, ar_box, ar_build, ar_buildSl, ar_load, ar_store, ar_nilChk, ar_bin, ar_un, ar_conv, ar_convSB, ar_convBS, ar_mkFunc, ar_mkIface, ar_mkSlice, ar_sl, ar_slStr, ar_fieldA, ar_field, ar_idxA, ar_idxArr, ar_idx, ar_idxS, ar_extract, ar_append, ar_len, ar_call, ar_callv, callvP_func, List.nil_append, List.cons_append, List.append_nil, ar_pf, ar_hf, ar_slA, upO_some, upO_none, sX_t, sX_c, sX_f, sXs, sXO, sXP, fin_t, fin_t2, fin_t3, up_same, up_ne, ne_eq, not_false_eq_true, AVal.bool.injEq, decide_eq_true_eq, decide_eq_false_iff_not, Int.ofNat_eq_natCast, Int.reduceNegSucc, Int.cast_ofNat_Int, reduceCtorEq, bin_lss, bin_leq, bin_gtr, bin_geq, bin_eql, bin_neq, bin_add, bin_sub, bin_mul, Bool.not_eq_true', Bool.not_eq_false', Bool.true_eq_false, Bool.false_eq_true, Nat.reduceEqDiff, ↓reduceIte, if_true, if_false, Nat.reduceAdd, Int.reduceEq, Int.reduceLT, Int.reduceLE]
        refine (rof_spec hN.n15 hN.n29 hN.n30 hN.n31 (x := 255) (by omega) (by omega)).mono ?_
        rintro x _ ⟨rfl, rfl⟩
        have e5 : (255 : Int) * 4294967296 = 1095216660480 := by decide
        have e6 : (b.toNat : Int) * 4294967296 = ((b.toNat * 4294967296 : Nat) : Int) := by omega
        simp only [pf_min, undef_bool, str_len, str_eql, str_neq, conv_in, un_not, eq_self, decide_true, decide_false, Bool.not_true, Bool.not_false, argE_0, argE_1, argE_2, argE_3, argE_4, aw_skip, aw_reg, aw_seq, aw_cond, aw_block, aw_exit, aw_ret, inSeq_normal, inSeq_exit, inSeq_ret, inBlk_exit, inBlk_normal, inBlk_ret, OptK_some, OptH_some, OptS_some, kont_app, ar_nil, ar_guard, ar_mv, ar_pick, ar_new, ar_box, ar_build, ar_buildSl, ar_load, ar_store, ar_nilChk, ar_bin, ar_un, ar_conv, ar_convSB, ar_convBS, ar_mkFunc, ar_mkIface, ar_mkSlice, ar_sl, ar_slStr, ar_fieldA, ar_field, ar_idxA, ar_idxArr, ar_idx, ar_idxS, ar_extract, ar_append, ar_len, ar_call, ar_callv, callvP_func, List.nil_append, List.cons_append, List.append_nil, ar_pf, ar_hf, ar_slA, upO_some, upO_none, sX_t, sX_c, sX_f, sXs, sXO, sXP, fin_t, fin_t2, fin_t3, up_same, up_ne, ne_eq, not_false_eq_true, AVal.bool.injEq, decide_eq_true_eq, decide_eq_false_iff_not, Int.ofNat_eq_natCast, Int.reduceNegSucc, Int.cast_ofNat_Int, reduceCtorEq, bin_lss, bin_leq, bin_gtr, bin_geq, bin_eql, bin_neq, bin_add, bin_sub, bin_mul, Bool.not_eq_true', Bool.not_eq_false', Bool.true_eq_false, Bool.false_eq_true, Nat.reduceEqDiff, ↓reduceIte, if_true, if_false, Nat.reduceAdd, Int.reduceEq, Int.reduceLT, Int.reduceLE]
        rw [e5, e6]
        refine (rpart_spec hN.n14 hN.n29 hN.n30 hb256).mono ?_
        rintro x _ ⟨rfl, rfl⟩
        have hlen8 : (nats (P.take j ++ List.replicate (3 - j) 0)).length = 3 := by rw [hP]; simp [nats]; omega
        obtain ⟨H6, m6, r6, k6, o6⟩ := row_store R8 hlen8 (i := j) hlt (x := .int .i64 (partF b.toNat : Int)) rfl
        simp only [pf_min, undef_bool, str_len, str_eql, str_neq, conv_in, un_not, eq_self, decide_true, decide_false, Bool.not_true, Bool.not_false, argE_0, argE_1, argE_2, argE_3, argE_4, aw_skip, aw_reg, aw_seq, aw_cond, aw_block, aw_exit, aw_ret, inSeq_normal, inSeq_exit, inSeq_ret, inBlk_exit, inBlk_normal, inBlk_ret, OptK_some, OptH_some, OptS_some, kont_app, ar_nil, ar_guard, ar_mv, ar_pick, ar_new, ar_box, ar_build, ar_buildSl, ar_load, ar_store, ar_nilChk, ar_bin, ar_un, ar_conv, ar_convSB, ar_convBS, ar_mkFunc, ar_mkIface, ar_mkSlice, ar_sl, ar_slStr, ar_fieldA, ar_field, ar_idxA, ar_idxArr, ar_idx, ar_idxS, ar_extract, ar_append, ar_len, ar_call, ar_callv, callvP_func, List.nil_append, List.cons_append, List.append_nil, ar_pf, ar_hf, ar_slA, upO_some, upO_none, sX_t, sX_c, sX_f, sXs, sXO, sXP, fin_t, fin_t2, fin_t3, up_same, up_ne, ne_eq, not_false_eq_true, AVal.bool.injEq, decide_eq_true_eq, decide_eq_false_iff_not, Int.ofNat_eq_natCast, Int.reduceNegSucc, Int.cast_ofNat_Int, reduceCtorEq, bin_lss, bin_leq, bin_gtr, bin_geq, bin_eql, bin_neq, bin_add, bin_sub, bin_mul, Bool.not_eq_true', Bool.not_eq_false', Bool.true_eq_false, Bool.false_eq_true, Nat.reduceEqDiff, ↓reduceIte, if_true, if_false, Nat.reduceAdd, Int.reduceEq, Int.reduceLT, Int.reduceLE, t3, t6, t7, t8, t9, arr_idx (b := H3.next) (n := 3) (i := j) hlt, m6, wrap1 j (by omega)]
        refine ⟨_, by omega, j + 1, by omega, rfl, by trivial, by trivial, by trivial, by trivial, by trivial, RT.same (o6 _ (by omega)), R6.same (o6 _ (by omega)), ?_, by omega, fun c hc => by rw [o6 _ (by omega)]; exact o5 c hc⟩
        have e7 : (nats (P.take j ++ List.replicate (3 - j) 0)).set j (.int .i64 (partF b.toNat : Int)) = nats (P.take (j + 1) ++ List.replicate (3 - (j + 1)) 0) := by
          rw [hbv, hP]
          have hj3 : j = 0 ∨ j = 1 ∨ j = 2 := by omega
          rcases hj3 with rfl | rfl | rfl <;> rfl
        rw [← e7]
        exact r6
      · obtain rfl : j = 3 := by omega
        have hlt' : ¬ ((3 : Nat) : Int) < 3 := by omega
        have e8 : nats (P.take 3 ++ List.replicate (3 - 3) 0) = [.int .i64 ((partF (pix.getD (atF W Hh u v) 0).toNat : Nat) : Int), .int .i64 ((partF (pix.getD (atF W Hh u v + 1) 0).toNat : Nat) : Int), .int .i64 ((partF (pix.getD (atF W Hh u v + 2) 0).toNat : Nat) : Int)] := by rw [hP]; rfl
        rw [e8] at R8
        have q0 := row_load R8 (n := 3) rfl (i := 0) rfl
        have q1 := row_load R8 (n := 3) rfl (i := 1) rfl
        have q2 := row_load R8 (n := 3) rfl (i := 2) rfl
        have a0 := arr_idx (b := H3.next) (n := 3) (i := 0) (by omega) .i64
        have a1 := arr_idx (b := H3.next) (n := 3) (i := 1) (by omega) .i64
        have a2 := arr_idx (b := H3.next) (n := 3) (i := 2) (by omega) .i64
        simp only [Int.cast_ofNat_Int] at a0 a1 a2
        have b3 : ∀ a b c : Int, aBuild [.int .i64 0, .int .i64 0, .int .i64 0] [(0, 1, .int .i64 a), (1, 1, .int .i64 b), (2, 1, .int .i64 c)] = some (.agg [.int .i64 a, .int .i64 b, .int .i64 c]) := fun _ _ _ => rfl
        obtain ⟨H6, m6, r6, k6, o6⟩ := row_storeN R6 (n := 3) rfl (xs := [.int .i64 ((partF (pix.getD (atF W Hh u v) 0).toNat : Nat) : Int), .int .i64 ((partF (pix.getD (atF W Hh u v + 1) 0).toNat : Nat) : Int), .int .i64 ((partF (pix.getD (atF W Hh u v + 2) 0).toNat : Nat) : Int)]) rfl rfl
        simp only [pf_min, undef_bool, str_len, str_eql, str_neq, conv_in, un_not, eq_self, decide_true, decide_false, Bool.not_true, Bool.not_false, argE_0, argE_1, argE_2, argE_3, argE_4, aw_skip, aw_reg, aw_seq, aw_cond, aw_block, aw_exit, aw_ret, inSeq_normal, inSeq_exit, inSeq_ret, inBlk_exit, inBlk_normal, inBlk_ret, OptK_some, OptH_some, OptS_some, kont_app, ar_nil, ar_guard, ar_mv, ar_pick, ar_new, ar_box, ar_build, ar_buildSl, ar_load, ar_store, ar_nilChk, ar_bin, ar_un, ar_conv, ar_convSB, ar_convBS, ar_mkFunc, ar_mkIface, ar_mkSlice, ar_sl, ar_slStr, ar_fieldA, ar_field, ar_idxA, ar_idxArr, ar_idx, ar_idxS, ar_extract, ar_append, ar_len, ar_call, ar_callv, callvP_func, List.nil_append, List.cons_append, List.append_nil, ar_pf, ar_hf, ar_slA, upO_some, upO_none, sX_t, sX_c, sX_f, sXs, sXO, sXP, fin_t, fin_t2, fin_t3, up_same, up_ne, ne_eq, not_false_eq_true, AVal.bool.injEq, decide_eq_true_eq, decide_eq_false_iff_not, Int.ofNat_eq_natCast, Int.reduceNegSucc, Int.cast_ofNat_Int, reduceCtorEq, bin_lss, bin_leq, bin_gtr, bin_geq, bin_eql, bin_neq, bin_add, bin_sub, bin_mul, Bool.not_eq_true', Bool.not_eq_false', Bool.true_eq_false, Bool.false_eq_true, Nat.reduceEqDiff, ↓reduceIte, if_true, if_false, Nat.reduceAdd, Int.reduceEq, Int.reduceLT, Int.reduceLE, t3, t6, t7, t8, t9, hlt', q0, q1, q2, a0, a1, a2, b3, m6]
        have hld := row_loadN r6 (n := 3) rfl
        refine fin_c1 _ _ _ _ (by simp only [pf_min, undef_bool, str_len, str_eql, str_neq, conv_in, un_not, eq_self, decide_true, decide_false, Bool.not_true, Bool.not_false, argE_0, argE_1, argE_2, argE_3, argE_4, aw_skip, aw_reg, aw_seq, aw_cond, aw_block, aw_exit, aw_ret, inSeq_normal, inSeq_exit, inSeq_ret, inBlk_exit, inBlk_normal, inBlk_ret, OptK_some, OptH_some, OptS_some, kont_app, ar_nil, ar_guard, ar_mv, ar_pick, ar_new, ar_box, ar_build, ar_buildSl, ar_load, ar_store, ar_nilChk, ar_bin, ar_un, ar_conv, ar_convSB, ar_convBS, ar_mkFunc, ar_mkIface, ar_mkSlice, ar_sl, ar_slStr, ar_fieldA, ar_field, ar_idxA, ar_idxArr, ar_idx, ar_idxS, ar_extract, ar_append, ar_len, ar_call, ar_callv, callvP_func, List.nil_append, List.cons_append, List.append_nil, ar_pf, ar_hf, ar_slA, upO_some, upO_none, sX_t, sX_c, sX_f, sXs, sXO, sXP, fin_t, fin_t2, fin_t3, up_same, up_ne, ne_eq, not_false_eq_true, AVal.bool.injEq, decide_eq_true_eq, decide_eq_false_iff_not, Int.ofNat_eq_natCast, Int.reduceNegSucc, Int.cast_ofNat_Int, reduceCtorEq, bin_lss, bin_leq, bin_gtr, bin_geq, bin_eql, bin_neq, bin_add, bin_sub, bin_mul, Bool.not_eq_true', Bool.not_eq_false', Bool.true_eq_false, Bool.false_eq_true, Nat.reduceEqDiff, ↓reduceIte, if_true, if_false, Nat.reduceAdd, Int.reduceEq, Int.reduceLT, Int.reduceLE, t6]; exact hld) ?_
        refine ⟨?_, ⟨by omega, fun c hc => by rw [o6 _ (by omega)]; exact o5 c hc⟩⟩
        simp only [colF, hr, if_true, Int.toNat_natCast]
        rfl
end Go.Proofs.Tx
/- Texture: the law's run. -/
namespace Go.Proofs.Tx
open Go.Abs Go.Abs.S
set_option linter.unusedSimpArgs false
theorem nTx : NTx (natB 6) := by
  refine ⟨?_, ?_, ?_, ?_, ?_, ?_, ?_, ?_, ?_, ?_, ?_, ?_, ?_, ?_, ?_, ?_, ?_, ?_, ?_, ?_, ?_, ?_, ?_, ?_, ?_, ?_, ?_⟩ <;> exact natB_is (by decide)
theorem partF_le {i : Nat} (h : i < 256) : partF i ≤ 4294967296 := by unfold partF; omega
theorem col_of (w h : Int) (pix : List UInt8) (u v : Int) : ∃ a b c : Nat, colF w h pix u v = [a, b, c] ∧ a ≤ 4294967296 ∧ b ≤ 4294967296 ∧ c ≤ 4294967296 := by
  unfold colF
  split
  · exact ⟨_, _, _, rfl, partF_le (UInt8.toNat_lt _), partF_le (UInt8.toNat_lt _), partF_le (UInt8.toNat_lt _)⟩
  · exact ⟨0, 0, 0, rfl, by decide, by decide, by decide⟩
theorem eq_vec (a b c : Int) : aPf (.eqS false [(0, .int), (1, .int), (2, .int)]) [.agg [.int .i64 a, .int .i64 b, .int .i64 c], .agg [.int .i64 a, .int .i64 b, .int .i64 c]] = some (.bool true) := by
  simp [aPf, aEqSs, aEqFs, fEq, fEqI, eqF_eq]
theorem aeq_vec (a b c : Int) : aeq (.agg [.int .i64 a, .int .i64 b, .int .i64 c]) (.agg [.int .i64 a, .int .i64 b, .int .i64 c]) = true := by
  simp [aeq, aeqs, eqF_eq]
set_option maxHeartbeats 1000000 in
theorem law_spec {H : AHeap} {w h : Int} {s : AVal} {pix : List UInt8} (hs : Cel H.next H s (byts pix)) (h1 : s.one = true) {u v : Int} (u1 : -9223372036854775808 ≤ u) (u2 : u ≤ 9223372036854775807) (v1 : -9223372036854775808 ≤ v) (v2 : v ≤ 9223372036854775807) :
    ACalls Tryz.prog (natB 6) 3 [texV w h s, .int .i64 u, .int .i64 v] H fun x H' => x = .bool true ∧ True := by
  refine acalls_ofN (natB_is (by decide)) za3 rfl ?_
  obtain ⟨a, b, c, hcol, ha, hb, hc⟩ := col_of w h pix u v
  obtain ⟨H1, m1, r1, k1, o1⟩ := row_newL H [.int .i64 w, .int .i64 h, s] (n := 3) rfl
  have E1 : Ext H.next H H1 := Ext.of_new k1 o1 (Nat.le_refl _)
  have L1 := row_loadN r1 (n := 3) rfl
  have hs1 : Cel H1.next H1 s (byts pix) := (hs.ext E1).more (by omega)
  simp only [c3, pf_min, undef_bool, str_len, str_eql, str_neq, conv_in, un_not, eq_self, decide_true, decide_false, Bool.not_true, Bool.not_false, argE_0, argE_1, argE_2, argE_3, argE_4, aw_skip, aw_reg, aw_seq, aw_cond, aw_block, aw_exit, aw_ret, inSeq_normal, inSeq_exit, inSeq_ret, inBlk_exit, inBlk_normal, inBlk_ret, OptK_some, OptH_some, OptS_some, kont_app, ar_nil, ar_guard, ar_mv, ar_pick, ar_new, ar_box, ar_build, ar_buildSl, ar_load, ar_store, ar_nilChk, ar_bin, ar_un, ar_conv, ar_convSB, ar_convBS, ar_mkFunc, ar_mkIface, ar_mkSlice, ar_sl, ar_slStr, ar_fieldA, ar_field, ar_idxA, ar_idxArr, ar_idx, ar_idxS, ar_extract, ar_append, ar_len, ar_call, ar_callv, callvP_func, List.nil_append, List.cons_append, List.append_nil, ar_pf, ar_hf, ar_slA, upO_some, upO_none, sX_t, sX_c, sX_f, sXs, sXO, sXP, fin_t, fin_t2, fin_t3, up_same, up_ne, ne_eq, not_false_eq_true, AVal.bool.injEq, decide_eq_true_eq, decide_eq_false_iff_not, Int.ofNat_eq_natCast, Int.reduceNegSucc, Int.cast_ofNat_Int, reduceCtorEq, bin_lss, bin_leq, bin_gtr, bin_geq, bin_eql, bin_neq, bin_add, bin_sub, bin_mul, Bool.not_eq_true', Bool.not_eq_false', Bool.true_eq_false, Bool.false_eq_true, Nat.reduceEqDiff, ↓reduceIte, if_true, if_false, Nat.reduceAdd, Int.reduceEq, Int.reduceLT, Int.reduceLE, cells_agg, m1, L1]
  refine (sample_spec nTx hs1 h1 u1 u2 v1 v2).mono ?_
  rintro x H2 ⟨rfl, E2⟩
  have k2 := E2.next
  rw [hcol]
  obtain ⟨H3, m3, r3, k3, o3⟩ := row_newL H2 [.int .i64 0, .int .i64 0, .int .i64 0] (n := 3) rfl
  obtain ⟨H4, m4, r4, k4, o4⟩ := row_storeN r3 (n := 3) rfl (xs := nats [a, b, c]) rfl rfl
  simp only [nats, List.map_cons, List.map_nil] at m4 r4
  simp only [pf_min, undef_bool, str_len, str_eql, str_neq, conv_in, un_not, eq_self, decide_true, decide_false, Bool.not_true, Bool.not_false, argE_0, argE_1, argE_2, argE_3, argE_4, aw_skip, aw_reg, aw_seq, aw_cond, aw_block, aw_exit, aw_ret, inSeq_normal, inSeq_exit, inSeq_ret, inBlk_exit, inBlk_normal, inBlk_ret, OptK_some, OptH_some, OptS_some, kont_app, ar_nil, ar_guard, ar_mv, ar_pick, ar_new, ar_box, ar_build, ar_buildSl, ar_load, ar_store, ar_nilChk, ar_bin, ar_un, ar_conv, ar_convSB, ar_convBS, ar_mkFunc, ar_mkIface, ar_mkSlice, ar_sl, ar_slStr, ar_fieldA, ar_field, ar_idxA, ar_idxArr, ar_idx, ar_idxS, ar_extract, ar_append, ar_len, ar_call, ar_callv, callvP_func, List.nil_append, List.cons_append, List.append_nil, ar_pf, ar_hf, ar_slA, upO_some, upO_none, sX_t, sX_c, sX_f, sXs, sXO, sXP, fin_t, fin_t2, fin_t3, up_same, up_ne, ne_eq, not_false_eq_true, AVal.bool.injEq, decide_eq_true_eq, decide_eq_false_iff_not, Int.ofNat_eq_natCast, Int.reduceNegSucc, Int.cast_ofNat_Int, reduceCtorEq, bin_lss, bin_leq, bin_gtr, bin_geq, bin_eql, bin_neq, bin_add, bin_sub, bin_mul, Bool.not_eq_true', Bool.not_eq_false', Bool.true_eq_false, Bool.false_eq_true, Nat.reduceEqDiff, ↓reduceIte, if_true, if_false, Nat.reduceAdd, Int.reduceEq, Int.reduceLT, Int.reduceLE, nats, List.map_cons, List.map_nil, m3, m4]
  have RT : Row H4 H.next [.int .i64 w, .int .i64 h, s] := r1.same (by rw [o4 _ (by omega), o3 _ (by omega), E2.old _ (by omega)])
  have LT := row_loadN RT (n := 3) rfl
  have LV := row_loadN r4 (n := 3) rfl
  have hs4 : Cel H4.next H4 s (byts pix) := ((hs1.ext E2).ext ⟨by omega, fun c hc => by rw [o4 _ (by omega), o3 _ (by omega)]⟩).more (by omega)
  refine aw_drawC rfl ?_
  simp only [pf_min, undef_bool, str_len, str_eql, str_neq, conv_in, un_not, eq_self, decide_true, decide_false, Bool.not_true, Bool.not_false, argE_0, argE_1, argE_2, argE_3, argE_4, aw_skip, aw_reg, aw_seq, aw_cond, aw_block, aw_exit, aw_ret, inSeq_normal, inSeq_exit, inSeq_ret, inBlk_exit, inBlk_normal, inBlk_ret, OptK_some, OptH_some, OptS_some, kont_app, ar_nil, ar_guard, ar_mv, ar_pick, ar_new, ar_box, ar_build, ar_buildSl, ar_load, ar_store, ar_nilChk, ar_bin, ar_un, ar_conv, ar_convSB, ar_convBS, ar_mkFunc, ar_mkIface, ar_mkSlice, ar_sl, ar_slStr, ar_fieldA, ar_field, ar_idxA, ar_idxArr, ar_idx, ar_idxS, ar_extract, ar_append, ar_len, ar_call, ar_callv, callvP_func, List.nil_append, List.cons_append, List.append_nil, ar_pf, ar_hf, ar_slA, upO_some, upO_none, sX_t, sX_c, sX_f, sXs, sXO, sXP, fin_t, fin_t2, fin_t3, up_same, up_ne, ne_eq, not_false_eq_true, AVal.bool.injEq, decide_eq_true_eq, decide_eq_false_iff_not, Int.ofNat_eq_natCast, Int.reduceNegSucc, Int.cast_ofNat_Int, reduceCtorEq, bin_lss, bin_leq, bin_gtr, bin_geq, bin_eql, bin_neq, bin_add, bin_sub, bin_mul, Bool.not_eq_true', Bool.not_eq_false', Bool.true_eq_false, Bool.false_eq_true, Nat.reduceEqDiff, ↓reduceIte, if_true, if_false, Nat.reduceAdd, Int.reduceEq, Int.reduceLT, Int.reduceLE, consK_app, OptKT_some, OptHT_some, OptST_some, kontT_app, tr_nil, tr_guard, tr_pick, tr_mv, tr_new, tr_box, tr_build, tr_buildSl, tr_load, tr_store, tr_nilChk, tr_bin, tr_un, tr_conv, tr_convSB, tr_convBS, tr_mkFunc, tr_mkIface, tr_mkSlice, tr_sl, tr_slStr, tr_fieldA, tr_field, tr_idxA, tr_idxArr, tr_idx, tr_idxS, tr_extract, tr_append, tr_len, tr_call, tr_callv, tr_pf, tr_hf, tr_slA, LT, LV]
  refine (rsample_spec nTx hs4 h1 u1 u2 v1 v2).mono ?_
  rintro x H5 ⟨rfl, E5⟩
  have k5 := E5.next
  rw [hcol]
  have r5 : Row H5 H2.next [.int .i64 (a : Int), .int .i64 (b : Int), .int .i64 (c : Int)] := r4.same (E5.old _ (by omega))
  have q0 := row_load r5 (n := 3) rfl (i := 0) rfl
  have q1 := row_load r5 (n := 3) rfl (i := 1) rfl
  have q2 := row_load r5 (n := 3) rfl (i := 2) rfl
  have qv := row_loadN r5 (n := 3) rfl
  have a0 : (0 : Int) ≤ (a : Int) := by omega
  have a1 : (a : Int) ≤ 4294967296 := by omega
  have b0 : (0 : Int) ≤ (b : Int) := by omega
  have b1 : (b : Int) ≤ 4294967296 := by omega
  have d0 : (0 : Int) ≤ (c : Int) := by omega
  have d1 : (c : Int) ≤ 4294967296 := by omega
  simp only [pf_min, undef_bool, str_len, str_eql, str_neq, conv_in, un_not, eq_self, decide_true, decide_false, Bool.not_true, Bool.not_false, argE_0, argE_1, argE_2, argE_3, argE_4, aw_skip, aw_reg, aw_seq, aw_cond, aw_block, aw_exit, aw_ret, inSeq_normal, inSeq_exit, inSeq_ret, inBlk_exit, inBlk_normal, inBlk_ret, OptK_some, OptH_some, OptS_some, kont_app, ar_nil, ar_guard, ar_mv, ar_pick, ar_new, ar_box, ar_build, ar_buildSl, ar_load, ar_store, ar_nilChk, ar_bin, ar_un, ar_conv, ar_convSB, ar_convBS, ar_mkFunc, ar_mkIface, ar_mkSlice, ar_sl, ar_slStr, ar_fieldA, ar_field, ar_idxA, ar_idxArr, ar_idx, ar_idxS, ar_extract, ar_append, ar_len, ar_call, ar_callv, callvP_func, List.nil_append, List.cons_append, List.append_nil, ar_pf, ar_hf, ar_slA, upO_some, upO_none, sX_t, sX_c, sX_f, sXs, sXO, sXP, fin_t, fin_t2, fin_t3, up_same, up_ne, ne_eq, not_false_eq_true, AVal.bool.injEq, decide_eq_true_eq, decide_eq_false_iff_not, Int.ofNat_eq_natCast, Int.reduceNegSucc, Int.cast_ofNat_Int, reduceCtorEq, bin_lss, bin_leq, bin_gtr, bin_geq, bin_eql, bin_neq, bin_add, bin_sub, bin_mul, Bool.not_eq_true', Bool.not_eq_false', Bool.true_eq_false, Bool.false_eq_true, Nat.reduceEqDiff, ↓reduceIte, if_true, if_false, Nat.reduceAdd, Int.reduceEq, Int.reduceLT, Int.reduceLE, consK_app, OptKT_some, OptHT_some, OptST_some, kontT_app, tr_nil, tr_guard, tr_pick, tr_mv, tr_new, tr_box, tr_build, tr_buildSl, tr_load, tr_store, tr_nilChk, tr_bin, tr_un, tr_conv, tr_convSB, tr_convBS, tr_mkFunc, tr_mkIface, tr_mkSlice, tr_sl, tr_slStr, tr_fieldA, tr_field, tr_idxA, tr_idxArr, tr_idx, tr_idxS, tr_extract, tr_append, tr_len, tr_call, tr_callv, tr_pf, tr_hf, tr_slA, nats, List.map_cons, List.map_nil, eq_vec, fld0, q0, q1, q2, a0, a1, b0, b1, d0, d1]
  refine natB_call ?_
  simp only [pf_min, undef_bool, str_len, str_eql, str_neq, conv_in, un_not, eq_self, decide_true, decide_false, Bool.not_true, Bool.not_false, argE_0, argE_1, argE_2, argE_3, argE_4, aw_skip, aw_reg, aw_seq, aw_cond, aw_block, aw_exit, aw_ret, inSeq_normal, inSeq_exit, inSeq_ret, inBlk_exit, inBlk_normal, inBlk_ret, OptK_some, OptH_some, OptS_some, kont_app, ar_nil, ar_guard, ar_mv, ar_pick, ar_new, ar_box, ar_build, ar_buildSl, ar_load, ar_store, ar_nilChk, ar_bin, ar_un, ar_conv, ar_convSB, ar_convBS, ar_mkFunc, ar_mkIface, ar_mkSlice, ar_sl, ar_slStr, ar_fieldA, ar_field, ar_idxA, ar_idxArr, ar_idx, ar_idxS, ar_extract, ar_append, ar_len, ar_call, ar_callv, callvP_func, List.nil_append, List.cons_append, List.append_nil, ar_pf, ar_hf, ar_slA, upO_some, upO_none, sX_t, sX_c, sX_f, sXs, sXO, sXP, fin_t, fin_t2, fin_t3, up_same, up_ne, ne_eq, not_false_eq_true, AVal.bool.injEq, decide_eq_true_eq, decide_eq_false_iff_not, Int.ofNat_eq_natCast, Int.reduceNegSucc, Int.cast_ofNat_Int, reduceCtorEq, bin_lss, bin_leq, bin_gtr, bin_geq, bin_eql, bin_neq, bin_add, bin_sub, bin_mul, Bool.not_eq_true', Bool.not_eq_false', Bool.true_eq_false, Bool.false_eq_true, Nat.reduceEqDiff, ↓reduceIte, if_true, if_false, Nat.reduceAdd, Int.reduceEq, Int.reduceLT, Int.reduceLE, consK_app, OptKT_some, OptHT_some, OptST_some, kontT_app, tr_nil, tr_guard, tr_pick, tr_mv, tr_new, tr_box, tr_build, tr_buildSl, tr_load, tr_store, tr_nilChk, tr_bin, tr_un, tr_conv, tr_convSB, tr_convBS, tr_mkFunc, tr_mkIface, tr_mkSlice, tr_sl, tr_slStr, tr_fieldA, tr_field, tr_idxA, tr_idxArr, tr_idx, tr_idxS, tr_extract, tr_append, tr_len, tr_call, tr_callv, tr_pf, tr_hf, tr_slA]
  refine ⟨?_, by trivial, by trivial⟩
  simp only [ck_nil', ck_cons, ckP_load, ckP_nil, ck_end, and_true, true_and, List.map_cons, List.map_nil, pf_min, undef_bool, str_len, str_eql, str_neq, conv_in, un_not, eq_self, decide_true, decide_false, Bool.not_true, Bool.not_false, argE_0, argE_1, argE_2, argE_3, argE_4, aw_skip, aw_reg, aw_seq, aw_cond, aw_block, aw_exit, aw_ret, inSeq_normal, inSeq_exit, inSeq_ret, inBlk_exit, inBlk_normal, inBlk_ret, OptK_some, OptH_some, OptS_some, kont_app, ar_nil, ar_guard, ar_mv, ar_pick, ar_new, ar_box, ar_build, ar_buildSl, ar_load, ar_store, ar_nilChk, ar_bin, ar_un, ar_conv, ar_convSB, ar_convBS, ar_mkFunc, ar_mkIface, ar_mkSlice, ar_sl, ar_slStr, ar_fieldA, ar_field, ar_idxA, ar_idxArr, ar_idx, ar_idxS, ar_extract, ar_append, ar_len, ar_call, ar_callv, callvP_func, List.nil_append, List.cons_append, List.append_nil, ar_pf, ar_hf, ar_slA, upO_some, upO_none, sX_t, sX_c, sX_f, sXs, sXO, sXP, fin_t, fin_t2, fin_t3, up_same, up_ne, ne_eq, not_false_eq_true, AVal.bool.injEq, decide_eq_true_eq, decide_eq_false_iff_not, Int.ofNat_eq_natCast, Int.reduceNegSucc, Int.cast_ofNat_Int, reduceCtorEq, bin_lss, bin_leq, bin_gtr, bin_geq, bin_eql, bin_neq, bin_add, bin_sub, bin_mul, Bool.not_eq_true', Bool.not_eq_false', Bool.true_eq_false, Bool.false_eq_true, Nat.reduceEqDiff, ↓reduceIte, if_true, if_false, Nat.reduceAdd, Int.reduceEq, Int.reduceLT, Int.reduceLE]
  exact ⟨_, rfl, fun _ => ⟨_, qv, aeq_vec _ _ _⟩⟩
end Go.Proofs.Tx
/- Symbolic runs of the abstract machine, part 13: bytes that came in, out of the world; pairs of such. Plain Lean. -/
namespace Go.Abs.S
open Go.Abs Go.WideShapes Go.ChangeShapes
variable {H : Type} {enc : TypeId × Value → H}
theorem byte_wf {n : Int} (h : (Lit.int .u8 n).wf = true) : ((UInt8.ofNat n.toNat).toNat : Int) = n := by
  simp [Lit.wf, IntKind.min, IntKind.max, IntKind.signed, IntKind.bits] at h
  rw [UInt8.toNat_ofNat']
  omega
theorem arg_bytes {P : Program} {W : World} {base : Nat} {t e : TypeId} {v : Value} {d : DataW H} {p : List MemPlace} (ht : P.underlying t = some (.slice e)) (he : P.underlying e = some (.int .u8)) (hc : P.cellsOf e = 1)
    (hok : Value.okWide P W .any base t v) (h : DataW.Trod enc P W 0 (fun _ => true) true t v d p) :
    ∃ l : List UInt8, ArgS (heapW W).next (heapW W) (absW W v) (byts l) ∧ ((d = .nil ∧ l = []) ∨ ∃ el sp, d = .slice el sp ∧ el.length = l.length) ∧ (absW W v).one = true ∧ l.length ≤ maxLen := by
  obtain ⟨oa, len, cap, rfl⟩ := okWide_slice ht hok
  obtain ⟨fuel, hf⟩ := h
  rw [cells_slice _ rfl] at hf
  rcases open_ints ht he hc hf with ⟨h1, h2⟩ | ⟨a, len', cap', zs, h1, _, h3, h4, h5, h6, h7, h8⟩
  · simp only [List.cons.injEq, Value.slice.injEq, and_true] at h1
    obtain ⟨rfl, rfl, rfl⟩ := h1
    simp only [Prod.mk.injEq] at h2
    exact ⟨[], .inl ⟨by simp [absW, nilS], rfl⟩, .inl ⟨h2.1, rfl⟩, by simp [absW, AVal.one], by simp⟩
  · simp only [List.cons.injEq, Value.slice.injEq, and_true] at h1
    obtain ⟨rfl, rfl, rfl⟩ := h1
    simp only [if_true] at h5
    obtain ⟨q1, q2, n, q3, q4⟩ := okWide_room ht hok
    obtain ⟨c, off, spot⟩ := a
    simp only at q1 q3 q4
    subst q1
    simp only [Prod.mk.injEq] at h6
    have hlt : ((zs.take len).map fun n : Int => UInt8.ofNat n.toNat).length = len := by simp; omega
    have hcell : ∀ i, i < len → W.cell? ⟨c, off + i, none⟩ = some (.int .u8 (zs.getD i 0)) := fun i hi => by
      have := h7 i (by omega)
      rwa [add_none] at this
    have hb : off + len ≤ n := by
      by_cases h0 : len = 0
      · omega
      · obtain ⟨C, e', fz, g1, g2, _⟩ := objW_some q3
        have := hcell (len - 1) (by omega)
        rw [cell?_of g1] at this
        have := (Array.getElem?_eq_some_iff.1 this).1
        omega
    refine ⟨(zs.take len).map fun n : Int => UInt8.ofNat n.toNat, .inr ⟨⟨c, n, off⟩, cap, ?_, by rw [byts_len, hlt]; exact q2, ?_, ?_⟩, .inr ⟨_, _, h6.1, by simp [lits]⟩, ?_, by rw [hlt]; omega⟩
    · rw [byts_len, hlt]
      simp only [absW, q2, if_true, q3]
    · obtain ⟨C, e', fz, g1, _, _⟩ := objW_some q3
      exact (Array.getElem?_eq_some_iff.1 g1).1
    · rw [byts_len, hlt]
      refine rd_world q3 hb (by rw [byts_len, hlt]) fun i hi => ⟨_, hcell i hi, ?_⟩
      simp only [absW]
      have hz : i < zs.length := by omega
      have hw := h8 zs[i] (List.getElem_mem hz)
      have hg : ((zs.take len).map fun n : Int => UInt8.ofNat n.toNat)[i]? = some (UInt8.ofNat zs[i].toNat) := by
        rw [List.getElem?_map, List.getElem?_take_of_lt hi, List.getElem?_eq_getElem hz]; rfl
      rw [byts_get hg, byte_wf hw]
      simp [List.getD, hz]
    · simp only [absW, q2, if_true, q3, AVal.one]
/-- two of a kind -/
theorem pair_cells {P : Program} {W : World} {r : Reach} {base : Nat} {t e u : TypeId} {v : Value} {d : DataW H} {p : List MemPlace} (ha : P.underlying t = some (.array 2 e)) (hc : P.cellsOf t = 2) (hce : P.cellsOf e = 1) (hts : P.cellTypes P.depth t = some [u, u])
    (h : Value.okWide P W r base t v) (hd : DataW.Trod enc P W 0 (fun _ => true) true t v d p) :
    ∃ x y d1 p1 d2 p2, v = .agg #[x, y] ∧ Cell.okWide P W r base u x ∧ Cell.okWide P W r base u y ∧ (∃ n, DataW.trod enc P W 0 (fun _ => true) true n e [x] = some (d1, p1)) ∧ (∃ n, DataW.trod enc P W 0 (fun _ => true) true n e [y] = some (d2, p2)) := by
  simp only [Value.okWide, ha] at h
  obtain ⟨cs, rfl, hs, ts, h1, _, h2⟩ := h
  rw [hts] at h1
  simp only [Option.some.injEq] at h1
  subst h1
  rw [hc] at hs
  obtain ⟨fuel, hf⟩ := hd
  obtain ⟨xs, m, _, hx, hl, hn, hi⟩ := DataW.trod_array ha hf
  obtain ⟨x, y, rfl⟩ : ∃ x y, cs = #[x, y] := by
    refine ⟨cs[0]'(by omega), cs[1]'(by omega), ?_⟩
    apply Array.ext
    · simp [hs]
    · intro i h1 h2
      match i with
      | 0 => rfl
      | 1 => rfl
      | n + 2 => omega
  obtain ⟨u0, a1, a2⟩ := h2 0 x rfl
  obtain ⟨u1, b1, b2⟩ := h2 1 y rfl
  have a1 : some u = some u0 := a1
  have b1 : some u = some u1 := b1
  simp only [Option.some.injEq] at a1 b1
  subst a1
  subst b1
  have i0 := hi 0 (by omega)
  have i1 := hi 1 (by omega)
  rw [hce] at i0 i1
  have x0 : ∃ z, xs[0]? = some z := ⟨xs[0]'(by omega), List.getElem?_eq_getElem _⟩
  have x1 : ∃ z, xs[1]? = some z := ⟨xs[1]'(by omega), List.getElem?_eq_getElem _⟩
  obtain ⟨z0, x0⟩ := x0
  obtain ⟨z1, x1⟩ := x1
  rw [x0] at i0
  rw [x1] at i1
  have e0 : (List.drop (0 * 1) (Value.agg #[x, y]).cells.toList).take 1 = [x] := rfl
  have e1 : (List.drop (1 * 1) (Value.agg #[x, y]).cells.toList).take 1 = [y] := rfl
  rw [e0] at i0
  rw [e1] at i1
  exact ⟨x, y, z0.1, z0.2, z1.1, z1.2, rfl, a2, b2, ⟨m, i0⟩, ⟨m, i1⟩⟩
end Go.Abs.S
