/- Part of a proof (X3 X4 X5); no condition. -/
import Derived.Test.YteaedppacbpifaaGreatP8
set_option linter.unusedSimpArgs false
set_option linter.unusedVariables false
set_option linter.unnecessarySimpa false
/- Texture: quotients of the program and of the document: the contracts. -/
namespace Go.Proofs.Tx
open Go.Abs Go.Abs.S
set_option linter.unusedSimpArgs false
variable {N : ANat}
/-- a loop that is left in its first round -/
theorem aw_loop1 {C : CS} (hC : CMono C) {c : ACode} {Q : Post} {T : Env} {H : AHeap} (h : wp C c (inSeq Q fun _ _ => False) T H) : wp C (.loop c) Q T H := by
  refine aw_loop (fun _ T' H' => T' = T ∧ H' = H) 0 ⟨rfl, rfl⟩ ?_
  rintro m T' H' ⟨rfl, rfl⟩
  exact wp_mono' hC c (fun e T H hq => inSeq_mono (fun _ _ _ h => h) (fun _ _ h => h.elim) e T H hq) h
theorem div_step {a b m q r : Nat} (e : a * 4294967296 / 2 ^ (m + 1) = q * b + r) : a * 4294967296 / 2 ^ m = 2 * (q * b) + 2 * r + a * 4294967296 / 2 ^ m % 2 := by
  have : a * 4294967296 / 2 ^ m / 2 = q * b + r := by rw [Nat.div_div_eq_div_mul, ← Nat.pow_succ]; exact e
  omega
theorem div_high {a m : Nat} (h : 32 ≤ m) : a * 4294967296 / 2 ^ m = a / 2 ^ (m - 32) := by
  obtain ⟨k, rfl⟩ : ∃ k, m = k + 32 := ⟨m - 32, by omega⟩
  rw [Nat.add_sub_cancel, Nat.pow_add, show (2 : Nat) ^ 32 = 4294967296 from rfl]
  exact Nat.mul_div_mul_right _ _ (by decide)
theorem div_low {a m : Nat} (h : m < 32) : a * 4294967296 / 2 ^ m % 2 = 0 := by
  obtain ⟨k, hk⟩ : ∃ k, 32 = m + (k + 1) := ⟨31 - m, by omega⟩
  have e : a * 4294967296 = a * 2 ^ (k + 1) * 2 ^ m := by
    rw [show (4294967296 : Nat) = 2 ^ 32 from rfl, hk, Nat.pow_add, Nat.mul_assoc, Nat.mul_comm (2 ^ (k + 1))]
  rw [e, Nat.mul_div_cancel _ (Nat.two_pow_pos m), Nat.pow_succ, ← Nat.mul_assoc]
  omega
set_option maxHeartbeats 1000000 in
theorem rdiv_spec (h14 : N.is 14 = false) (h29 : N.is 29 = false) (h30 : N.is 30 = false) {a b : Nat} (ha : a < 9223372036854775808) (hb0 : 0 < b) (hb : b < 9223372036854775808) (hq : a * 4294967296 / b < 9223372036854775808) {H : AHeap} :
    ACalls Tryz.prog N 14 [.int .i64 (a : Int), .int .i64 (b : Int)] H fun v H' => v = .int .i64 ((a * 4294967296 / b : Nat) : Int) ∧ H = H' := by
  refine acalls_ofN h14 za14 rfl ?_
  have g0 : ¬ (b : Int) = 0 := by omega
  simp only [c14, pf_min, undef_bool, str_len, str_eql, str_neq, conv_in, un_not, eq_self, decide_true, decide_false, Bool.not_true, Bool.not_false, argE_0, argE_1, argE_2, argE_3, argE_4, aw_skip, aw_reg, aw_seq, aw_cond, aw_block, aw_exit, aw_ret, inSeq_normal, inSeq_exit, inSeq_ret, inBlk_exit, inBlk_normal, inBlk_ret, OptK_some, OptH_some, OptS_some, kont_app, ar_nil, ar_guard, ar_mv, ar_pick, ar_new, ar_box, ar_build, ar_buildSl, ar_load, ar_store, ar_nilChk, ar_bin, ar_un, ar_conv, ar_convSB, ar_convBS, ar_mkFunc, ar_mkIface, ar_mkSlice, ar_sl, ar_slStr, ar_fieldA, ar_field, ar_idxA, ar_idxArr, ar_idx, ar_idxS, ar_extract, ar_append, ar_len, ar_call, ar_callv, callvP_func, List.nil_append, List.cons_append, List.append_nil, ar_pf, ar_hf, ar_slA, upO_some, upO_none, sX_t, sX_c, sX_f, sXs, sXO, sXP, fin_t, fin_t2, fin_t3, up_same, up_ne, ne_eq, not_false_eq_true, AVal.bool.injEq, decide_eq_true_eq, decide_eq_false_iff_not, Int.ofNat_eq_natCast, Int.reduceNegSucc, Int.cast_ofNat_Int, reduceCtorEq, bin_lss, bin_leq, bin_gtr, bin_geq, bin_eql, bin_neq, bin_add, bin_sub, bin_mul, Bool.not_eq_true', Bool.not_eq_false', Bool.true_eq_false, Bool.false_eq_true, Nat.reduceEqDiff, ↓reduceIte, if_true, if_false, Nat.reduceAdd, Int.reduceEq, Int.reduceLT, Int.reduceLE, g0]
  refine (rsize_spec h29 ha).mono ?_
  rintro v _ ⟨rfl, rfl⟩
  simp only [pf_min, undef_bool, str_len, str_eql, str_neq, conv_in, un_not, eq_self, decide_true, decide_false, Bool.not_true, Bool.not_false, argE_0, argE_1, argE_2, argE_3, argE_4, aw_skip, aw_reg, aw_seq, aw_cond, aw_block, aw_exit, aw_ret, inSeq_normal, inSeq_exit, inSeq_ret, inBlk_exit, inBlk_normal, inBlk_ret, OptK_some, OptH_some, OptS_some, kont_app, ar_nil, ar_guard, ar_mv, ar_pick, ar_new, ar_box, ar_build, ar_buildSl, ar_load, ar_store, ar_nilChk, ar_bin, ar_un, ar_conv, ar_convSB, ar_convBS, ar_mkFunc, ar_mkIface, ar_mkSlice, ar_sl, ar_slStr, ar_fieldA, ar_field, ar_idxA, ar_idxArr, ar_idx, ar_idxS, ar_extract, ar_append, ar_len, ar_call, ar_callv, callvP_func, List.nil_append, List.cons_append, List.append_nil, ar_pf, ar_hf, ar_slA, upO_some, upO_none, sX_t, sX_c, sX_f, sXs, sXO, sXP, fin_t, fin_t2, fin_t3, up_same, up_ne, ne_eq, not_false_eq_true, AVal.bool.injEq, decide_eq_true_eq, decide_eq_false_iff_not, Int.ofNat_eq_natCast, Int.reduceNegSucc, Int.cast_ofNat_Int, reduceCtorEq, bin_lss, bin_leq, bin_gtr, bin_geq, bin_eql, bin_neq, bin_add, bin_sub, bin_mul, Bool.not_eq_true', Bool.not_eq_false', Bool.true_eq_false, Bool.false_eq_true, Nat.reduceEqDiff, ↓reduceIte, if_true, if_false, Nat.reduceAdd, Int.reduceEq, Int.reduceLT, Int.reduceLE]
  refine (rsize_spec h29 hb).mono ?_
  rintro v _ ⟨rfl, rfl⟩
  simp only [pf_min, undef_bool, str_len, str_eql, str_neq, conv_in, un_not, eq_self, decide_true, decide_false, Bool.not_true, Bool.not_false, argE_0, argE_1, argE_2, argE_3, argE_4, aw_skip, aw_reg, aw_seq, aw_cond, aw_block, aw_exit, aw_ret, inSeq_normal, inSeq_exit, inSeq_ret, inBlk_exit, inBlk_normal, inBlk_ret, OptK_some, OptH_some, OptS_some, kont_app, ar_nil, ar_guard, ar_mv, ar_pick, ar_new, ar_box, ar_build, ar_buildSl, ar_load, ar_store, ar_nilChk, ar_bin, ar_un, ar_conv, ar_convSB, ar_convBS, ar_mkFunc, ar_mkIface, ar_mkSlice, ar_sl, ar_slStr, ar_fieldA, ar_field, ar_idxA, ar_idxArr, ar_idx, ar_idxS, ar_extract, ar_append, ar_len, ar_call, ar_callv, callvP_func, List.nil_append, List.cons_append, List.append_nil, ar_pf, ar_hf, ar_slA, upO_some, upO_none, sX_t, sX_c, sX_f, sXs, sXO, sXP, fin_t, fin_t2, fin_t3, up_same, up_ne, ne_eq, not_false_eq_true, AVal.bool.injEq, decide_eq_true_eq, decide_eq_false_iff_not, Int.ofNat_eq_natCast, Int.reduceNegSucc, Int.cast_ofNat_Int, reduceCtorEq, bin_lss, bin_leq, bin_gtr, bin_geq, bin_eql, bin_neq, bin_add, bin_sub, bin_mul, Bool.not_eq_true', Bool.not_eq_false', Bool.true_eq_false, Bool.false_eq_true, Nat.reduceEqDiff, ↓reduceIte, if_true, if_false, Nat.reduceAdd, Int.reduceEq, Int.reduceLT, Int.reduceLE]
  refine aw_loop (fun k (T : Env) H' => ∃ m q r : Nat, m ≤ 96 ∧ k = m ∧ T 0 = .int .i64 (a : Int) ∧ T 1 = .int .i64 (b : Int) ∧ T 5 = .int .u64 (a : Int) ∧ T 6 = .int .u64 (b : Int) ∧ T 7 = .int .u64 ((q / 18446744073709551616 : Nat) : Int) ∧ T 8 = .int .u64 ((q % 18446744073709551616 : Nat) : Int) ∧
      T 9 = .int .u64 (r : Int) ∧ T 10 = .int .i64 ((m : Int) - 1) ∧ r < b ∧ a * 4294967296 / 2 ^ m = q * b + r ∧ H = H') 96 ⟨96, 0, 0, Nat.le_refl _, rfl, rfl, rfl, by simp only [pf_min, undef_bool, str_len, str_eql, str_neq, conv_in, un_not, eq_self, decide_true, decide_false, Bool.not_true, Bool.not_false, argE_0, argE_1, argE_2, argE_3, argE_4, aw_skip, aw_reg, aw_seq, aw_cond, aw_block, aw_exit, aw_ret, inSeq_normal, inSeq_exit, inSeq_ret, inBlk_exit, inBlk_normal, inBlk_ret, OptK_some, OptH_some, OptS_some, kont_app, ar_nil, ar_guard, ar_mv, ar_pick, ar_new, ar_box, ar_build, ar_buildSl, ar_load, ar_store, ar_nilChk, ar_bin, ar_un, ar_conv, ar_convSB, ar_convBS, ar_mkFunc, ar_mkIface, ar_mkSlice, ar_sl, ar_slStr, ar_fieldA, ar_field, ar_idxA, ar_idxArr, ar_idx, ar_idxS, ar_extract, ar_append, ar_len, ar_call, ar_callv, callvP_func, List.nil_append, List.cons_append, List.append_nil, ar_pf, ar_hf, ar_slA, upO_some, upO_none, sX_t, sX_c, sX_f, sXs, sXO, sXP, fin_t, fin_t2, fin_t3, up_same, up_ne, ne_eq, not_false_eq_true, AVal.bool.injEq, decide_eq_true_eq, decide_eq_false_iff_not, Int.ofNat_eq_natCast, Int.reduceNegSucc, Int.cast_ofNat_Int, reduceCtorEq, bin_lss, bin_leq, bin_gtr, bin_geq, bin_eql, bin_neq, bin_add, bin_sub, bin_mul, Bool.not_eq_true', Bool.not_eq_false', Bool.true_eq_false, Bool.false_eq_true, Nat.reduceEqDiff, ↓reduceIte, if_true, if_false, Nat.reduceAdd, Int.reduceEq, Int.reduceLT, Int.reduceLE], by simp only [pf_min, undef_bool, str_len, str_eql, str_neq, conv_in, un_not, eq_self, decide_true, decide_false, Bool.not_true, Bool.not_false, argE_0, argE_1, argE_2, argE_3, argE_4, aw_skip, aw_reg, aw_seq, aw_cond, aw_block, aw_exit, aw_ret, inSeq_normal, inSeq_exit, inSeq_ret, inBlk_exit, inBlk_normal, inBlk_ret, OptK_some, OptH_some, OptS_some, kont_app, ar_nil, ar_guard, ar_mv, ar_pick, ar_new, ar_box, ar_build, ar_buildSl, ar_load, ar_store, ar_nilChk, ar_bin, ar_un, ar_conv, ar_convSB, ar_convBS, ar_mkFunc, ar_mkIface, ar_mkSlice, ar_sl, ar_slStr, ar_fieldA, ar_field, ar_idxA, ar_idxArr, ar_idx, ar_idxS, ar_extract, ar_append, ar_len, ar_call, ar_callv, callvP_func, List.nil_append, List.cons_append, List.append_nil, ar_pf, ar_hf, ar_slA, upO_some, upO_none, sX_t, sX_c, sX_f, sXs, sXO, sXP, fin_t, fin_t2, fin_t3, up_same, up_ne, ne_eq, not_false_eq_true, AVal.bool.injEq, decide_eq_true_eq, decide_eq_false_iff_not, Int.ofNat_eq_natCast, Int.reduceNegSucc, Int.cast_ofNat_Int, reduceCtorEq, bin_lss, bin_leq, bin_gtr, bin_geq, bin_eql, bin_neq, bin_add, bin_sub, bin_mul, Bool.not_eq_true', Bool.not_eq_false', Bool.true_eq_false, Bool.false_eq_true, Nat.reduceEqDiff, ↓reduceIte, if_true, if_false, Nat.reduceAdd, Int.reduceEq, Int.reduceLT, Int.reduceLE], by simp only [pf_min, undef_bool, str_len, str_eql, str_neq, conv_in, un_not, eq_self, decide_true, decide_false, Bool.not_true, Bool.not_false, argE_0, argE_1, argE_2, argE_3, argE_4, aw_skip, aw_reg, aw_seq, aw_cond, aw_block, aw_exit, aw_ret, inSeq_normal, inSeq_exit, inSeq_ret, inBlk_exit, inBlk_normal, inBlk_ret, OptK_some, OptH_some, OptS_some, kont_app, ar_nil, ar_guard, ar_mv, ar_pick, ar_new, ar_box, ar_build, ar_buildSl, ar_load, ar_store, ar_nilChk, ar_bin, ar_un, ar_conv, ar_convSB, ar_convBS, ar_mkFunc, ar_mkIface, ar_mkSlice, ar_sl, ar_slStr, ar_fieldA, ar_field, ar_idxA, ar_idxArr, ar_idx, ar_idxS, ar_extract, ar_append, ar_len, ar_call, ar_callv, callvP_func, List.nil_append, List.cons_append, List.append_nil, ar_pf, ar_hf, ar_slA, upO_some, upO_none, sX_t, sX_c, sX_f, sXs, sXO, sXP, fin_t, fin_t2, fin_t3, up_same, up_ne, ne_eq, not_false_eq_true, AVal.bool.injEq, decide_eq_true_eq, decide_eq_false_iff_not, Int.ofNat_eq_natCast, Int.reduceNegSucc, Int.cast_ofNat_Int, reduceCtorEq, bin_lss, bin_leq, bin_gtr, bin_geq, bin_eql, bin_neq, bin_add, bin_sub, bin_mul, Bool.not_eq_true', Bool.not_eq_false', Bool.true_eq_false, Bool.false_eq_true, Nat.reduceEqDiff, ↓reduceIte, if_true, if_false, Nat.reduceAdd, Int.reduceEq, Int.reduceLT, Int.reduceLE] <;> rfl, by simp only [pf_min, undef_bool, str_len, str_eql, str_neq, conv_in, un_not, eq_self, decide_true, decide_false, Bool.not_true, Bool.not_false, argE_0, argE_1, argE_2, argE_3, argE_4, aw_skip, aw_reg, aw_seq, aw_cond, aw_block, aw_exit, aw_ret, inSeq_normal, inSeq_exit, inSeq_ret, inBlk_exit, inBlk_normal, inBlk_ret, OptK_some, OptH_some, OptS_some, kont_app, ar_nil, ar_guard, ar_mv, ar_pick, ar_new, ar_box, ar_build, ar_buildSl, ar_load, ar_store, ar_nilChk, ar_bin, ar_un, ar_conv, ar_convSB, ar_convBS, ar_mkFunc, ar_mkIface, ar_mkSlice, ar_sl, ar_slStr, ar_fieldA, ar_field, ar_idxA, ar_idxArr, ar_idx, ar_idxS, ar_extract, ar_append, ar_len, ar_call, ar_callv, callvP_func, List.nil_append, List.cons_append, List.append_nil, ar_pf, ar_hf, ar_slA, upO_some, upO_none, sX_t, sX_c, sX_f, sXs, sXO, sXP, fin_t, fin_t2, fin_t3, up_same, up_ne, ne_eq, not_false_eq_true, AVal.bool.injEq, decide_eq_true_eq, decide_eq_false_iff_not, Int.ofNat_eq_natCast, Int.reduceNegSucc, Int.cast_ofNat_Int, reduceCtorEq, bin_lss, bin_leq, bin_gtr, bin_geq, bin_eql, bin_neq, bin_add, bin_sub, bin_mul, Bool.not_eq_true', Bool.not_eq_false', Bool.true_eq_false, Bool.false_eq_true, Nat.reduceEqDiff, ↓reduceIte, if_true, if_false, Nat.reduceAdd, Int.reduceEq, Int.reduceLT, Int.reduceLE] <;> rfl, by simp only [pf_min, undef_bool, str_len, str_eql, str_neq, conv_in, un_not, eq_self, decide_true, decide_false, Bool.not_true, Bool.not_false, argE_0, argE_1, argE_2, argE_3, argE_4, aw_skip, aw_reg, aw_seq, aw_cond, aw_block, aw_exit, aw_ret, inSeq_normal, inSeq_exit, inSeq_ret, inBlk_exit, inBlk_normal, inBlk_ret, OptK_some, OptH_some, OptS_some, kont_app, ar_nil, ar_guard, ar_mv, ar_pick, ar_new, ar_box, ar_build, ar_buildSl, ar_load, ar_store, ar_nilChk, ar_bin, ar_un, ar_conv, ar_convSB, ar_convBS, ar_mkFunc, ar_mkIface, ar_mkSlice, ar_sl, ar_slStr, ar_fieldA, ar_field, ar_idxA, ar_idxArr, ar_idx, ar_idxS, ar_extract, ar_append, ar_len, ar_call, ar_callv, callvP_func, List.nil_append, List.cons_append, List.append_nil, ar_pf, ar_hf, ar_slA, upO_some, upO_none, sX_t, sX_c, sX_f, sXs, sXO, sXP, fin_t, fin_t2, fin_t3, up_same, up_ne, ne_eq, not_false_eq_true, AVal.bool.injEq, decide_eq_true_eq, decide_eq_false_iff_not, Int.ofNat_eq_natCast, Int.reduceNegSucc, Int.cast_ofNat_Int, reduceCtorEq, bin_lss, bin_leq, bin_gtr, bin_geq, bin_eql, bin_neq, bin_add, bin_sub, bin_mul, Bool.not_eq_true', Bool.not_eq_false', Bool.true_eq_false, Bool.false_eq_true, Nat.reduceEqDiff, ↓reduceIte, if_true, if_false, Nat.reduceAdd, Int.reduceEq, Int.reduceLT, Int.reduceLE] <;> rfl, by simp only [pf_min, undef_bool, str_len, str_eql, str_neq, conv_in, un_not, eq_self, decide_true, decide_false, Bool.not_true, Bool.not_false, argE_0, argE_1, argE_2, argE_3, argE_4, aw_skip, aw_reg, aw_seq, aw_cond, aw_block, aw_exit, aw_ret, inSeq_normal, inSeq_exit, inSeq_ret, inBlk_exit, inBlk_normal, inBlk_ret, OptK_some, OptH_some, OptS_some, kont_app, ar_nil, ar_guard, ar_mv, ar_pick, ar_new, ar_box, ar_build, ar_buildSl, ar_load, ar_store, ar_nilChk, ar_bin, ar_un, ar_conv, ar_convSB, ar_convBS, ar_mkFunc, ar_mkIface, ar_mkSlice, ar_sl, ar_slStr, ar_fieldA, ar_field, ar_idxA, ar_idxArr, ar_idx, ar_idxS, ar_extract, ar_append, ar_len, ar_call, ar_callv, callvP_func, List.nil_append, List.cons_append, List.append_nil, ar_pf, ar_hf, ar_slA, upO_some, upO_none, sX_t, sX_c, sX_f, sXs, sXO, sXP, fin_t, fin_t2, fin_t3, up_same, up_ne, ne_eq, not_false_eq_true, AVal.bool.injEq, decide_eq_true_eq, decide_eq_false_iff_not, Int.ofNat_eq_natCast, Int.reduceNegSucc, Int.cast_ofNat_Int, reduceCtorEq, bin_lss, bin_leq, bin_gtr, bin_geq, bin_eql, bin_neq, bin_add, bin_sub, bin_mul, Bool.not_eq_true', Bool.not_eq_false', Bool.true_eq_false, Bool.false_eq_true, Nat.reduceEqDiff, ↓reduceIte, if_true, if_false, Nat.reduceAdd, Int.reduceEq, Int.reduceLT, Int.reduceLE] <;> rfl, hb0, by rw [Nat.zero_mul, Nat.add_zero]; exact Nat.div_eq_of_lt (by rw [show (2 : Nat) ^ 96 = 18446744073709551616 * 4294967296 from rfl]; omega), rfl⟩ ?_
  rintro k T _ ⟨m, q, r, hm, rfl, g0', g1, g5, g6, g7, g8, g9, g10, hr, hX, rfl⟩
  have hqle : q ≤ a * 4294967296 := by
    have h1 : q * 1 ≤ q * b := Nat.mul_le_mul_left q hb0
    have h2 := Nat.div_le_self (a * 4294967296) (2 ^ k)
    omega
  cases k with
  | succ m =>
    have hst := div_step hX
    have hlt : (0 : Int) ≤ (m + 1 : Nat) - 1 := by omega
    have e10 : ((m + 1 : Nat) : Int) - 1 = (m : Int) := by omega
    have w1 : IntKind.u64.wrap (2 * (r : Int)) = ((2 * r : Nat) : Int) := by rw [IntKind.wrap_u64]; omega
    have w2 : IntKind.u64.wrap (2 * ((q / 18446744073709551616 : Nat) : Int)) = ((2 * (q / 18446744073709551616) : Nat) : Int) := by rw [IntKind.wrap_u64]; omega
    have w3 : IntKind.u64.wrap (((2 * (q / 18446744073709551616) : Nat) : Int) + ((q % 18446744073709551616 / 9223372036854775808 : Nat) : Int)) = ((2 * q / 18446744073709551616 : Nat) : Int) := by rw [IntKind.wrap_u64]; omega
    have w4 : IntKind.u64.wrap (2 * ((q % 18446744073709551616 : Nat) : Int)) = ((2 * q % 18446744073709551616 : Nat) : Int) := by rw [IntKind.wrap_u64]; omega
    have w5 : IntKind.u64.wrap (((2 * q % 18446744073709551616 : Nat) : Int) + 1) = (((2 * q + 1) % 18446744073709551616 : Nat) : Int) := by rw [IntKind.wrap_u64]; omega
    have w6 : IntKind.i64.wrap ((m : Int) - 1) = (m : Int) - 1 := wrap64 (by omega) (by omega)
    have e1 : (2 * q) * b = 2 * (q * b) := Nat.mul_assoc _ _ _
    have e2 : (2 * q + 1) * b = 2 * (q * b) + b := by rw [Nat.add_mul, Nat.one_mul, e1]
    have e7 : ((2 * q / 18446744073709551616 : Nat) : Int) = (((2 * q + 1) / 18446744073709551616 : Nat) : Int) := by omega
    obtain ⟨bit, hbit⟩ : ∃ bit, bit = a * 4294967296 / 2 ^ m % 2 := ⟨_, rfl⟩
    have hb2 : bit < 2 := by omega
    rw [← hbit] at hst
    by_cases h32 : 32 ≤ m
    · have h32' : (32 : Int) ≤ (m : Int) := by omega
      have s1 : IntKind.i64.wrap ((m : Int) - 32) = ((m - 32 : Nat) : Int) := by rw [wrap64 (by omega) (by omega)]; omega
      have s2 : IntKind.u64.wrap ((m - 32 : Nat) : Int) = ((m - 32 : Nat) : Int) := uw (by omega)
      have s3 := shrN .u64 .u64 a (b := m - 32) (by show m - 32 ≤ 64; omega)
      have ha2 : a / 2 ^ (m - 32) < 2 ^ 64 := Nat.lt_of_le_of_lt (Nat.div_le_self _ _) (by omega)
      have s4 := bin_andU64 (a := a / 2 ^ (m - 32)) (b := 1) ha2 (by omega)
      rw [Nat.and_one_is_mod, ← div_high h32, ← hbit] at s4
      rw [← div_high h32] at s3
      have s5 : IntKind.u64.wrap (((2 * r : Nat) : Int) + (bit : Int)) = ((2 * r + bit : Nat) : Int) := wadd (by omega)
      have s4' : aBin .and (.int .u64 ((a * 4294967296 / 2 ^ m : Nat) : Int)) (.int .u64 1) = some (.int .u64 (bit : Int)) := s4
      by_cases hge : b ≤ 2 * r + bit
      · have hge' : (b : Int) ≤ ((2 * r + bit : Nat) : Int) := by omega
        have s6 : IntKind.u64.wrap (((2 * r + bit : Nat) : Int) - (b : Int)) = ((2 * r + bit - b : Nat) : Int) := wsub hge (by omega)
        simp only [pf_min, undef_bool, str_len, str_eql, str_neq, conv_in, un_not, eq_self, decide_true, decide_false, Bool.not_true, Bool.not_false, argE_0, argE_1, argE_2, argE_3, argE_4, aw_skip, aw_reg, aw_seq, aw_cond, aw_block, aw_exit, aw_ret, inSeq_normal, inSeq_exit, inSeq_ret, inBlk_exit, inBlk_normal, inBlk_ret, OptK_some, OptH_some, OptS_some, kont_app, ar_nil, ar_guard, ar_mv, ar_pick, ar_new, ar_box, ar_build, ar_buildSl, ar_load, ar_store, ar_nilChk, ar_bin, ar_un, ar_conv, ar_convSB, ar_convBS, ar_mkFunc, ar_mkIface, ar_mkSlice, ar_sl, ar_slStr, ar_fieldA, ar_field, ar_idxA, ar_idxArr, ar_idx, ar_idxS, ar_extract, ar_append, ar_len, ar_call, ar_callv, callvP_func, List.nil_append, List.cons_append, List.append_nil, ar_pf, ar_hf, ar_slA, upO_some, upO_none, sX_t, sX_c, sX_f, sXs, sXO, sXP, fin_t, fin_t2, fin_t3, up_same, up_ne, ne_eq, not_false_eq_true, AVal.bool.injEq, decide_eq_true_eq, decide_eq_false_iff_not, Int.ofNat_eq_natCast, Int.reduceNegSucc, Int.cast_ofNat_Int, reduceCtorEq, bin_lss, bin_leq, bin_gtr, bin_geq, bin_eql, bin_neq, bin_add, bin_sub, bin_mul, Bool.not_eq_true', Bool.not_eq_false', Bool.true_eq_false, Bool.false_eq_true, Nat.reduceEqDiff, ↓reduceIte, if_true, if_false, Nat.reduceAdd, Int.reduceEq, Int.reduceLT, Int.reduceLE, g5, g6, g7, g8, g9, g10, hlt, e10, h32', w1, w2, w3, w4, w5, w6, s1, s2, s3, s4', s5, s6, shr63, hge', g0', g1]
        exact ⟨_, Nat.lt_succ_self _, m, 2 * q + 1, 2 * r + bit - b, by omega, rfl, by trivial, by trivial, by trivial, by trivial, by rw [e7], by trivial, by trivial, by trivial, by omega, by omega, by trivial⟩
      · have hge' : ¬ (b : Int) ≤ ((2 * r + bit : Nat) : Int) := by omega
        simp only [pf_min, undef_bool, str_len, str_eql, str_neq, conv_in, un_not, eq_self, decide_true, decide_false, Bool.not_true, Bool.not_false, argE_0, argE_1, argE_2, argE_3, argE_4, aw_skip, aw_reg, aw_seq, aw_cond, aw_block, aw_exit, aw_ret, inSeq_normal, inSeq_exit, inSeq_ret, inBlk_exit, inBlk_normal, inBlk_ret, OptK_some, OptH_some, OptS_some, kont_app, ar_nil, ar_guard, ar_mv, ar_pick, ar_new, ar_box, ar_build, ar_buildSl, ar_load, ar_store, ar_nilChk, ar_bin, ar_un, ar_conv, ar_convSB, ar_convBS, ar_mkFunc, ar_mkIface, ar_mkSlice, ar_sl, ar_slStr, ar_fieldA, ar_field, ar_idxA, ar_idxArr, ar_idx, ar_idxS, ar_extract, ar_append, ar_len, ar_call, ar_callv, callvP_func, List.nil_append, List.cons_append, List.append_nil, ar_pf, ar_hf, ar_slA, upO_some, upO_none, sX_t, sX_c, sX_f, sXs, sXO, sXP, fin_t, fin_t2, fin_t3, up_same, up_ne, ne_eq, not_false_eq_true, AVal.bool.injEq, decide_eq_true_eq, decide_eq_false_iff_not, Int.ofNat_eq_natCast, Int.reduceNegSucc, Int.cast_ofNat_Int, reduceCtorEq, bin_lss, bin_leq, bin_gtr, bin_geq, bin_eql, bin_neq, bin_add, bin_sub, bin_mul, Bool.not_eq_true', Bool.not_eq_false', Bool.true_eq_false, Bool.false_eq_true, Nat.reduceEqDiff, ↓reduceIte, if_true, if_false, Nat.reduceAdd, Int.reduceEq, Int.reduceLT, Int.reduceLE, g5, g6, g7, g8, g9, g10, hlt, e10, h32', w1, w2, w3, w4, w5, w6, s1, s2, s3, s4', s5, shr63, hge', g0', g1]
        exact ⟨_, Nat.lt_succ_self _, m, 2 * q, 2 * r + bit, by omega, rfl, by trivial, by trivial, by trivial, by trivial, by trivial, by trivial, by trivial, by trivial, by omega, by omega, by trivial⟩
    · have h32' : ¬ (32 : Int) ≤ (m : Int) := by omega
      have hz : bit = 0 := by rw [hbit]; exact div_low (by omega)
      by_cases hge : b ≤ 2 * r
      · have hge' : (b : Int) ≤ ((2 * r : Nat) : Int) := by omega
        have s6 : IntKind.u64.wrap (((2 * r : Nat) : Int) - (b : Int)) = ((2 * r - b : Nat) : Int) := wsub hge (by omega)
        simp only [pf_min, undef_bool, str_len, str_eql, str_neq, conv_in, un_not, eq_self, decide_true, decide_false, Bool.not_true, Bool.not_false, argE_0, argE_1, argE_2, argE_3, argE_4, aw_skip, aw_reg, aw_seq, aw_cond, aw_block, aw_exit, aw_ret, inSeq_normal, inSeq_exit, inSeq_ret, inBlk_exit, inBlk_normal, inBlk_ret, OptK_some, OptH_some, OptS_some, kont_app, ar_nil, ar_guard, ar_mv, ar_pick, ar_new, ar_box, ar_build, ar_buildSl, ar_load, ar_store, ar_nilChk, ar_bin, ar_un, ar_conv, ar_convSB, ar_convBS, ar_mkFunc, ar_mkIface, ar_mkSlice, ar_sl, ar_slStr, ar_fieldA, ar_field, ar_idxA, ar_idxArr, ar_idx, ar_idxS, ar_extract, ar_append, ar_len, ar_call, ar_callv, callvP_func, List.nil_append, List.cons_append, List.append_nil, ar_pf, ar_hf, ar_slA, upO_some, upO_none, sX_t, sX_c, sX_f, sXs, sXO, sXP, fin_t, fin_t2, fin_t3, up_same, up_ne, ne_eq, not_false_eq_true, AVal.bool.injEq, decide_eq_true_eq, decide_eq_false_iff_not, Int.ofNat_eq_natCast, Int.reduceNegSucc, Int.cast_ofNat_Int, reduceCtorEq, bin_lss, bin_leq, bin_gtr, bin_geq, bin_eql, bin_neq, bin_add, bin_sub, bin_mul, Bool.not_eq_true', Bool.not_eq_false', Bool.true_eq_false, Bool.false_eq_true, Nat.reduceEqDiff, ↓reduceIte, if_true, if_false, Nat.reduceAdd, Int.reduceEq, Int.reduceLT, Int.reduceLE, g5, g6, g7, g8, g9, g10, hlt, e10, h32', w1, w2, w3, w4, w5, w6, s6, shr63, hge', g0', g1]
        exact ⟨_, Nat.lt_succ_self _, m, 2 * q + 1, 2 * r - b, by omega, rfl, by trivial, by trivial, by trivial, by trivial, by rw [e7], by trivial, by trivial, by trivial, by omega, by omega, by trivial⟩
      · have hge' : ¬ (b : Int) ≤ ((2 * r : Nat) : Int) := by omega
        simp only [pf_min, undef_bool, str_len, str_eql, str_neq, conv_in, un_not, eq_self, decide_true, decide_false, Bool.not_true, Bool.not_false, argE_0, argE_1, argE_2, argE_3, argE_4, aw_skip, aw_reg, aw_seq, aw_cond, aw_block, aw_exit, aw_ret, inSeq_normal, inSeq_exit, inSeq_ret, inBlk_exit, inBlk_normal, inBlk_ret, OptK_some, OptH_some, OptS_some, kont_app, ar_nil, ar_guard, ar_mv, ar_pick, ar_new, ar_box, ar_build, ar_buildSl, ar_load, ar_store, ar_nilChk, ar_bin, ar_un, ar_conv, ar_convSB, ar_convBS, ar_mkFunc, ar_mkIface, ar_mkSlice, ar_sl, ar_slStr, ar_fieldA, ar_field, ar_idxA, ar_idxArr, ar_idx, ar_idxS, ar_extract, ar_append, ar_len, ar_call, ar_callv, callvP_func, List.nil_append, List.cons_append, List.append_nil, ar_pf, ar_hf, ar_slA, upO_some, upO_none, sX_t, sX_c, sX_f, sXs, sXO, sXP, fin_t, fin_t2, fin_t3, up_same, up_ne, ne_eq, not_false_eq_true, AVal.bool.injEq, decide_eq_true_eq, decide_eq_false_iff_not, Int.ofNat_eq_natCast, Int.reduceNegSucc, Int.cast_ofNat_Int, reduceCtorEq, bin_lss, bin_leq, bin_gtr, bin_geq, bin_eql, bin_neq, bin_add, bin_sub, bin_mul, Bool.not_eq_true', Bool.not_eq_false', Bool.true_eq_false, Bool.false_eq_true, Nat.reduceEqDiff, ↓reduceIte, if_true, if_false, Nat.reduceAdd, Int.reduceEq, Int.reduceLT, Int.reduceLE, g5, g6, g7, g8, g9, g10, hlt, e10, h32', w1, w2, w3, w4, w5, w6, shr63, hge', g0', g1]
        exact ⟨_, Nat.lt_succ_self _, m, 2 * q, 2 * r, by omega, rfl, by trivial, by trivial, by trivial, by trivial, by trivial, by trivial, by trivial, by trivial, by omega, by omega, by trivial⟩
  | zero =>
    have hlt : ¬ (0 : Int) ≤ (0 : Nat) - 1 := by omega
    rw [Nat.pow_zero, Nat.div_one] at hX
    have hd : a * 4294967296 / b = q := by
      rw [hX, Nat.add_comm, Nat.add_mul_div_right _ _ hb0, Nat.div_eq_of_lt hr, Nat.zero_add]
    rw [hd] at hq ⊢
    have e7 : ((q / 18446744073709551616 : Nat) : Int) = 0 := by omega
    have e8 : ((q % 18446744073709551616 : Nat) : Int) = (q : Int) := by omega
    have ga : ¬ (a : Int) < 0 := by omega
    have gb : ¬ (b : Int) < 0 := by omega
    simp only [pf_min, undef_bool, str_len, str_eql, str_neq, conv_in, un_not, eq_self, decide_true, decide_false, Bool.not_true, Bool.not_false, argE_0, argE_1, argE_2, argE_3, argE_4, aw_skip, aw_reg, aw_seq, aw_cond, aw_block, aw_exit, aw_ret, inSeq_normal, inSeq_exit, inSeq_ret, inBlk_exit, inBlk_normal, inBlk_ret, OptK_some, OptH_some, OptS_some, kont_app, ar_nil, ar_guard, ar_mv, ar_pick, ar_new, ar_box, ar_build, ar_buildSl, ar_load, ar_store, ar_nilChk, ar_bin, ar_un, ar_conv, ar_convSB, ar_convBS, ar_mkFunc, ar_mkIface, ar_mkSlice, ar_sl, ar_slStr, ar_fieldA, ar_field, ar_idxA, ar_idxArr, ar_idx, ar_idxS, ar_extract, ar_append, ar_len, ar_call, ar_callv, callvP_func, List.nil_append, List.cons_append, List.append_nil, ar_pf, ar_hf, ar_slA, upO_some, upO_none, sX_t, sX_c, sX_f, sXs, sXO, sXP, fin_t, fin_t2, fin_t3, up_same, up_ne, ne_eq, not_false_eq_true, AVal.bool.injEq, decide_eq_true_eq, decide_eq_false_iff_not, Int.ofNat_eq_natCast, Int.reduceNegSucc, Int.cast_ofNat_Int, reduceCtorEq, bin_lss, bin_leq, bin_gtr, bin_geq, bin_eql, bin_neq, bin_add, bin_sub, bin_mul, Bool.not_eq_true', Bool.not_eq_false', Bool.true_eq_false, Bool.false_eq_true, Nat.reduceEqDiff, ↓reduceIte, if_true, if_false, Nat.reduceAdd, Int.reduceEq, Int.reduceLT, Int.reduceLE, g5, g6, g7, g8, g9, g10, hlt, e7, e8, g0', g1, ga, gb, neqv_bool, bne_self_eq_false]
    refine (in_pos h30 (lo := q) hq _).mono ?_
    rintro v _ ⟨rfl, rfl⟩
    simp only [pf_min, undef_bool, str_len, str_eql, str_neq, conv_in, un_not, eq_self, decide_true, decide_false, Bool.not_true, Bool.not_false, argE_0, argE_1, argE_2, argE_3, argE_4, aw_skip, aw_reg, aw_seq, aw_cond, aw_block, aw_exit, aw_ret, inSeq_normal, inSeq_exit, inSeq_ret, inBlk_exit, inBlk_normal, inBlk_ret, OptK_some, OptH_some, OptS_some, kont_app, ar_nil, ar_guard, ar_mv, ar_pick, ar_new, ar_box, ar_build, ar_buildSl, ar_load, ar_store, ar_nilChk, ar_bin, ar_un, ar_conv, ar_convSB, ar_convBS, ar_mkFunc, ar_mkIface, ar_mkSlice, ar_sl, ar_slStr, ar_fieldA, ar_field, ar_idxA, ar_idxArr, ar_idx, ar_idxS, ar_extract, ar_append, ar_len, ar_call, ar_callv, callvP_func, List.nil_append, List.cons_append, List.append_nil, ar_pf, ar_hf, ar_slA, upO_some, upO_none, sX_t, sX_c, sX_f, sXs, sXO, sXP, fin_t, fin_t2, fin_t3, up_same, up_ne, ne_eq, not_false_eq_true, AVal.bool.injEq, decide_eq_true_eq, decide_eq_false_iff_not, Int.ofNat_eq_natCast, Int.reduceNegSucc, Int.cast_ofNat_Int, reduceCtorEq, bin_lss, bin_leq, bin_gtr, bin_geq, bin_eql, bin_neq, bin_add, bin_sub, bin_mul, Bool.not_eq_true', Bool.not_eq_false', Bool.true_eq_false, Bool.false_eq_true, Nat.reduceEqDiff, ↓reduceIte, if_true, if_false, Nat.reduceAdd, Int.reduceEq, Int.reduceLT, Int.reduceLE]
    exact ⟨by trivial, by trivial⟩
end Go.Proofs.Tx
/- Texture: a byte over 255: the contracts. -/
namespace Go.Proofs.Tx
open Go.Abs Go.Abs.S
set_option linter.unusedSimpArgs false
variable {N : ANat}
set_option maxRecDepth 100000 in
theorem len_spec (h : N.is 60 = false) {H : AHeap} : ACalls Tryz.prog N 60 [.int .u64 1095216660480] H fun v H' => v = .int .i64 40 ∧ H = H' := by
  refine acalls_ofN h za60 rfl ?_
  have s1 : aBin .shr (.int .u64 1095216660480) (.int .u64 32) = some (.int .u64 255) := shr32 1095216660480
  have s2 : IntKind.u8.wrap 255 = 255 := wrapU8 (by decide) (by decide)
  have s3 : aIdxS (.str [0, 1, 2, 2, 3, 3, 3, 3, 4, 4, 4, 4, 4, 4, 4, 4, 5, 5, 5, 5, 5, 5, 5, 5, 5, 5, 5, 5, 5, 5, 5, 5, 6, 6, 6, 6, 6, 6, 6, 6, 6, 6, 6, 6, 6, 6, 6, 6, 6, 6, 6, 6, 6, 6, 6, 6, 6, 6, 6, 6, 6, 6, 6, 6, 7, 7, 7, 7, 7, 7, 7, 7, 7, 7, 7, 7, 7, 7, 7, 7, 7, 7, 7, 7, 7, 7, 7, 7, 7, 7, 7, 7, 7, 7, 7, 7, 7, 7, 7, 7, 7, 7, 7, 7, 7, 7, 7, 7, 7, 7, 7, 7, 7, 7, 7, 7, 7, 7, 7, 7, 7, 7, 7, 7, 7, 7, 7, 7, 8, 8, 8, 8, 8, 8, 8, 8, 8, 8, 8, 8, 8, 8, 8, 8, 8, 8, 8, 8, 8, 8, 8, 8, 8, 8, 8, 8, 8, 8, 8, 8, 8, 8, 8, 8, 8, 8, 8, 8, 8, 8, 8, 8, 8, 8, 8, 8, 8, 8, 8, 8, 8, 8, 8, 8, 8, 8, 8, 8, 8, 8, 8, 8, 8, 8, 8, 8, 8, 8, 8, 8, 8, 8, 8, 8, 8, 8, 8, 8, 8, 8, 8, 8, 8, 8, 8, 8, 8, 8, 8, 8, 8, 8, 8, 8, 8, 8, 8, 8, 8, 8, 8, 8, 8, 8, 8, 8, 8, 8, 8, 8, 8, 8, 8, 8, 8, 8, 8, 8, 8, 8, 8, 8, 8, 8, 8, 8]) (.int .u8 255) = some (.int .u8 8) := by kernel_rfl
  have s4 : IntKind.i64.wrap 8 = 8 := wrap64 (by decide) (by decide)
  have s5 : IntKind.i64.wrap (32 + 8) = 40 := wrap64 (by decide) (by decide)
  simp only [c60, pf_min, undef_bool, str_len, str_eql, str_neq, conv_in, un_not, eq_self, decide_true, decide_false, Bool.not_true, Bool.not_false, argE_0, argE_1, argE_2, argE_3, argE_4, aw_skip, aw_reg, aw_seq, aw_cond, aw_block, aw_exit, aw_ret, inSeq_normal, inSeq_exit, inSeq_ret, inBlk_exit, inBlk_normal, inBlk_ret, OptK_some, OptH_some, OptS_some, kont_app, ar_nil, ar_guard, ar_mv, ar_pick, ar_new, ar_box, ar_build, ar_buildSl, ar_load, ar_store, ar_nilChk, ar_bin, ar_un, ar_conv, ar_convSB, ar_convBS, ar_mkFunc, ar_mkIface, ar_mkSlice, ar_sl, ar_slStr, ar_fieldA, ar_field, ar_idxA, ar_idxArr, ar_idx, ar_idxS, ar_extract, ar_append, ar_len, ar_call, ar_callv, callvP_func, List.nil_append, List.cons_append, List.append_nil, ar_pf, ar_hf, ar_slA, upO_some, upO_none, sX_t, sX_c, sX_f, sXs, sXO, sXP, fin_t, fin_t2, fin_t3, up_same, up_ne, ne_eq, not_false_eq_true, AVal.bool.injEq, decide_eq_true_eq, decide_eq_false_iff_not, Int.ofNat_eq_natCast, Int.reduceNegSucc, Int.cast_ofNat_Int, reduceCtorEq, bin_lss, bin_leq, bin_gtr, bin_geq, bin_eql, bin_neq, bin_add, bin_sub, bin_mul, Bool.not_eq_true', Bool.not_eq_false', Bool.true_eq_false, Bool.false_eq_true, Nat.reduceEqDiff, ↓reduceIte, if_true, if_false, Nat.reduceAdd, Int.reduceEq, Int.reduceLT, Int.reduceLE, s1, s2, s3, s4, s5]
  exact ⟨by trivial, by trivial⟩
theorem lead_spec (h43 : N.is 43 = false) (h60 : N.is 60 = false) {H : AHeap} : ACalls Tryz.prog N 43 [.int .u64 1095216660480] H fun v H' => v = .int .i64 24 ∧ H = H' := by
  refine acalls_ofN h43 za43 rfl ?_
  simp only [c43, pf_min, undef_bool, str_len, str_eql, str_neq, conv_in, un_not, eq_self, decide_true, decide_false, Bool.not_true, Bool.not_false, argE_0, argE_1, argE_2, argE_3, argE_4, aw_skip, aw_reg, aw_seq, aw_cond, aw_block, aw_exit, aw_ret, inSeq_normal, inSeq_exit, inSeq_ret, inBlk_exit, inBlk_normal, inBlk_ret, OptK_some, OptH_some, OptS_some, kont_app, ar_nil, ar_guard, ar_mv, ar_pick, ar_new, ar_box, ar_build, ar_buildSl, ar_load, ar_store, ar_nilChk, ar_bin, ar_un, ar_conv, ar_convSB, ar_convBS, ar_mkFunc, ar_mkIface, ar_mkSlice, ar_sl, ar_slStr, ar_fieldA, ar_field, ar_idxA, ar_idxArr, ar_idx, ar_idxS, ar_extract, ar_append, ar_len, ar_call, ar_callv, callvP_func, List.nil_append, List.cons_append, List.append_nil, ar_pf, ar_hf, ar_slA, upO_some, upO_none, sX_t, sX_c, sX_f, sXs, sXO, sXP, fin_t, fin_t2, fin_t3, up_same, up_ne, ne_eq, not_false_eq_true, AVal.bool.injEq, decide_eq_true_eq, decide_eq_false_iff_not, Int.ofNat_eq_natCast, Int.reduceNegSucc, Int.cast_ofNat_Int, reduceCtorEq, bin_lss, bin_leq, bin_gtr, bin_geq, bin_eql, bin_neq, bin_add, bin_sub, bin_mul, Bool.not_eq_true', Bool.not_eq_false', Bool.true_eq_false, Bool.false_eq_true, Nat.reduceEqDiff, ↓reduceIte, if_true, if_false, Nat.reduceAdd, Int.reduceEq, Int.reduceLT, Int.reduceLE]
  refine (len_spec h60).mono ?_
  rintro v _ ⟨rfl, rfl⟩
  have s5 : IntKind.i64.wrap (64 - 40) = 24 := wrap64 (by decide) (by decide)
  simp only [pf_min, undef_bool, str_len, str_eql, str_neq, conv_in, un_not, eq_self, decide_true, decide_false, Bool.not_true, Bool.not_false, argE_0, argE_1, argE_2, argE_3, argE_4, aw_skip, aw_reg, aw_seq, aw_cond, aw_block, aw_exit, aw_ret, inSeq_normal, inSeq_exit, inSeq_ret, inBlk_exit, inBlk_normal, inBlk_ret, OptK_some, OptH_some, OptS_some, kont_app, ar_nil, ar_guard, ar_mv, ar_pick, ar_new, ar_box, ar_build, ar_buildSl, ar_load, ar_store, ar_nilChk, ar_bin, ar_un, ar_conv, ar_convSB, ar_convBS, ar_mkFunc, ar_mkIface, ar_mkSlice, ar_sl, ar_slStr, ar_fieldA, ar_field, ar_idxA, ar_idxArr, ar_idx, ar_idxS, ar_extract, ar_append, ar_len, ar_call, ar_callv, callvP_func, List.nil_append, List.cons_append, List.append_nil, ar_pf, ar_hf, ar_slA, upO_some, upO_none, sX_t, sX_c, sX_f, sXs, sXO, sXP, fin_t, fin_t2, fin_t3, up_same, up_ne, ne_eq, not_false_eq_true, AVal.bool.injEq, decide_eq_true_eq, decide_eq_false_iff_not, Int.ofNat_eq_natCast, Int.reduceNegSucc, Int.cast_ofNat_Int, reduceCtorEq, bin_lss, bin_leq, bin_gtr, bin_geq, bin_eql, bin_neq, bin_add, bin_sub, bin_mul, Bool.not_eq_true', Bool.not_eq_false', Bool.true_eq_false, Bool.false_eq_true, Nat.reduceEqDiff, ↓reduceIte, if_true, if_false, Nat.reduceAdd, Int.reduceEq, Int.reduceLT, Int.reduceLE, s5]
  exact ⟨by trivial, by trivial⟩
theorem l23 {i q r : Nat} (h : i = 255 * q + r) : i * 72057594037927936 - q * 18374686479671623680 = r * 72057594037927936 := by
  subst h
  rw [show 18374686479671623680 = 255 * 72057594037927936 from rfl, ← Nat.mul_assoc, Nat.add_mul, Nat.mul_comm 255 q, Nat.add_sub_cancel_left]
theorem l23' {i q r : Nat} (h : i = 255 * q + r) : q * 18374686479671623680 ≤ i * 72057594037927936 := by
  subst h
  rw [show 18374686479671623680 = 255 * 72057594037927936 from rfl, ← Nat.mul_assoc, Nat.add_mul, Nat.mul_comm 255 q]
  exact Nat.le_add_right _ _
theorem l14 {i q r : Nat} (h : i = 255 * q + r) : i * 16777216 - q * 4278190080 = r * 16777216 := by omega
theorem l24 (r : Nat) : r * 72057594037927936 / 4278190080 = r * 4294967296 / 255 := by
  rw [show 72057594037927936 = 4294967296 * 16777216 from rfl, show 4278190080 = 255 * 16777216 from rfl, ← Nat.mul_assoc]
  exact Nat.mul_div_mul_right _ _ (by decide)
theorem l33 {i q r : Nat} (h : i = 255 * q + r) : q * 4294967296 + r * 4294967296 / 255 = i * 4294967296 / 255 := by omega
theorem lc {a : Nat} (h : a ≤ 255) : a * 72057594037927936 < 18446744073709551616 := Nat.lt_of_le_of_lt (Nat.mul_le_mul_right _ h) (by decide)
set_option maxHeartbeats 1000000 in
theorem div64_spec (h25 : N.is 25 = false) (h43 : N.is 43 = false) (h60 : N.is 60 = false) {i : Nat} (hi : i < 256) {H : AHeap} : ACalls Tryz.prog N 25 [.int .u64 (i : Int), .int .u64 0, .int .u64 1095216660480] H fun v H' => (∃ z, v = .tuple [.int .u64 ((i * 4294967296 / 255 : Nat) : Int), .int .u64 z]) ∧ H = H' := by
  refine acalls_ofN h25 za25 rfl ?_
  have q0 : ¬ (1095216660480 : Int) ≤ (i : Int) := by omega
  by_cases h0 : i = 0
  · subst h0
    have s1 : aBin .quo (.int .u64 0) (.int .u64 1095216660480) = some (.int .u64 0) := quoU64 (a := 0) 1095216660480 (by decide) (by decide)
    have s2 : aBin .rem (.int .u64 0) (.int .u64 1095216660480) = some (.int .u64 0) := remU64 (a := 0) 1095216660480 (by decide)
    have e0 : ((0 : Nat) : Int) = 0 := rfl
    simp only [c25, pf_min, undef_bool, str_len, str_eql, str_neq, conv_in, un_not, eq_self, decide_true, decide_false, Bool.not_true, Bool.not_false, argE_0, argE_1, argE_2, argE_3, argE_4, aw_skip, aw_reg, aw_seq, aw_cond, aw_block, aw_exit, aw_ret, inSeq_normal, inSeq_exit, inSeq_ret, inBlk_exit, inBlk_normal, inBlk_ret, OptK_some, OptH_some, OptS_some, kont_app, ar_nil, ar_guard, ar_mv, ar_pick, ar_new, ar_box, ar_build, ar_buildSl, ar_load, ar_store, ar_nilChk, ar_bin, ar_un, ar_conv, ar_convSB, ar_convBS, ar_mkFunc, ar_mkIface, ar_mkSlice, ar_sl, ar_slStr, ar_fieldA, ar_field, ar_idxA, ar_idxArr, ar_idx, ar_idxS, ar_extract, ar_append, ar_len, ar_call, ar_callv, callvP_func, List.nil_append, List.cons_append, List.append_nil, ar_pf, ar_hf, ar_slA, upO_some, upO_none, sX_t, sX_c, sX_f, sXs, sXO, sXP, fin_t, fin_t2, fin_t3, up_same, up_ne, ne_eq, not_false_eq_true, AVal.bool.injEq, decide_eq_true_eq, decide_eq_false_iff_not, Int.ofNat_eq_natCast, Int.reduceNegSucc, Int.cast_ofNat_Int, reduceCtorEq, bin_lss, bin_leq, bin_gtr, bin_geq, bin_eql, bin_neq, bin_add, bin_sub, bin_mul, Bool.not_eq_true', Bool.not_eq_false', Bool.true_eq_false, Bool.false_eq_true, Nat.reduceEqDiff, ↓reduceIte, if_true, if_false, Nat.reduceAdd, Int.reduceEq, Int.reduceLT, Int.reduceLE, e0, s1, s2]
    exact ⟨⟨0, rfl⟩, by trivial⟩
  · have h0' : ¬ (i : Int) = 0 := by omega
    simp only [c25, pf_min, undef_bool, str_len, str_eql, str_neq, conv_in, un_not, eq_self, decide_true, decide_false, Bool.not_true, Bool.not_false, argE_0, argE_1, argE_2, argE_3, argE_4, aw_skip, aw_reg, aw_seq, aw_cond, aw_block, aw_exit, aw_ret, inSeq_normal, inSeq_exit, inSeq_ret, inBlk_exit, inBlk_normal, inBlk_ret, OptK_some, OptH_some, OptS_some, kont_app, ar_nil, ar_guard, ar_mv, ar_pick, ar_new, ar_box, ar_build, ar_buildSl, ar_load, ar_store, ar_nilChk, ar_bin, ar_un, ar_conv, ar_convSB, ar_convBS, ar_mkFunc, ar_mkIface, ar_mkSlice, ar_sl, ar_slStr, ar_fieldA, ar_field, ar_idxA, ar_idxArr, ar_idx, ar_idxS, ar_extract, ar_append, ar_len, ar_call, ar_callv, callvP_func, List.nil_append, List.cons_append, List.append_nil, ar_pf, ar_hf, ar_slA, upO_some, upO_none, sX_t, sX_c, sX_f, sXs, sXO, sXP, fin_t, fin_t2, fin_t3, up_same, up_ne, ne_eq, not_false_eq_true, AVal.bool.injEq, decide_eq_true_eq, decide_eq_false_iff_not, Int.ofNat_eq_natCast, Int.reduceNegSucc, Int.cast_ofNat_Int, reduceCtorEq, bin_lss, bin_leq, bin_gtr, bin_geq, bin_eql, bin_neq, bin_add, bin_sub, bin_mul, Bool.not_eq_true', Bool.not_eq_false', Bool.true_eq_false, Bool.false_eq_true, Nat.reduceEqDiff, ↓reduceIte, if_true, if_false, Nat.reduceAdd, Int.reduceEq, Int.reduceLT, Int.reduceLE, q0, h0']
    refine (lead_spec h43 h60).mono ?_
    rintro v _ ⟨rfl, rfl⟩
    have s1 : IntKind.u64.wrap 24 = 24 := uw (a := 24) (by decide)
    have s2 : aBin .shl (.int .u64 1095216660480) (.int .u64 24) = some (.int .u64 18374686479671623680) := by
      have := bin_shl .u64 .u64 1095216660480 24
      rw [show min 24 IntKind.u64.bits = 24 from rfl] at this
      exact this
    have s3 : aBin .shr (.int .u64 18374686479671623680) (.int .u64 32) = some (.int .u64 4278190080) := shr32 18374686479671623680
    have s4 : aBin .and (.int .u64 18374686479671623680) (.int .u64 4294967295) = some (.int .u64 0) := and32 (x := 18374686479671623680) (by decide)
    have s5 : aBin .shl (.int .u64 (i : Int)) (.int .u64 24) = some (.int .u64 ((i * 16777216 : Nat) : Int)) := by
      have := bin_shl .u64 .u64 (i : Int) 24
      rw [show min 24 IntKind.u64.bits = 24 from rfl] at this
      have w : IntKind.u64.wrap ((i : Int) * 2 ^ 24) = ((i * 16777216 : Nat) : Int) := by rw [IntKind.wrap_u64]; omega
      rw [w] at this
      exact this
    have s6 : IntKind.u64.wrap (64 - 24) = 40 := uw (a := 40) (by decide)
    have s7 : aBin .shr (.int .u64 0) (.int .u64 40) = some (.int .u64 0) := shrN .u64 .u64 0 (b := 40) (by decide)
    have s8 : aBin .or (.int .u64 ((i * 16777216 : Nat) : Int)) (.int .u64 0) = some (.int .u64 ((i * 16777216 : Nat) : Int)) := by
      have := orU64 (a := i * 16777216) (b := 0) (by omega) (by decide)
      rw [Nat.or_zero] at this
      exact this
    have s9 : aBin .shl (.int .u64 0) (.int .u64 24) = some (.int .u64 0) := by
      have := bin_shl .u64 .u64 0 24
      rw [show min 24 IntKind.u64.bits = 24 from rfl] at this
      exact this
    have s10 : aBin .shr (.int .u64 0) (.int .u64 32) = some (.int .u64 0) := shr32 0
    have s11 : aBin .and (.int .u64 0) (.int .u64 4294967295) = some (.int .u64 0) := and32 (x := 0) (by decide)
    obtain ⟨q, r, hqr, hr⟩ : ∃ q r, i = 255 * q + r ∧ r < 255 := ⟨i / 255, i % 255, by omega, by omega⟩
    have hq1 : q ≤ 1 := by omega
    have s12 : aBin .quo (.int .u64 ((i * 16777216 : Nat) : Int)) (.int .u64 4278190080) = some (.int .u64 (q : Int)) := by
      have := quoU64 (a := i * 16777216) 4278190080 (by decide) (by omega)
      rw [show i * 16777216 / 4278190080 = q by omega] at this
      exact this
    have s13 : IntKind.u64.wrap ((q : Int) * 4278190080) = ((q * 4278190080 : Nat) : Int) := wmul (a := q) (b := 4278190080) (by omega)
    have s14 : IntKind.u64.wrap (((i * 16777216 : Nat) : Int) - ((q * 4278190080 : Nat) : Int)) = ((r * 16777216 : Nat) : Int) := by
      rw [wsub (by omega) (by omega), l14 hqr]
    have s15 : ¬ (4294967296 : Int) ≤ (q : Int) := by omega
    have s16 : IntKind.u64.wrap ((q : Int) * 0) = 0 := by rw [Int.mul_zero]; exact uw (a := 0) (by decide)
    have s17 : IntKind.u64.wrap (4294967296 * ((r * 16777216 : Nat) : Int)) = ((r * 72057594037927936 : Nat) : Int) := by
      have := wmul (a := r * 16777216) (b := 4294967296) (by rw [Nat.mul_assoc]; exact lc (by omega))
      rw [Nat.mul_assoc] at this
      rw [Int.mul_comm]
      exact this
    have s18 : IntKind.u64.wrap (((r * 72057594037927936 : Nat) : Int) + 0) = ((r * 72057594037927936 : Nat) : Int) := by rw [Int.add_zero]; exact uw (lc (by omega))
    have s19 : ¬ ((r * 72057594037927936 : Nat) : Int) < 0 := Int.not_lt.2 (Int.natCast_nonneg _)
    simp only [pf_min, undef_bool, str_len, str_eql, str_neq, conv_in, un_not, eq_self, decide_true, decide_false, Bool.not_true, Bool.not_false, argE_0, argE_1, argE_2, argE_3, argE_4, aw_skip, aw_reg, aw_seq, aw_cond, aw_block, aw_exit, aw_ret, inSeq_normal, inSeq_exit, inSeq_ret, inBlk_exit, inBlk_normal, inBlk_ret, OptK_some, OptH_some, OptS_some, kont_app, ar_nil, ar_guard, ar_mv, ar_pick, ar_new, ar_box, ar_build, ar_buildSl, ar_load, ar_store, ar_nilChk, ar_bin, ar_un, ar_conv, ar_convSB, ar_convBS, ar_mkFunc, ar_mkIface, ar_mkSlice, ar_sl, ar_slStr, ar_fieldA, ar_field, ar_idxA, ar_idxArr, ar_idx, ar_idxS, ar_extract, ar_append, ar_len, ar_call, ar_callv, callvP_func, List.nil_append, List.cons_append, List.append_nil, ar_pf, ar_hf, ar_slA, upO_some, upO_none, sX_t, sX_c, sX_f, sXs, sXO, sXP, fin_t, fin_t2, fin_t3, up_same, up_ne, ne_eq, not_false_eq_true, AVal.bool.injEq, decide_eq_true_eq, decide_eq_false_iff_not, Int.ofNat_eq_natCast, Int.reduceNegSucc, Int.cast_ofNat_Int, reduceCtorEq, bin_lss, bin_leq, bin_gtr, bin_geq, bin_eql, bin_neq, bin_add, bin_sub, bin_mul, Bool.not_eq_true', Bool.not_eq_false', Bool.true_eq_false, Bool.false_eq_true, Nat.reduceEqDiff, ↓reduceIte, if_true, if_false, Nat.reduceAdd, Int.reduceEq, Int.reduceLT, Int.reduceLE, s1, s2, s3, s4, s5, s6, s7, s8, s9, s10, s11, s12, s13, s14]
    refine aw_loop1 (calls_mono _ _) ?_
    simp only [pf_min, undef_bool, str_len, str_eql, str_neq, conv_in, un_not, eq_self, decide_true, decide_false, Bool.not_true, Bool.not_false, argE_0, argE_1, argE_2, argE_3, argE_4, aw_skip, aw_reg, aw_seq, aw_cond, aw_block, aw_exit, aw_ret, inSeq_normal, inSeq_exit, inSeq_ret, inBlk_exit, inBlk_normal, inBlk_ret, OptK_some, OptH_some, OptS_some, kont_app, ar_nil, ar_guard, ar_mv, ar_pick, ar_new, ar_box, ar_build, ar_buildSl, ar_load, ar_store, ar_nilChk, ar_bin, ar_un, ar_conv, ar_convSB, ar_convBS, ar_mkFunc, ar_mkIface, ar_mkSlice, ar_sl, ar_slStr, ar_fieldA, ar_field, ar_idxA, ar_idxArr, ar_idx, ar_idxS, ar_extract, ar_append, ar_len, ar_call, ar_callv, callvP_func, List.nil_append, List.cons_append, List.append_nil, ar_pf, ar_hf, ar_slA, upO_some, upO_none, sX_t, sX_c, sX_f, sXs, sXO, sXP, fin_t, fin_t2, fin_t3, up_same, up_ne, ne_eq, not_false_eq_true, AVal.bool.injEq, decide_eq_true_eq, decide_eq_false_iff_not, Int.ofNat_eq_natCast, Int.reduceNegSucc, Int.cast_ofNat_Int, reduceCtorEq, bin_lss, bin_leq, bin_gtr, bin_geq, bin_eql, bin_neq, bin_add, bin_sub, bin_mul, Bool.not_eq_true', Bool.not_eq_false', Bool.true_eq_false, Bool.false_eq_true, Nat.reduceEqDiff, ↓reduceIte, if_true, if_false, Nat.reduceAdd, Int.reduceEq, Int.reduceLT, Int.reduceLE, s15, s16, s17, s18, s19]
    have s20 : IntKind.u64.wrap (((i * 16777216 : Nat) : Int) * 4294967296) = ((i * 72057594037927936 : Nat) : Int) := by
      have := wmul (a := i * 16777216) (b := 4294967296) (by rw [Nat.mul_assoc]; exact lc (by omega))
      rw [Nat.mul_assoc] at this
      exact this
    have s21 : IntKind.u64.wrap (((i * 72057594037927936 : Nat) : Int) + 0) = ((i * 72057594037927936 : Nat) : Int) := by rw [Int.add_zero]; exact uw (lc (by omega))
    have s22 : IntKind.u64.wrap ((q : Int) * 18374686479671623680) = ((q * 18374686479671623680 : Nat) : Int) := wmul (a := q) (b := 18374686479671623680) (Nat.lt_of_le_of_lt (Nat.mul_le_mul_right _ hq1) (by decide))
    have s23 : IntKind.u64.wrap (((i * 72057594037927936 : Nat) : Int) - ((q * 18374686479671623680 : Nat) : Int)) = ((r * 72057594037927936 : Nat) : Int) := by
      rw [wsub (l23' hqr) (lc (by omega)), l23 hqr]
    obtain ⟨p, hp⟩ : ∃ p, p = r * 4294967296 / 255 := ⟨_, rfl⟩
    have hp2 : p < 4294967296 := by omega
    have s24 : aBin .quo (.int .u64 ((r * 72057594037927936 : Nat) : Int)) (.int .u64 4278190080) = some (.int .u64 (p : Int)) := by
      have := quoU64 (a := r * 72057594037927936) 4278190080 (by decide) (lc (by omega))
      rw [l24, ← hp] at this
      exact this
    have s25 : IntKind.u64.wrap ((p : Int) * 4278190080) = ((p * 4278190080 : Nat) : Int) := wmul (a := p) (b := 4278190080) (Nat.lt_of_le_of_lt (Nat.mul_le_mul_right _ (Nat.le_of_lt hp2)) (by decide))
    obtain ⟨t, ht⟩ : ∃ t, t = r * 72057594037927936 - p * 4278190080 := ⟨_, rfl⟩
    have hpl : p * 4278190080 ≤ r * 72057594037927936 := by rw [hp, ← l24]; exact Nat.div_mul_le_self _ _
    have htl : t < 4278190080 := by
      have h1 : r * 72057594037927936 % 4278190080 < 4278190080 := Nat.mod_lt _ (by decide)
      rw [Nat.mod_eq_sub_mul_div, l24, ← hp, Nat.mul_comm 4278190080 p, ← ht] at h1
      exact h1
    have s26 : IntKind.u64.wrap (((r * 72057594037927936 : Nat) : Int) - ((p * 4278190080 : Nat) : Int)) = (t : Int) := by
      rw [ht]; exact wsub hpl (lc (by omega))
    simp only [pf_min, undef_bool, str_len, str_eql, str_neq, conv_in, un_not, eq_self, decide_true, decide_false, Bool.not_true, Bool.not_false, argE_0, argE_1, argE_2, argE_3, argE_4, aw_skip, aw_reg, aw_seq, aw_cond, aw_block, aw_exit, aw_ret, inSeq_normal, inSeq_exit, inSeq_ret, inBlk_exit, inBlk_normal, inBlk_ret, OptK_some, OptH_some, OptS_some, kont_app, ar_nil, ar_guard, ar_mv, ar_pick, ar_new, ar_box, ar_build, ar_buildSl, ar_load, ar_store, ar_nilChk, ar_bin, ar_un, ar_conv, ar_convSB, ar_convBS, ar_mkFunc, ar_mkIface, ar_mkSlice, ar_sl, ar_slStr, ar_fieldA, ar_field, ar_idxA, ar_idxArr, ar_idx, ar_idxS, ar_extract, ar_append, ar_len, ar_call, ar_callv, callvP_func, List.nil_append, List.cons_append, List.append_nil, ar_pf, ar_hf, ar_slA, upO_some, upO_none, sX_t, sX_c, sX_f, sXs, sXO, sXP, fin_t, fin_t2, fin_t3, up_same, up_ne, ne_eq, not_false_eq_true, AVal.bool.injEq, decide_eq_true_eq, decide_eq_false_iff_not, Int.ofNat_eq_natCast, Int.reduceNegSucc, Int.cast_ofNat_Int, reduceCtorEq, bin_lss, bin_leq, bin_gtr, bin_geq, bin_eql, bin_neq, bin_add, bin_sub, bin_mul, Bool.not_eq_true', Bool.not_eq_false', Bool.true_eq_false, Bool.false_eq_true, Nat.reduceEqDiff, ↓reduceIte, if_true, if_false, Nat.reduceAdd, Int.reduceEq, Int.reduceLT, Int.reduceLE, s20, s21, s22, s23, s24, s25, s26]
    refine aw_loop1 (calls_mono _ _) ?_
    have s27 : ¬ (4294967296 : Int) ≤ (p : Int) := by omega
    have s28 : IntKind.u64.wrap ((p : Int) * 0) = 0 := by rw [Int.mul_zero]; exact uw (a := 0) (by decide)
    have s29 : IntKind.u64.wrap (4294967296 * (t : Int)) = ((t * 4294967296 : Nat) : Int) := by
      rw [Int.mul_comm]; exact wmul (a := t) (b := 4294967296) (Nat.lt_of_le_of_lt (Nat.mul_le_mul_right _ (Nat.le_of_lt htl)) (by decide))
    have s30 : IntKind.u64.wrap (((t * 4294967296 : Nat) : Int) + 0) = ((t * 4294967296 : Nat) : Int) := by rw [Int.add_zero]; exact uw (Nat.lt_of_le_of_lt (Nat.mul_le_mul_right _ (Nat.le_of_lt htl)) (by decide))
    have s31 : ¬ ((t * 4294967296 : Nat) : Int) < 0 := Int.not_lt.2 (Int.natCast_nonneg _)
    simp only [pf_min, undef_bool, str_len, str_eql, str_neq, conv_in, un_not, eq_self, decide_true, decide_false, Bool.not_true, Bool.not_false, argE_0, argE_1, argE_2, argE_3, argE_4, aw_skip, aw_reg, aw_seq, aw_cond, aw_block, aw_exit, aw_ret, inSeq_normal, inSeq_exit, inSeq_ret, inBlk_exit, inBlk_normal, inBlk_ret, OptK_some, OptH_some, OptS_some, kont_app, ar_nil, ar_guard, ar_mv, ar_pick, ar_new, ar_box, ar_build, ar_buildSl, ar_load, ar_store, ar_nilChk, ar_bin, ar_un, ar_conv, ar_convSB, ar_convBS, ar_mkFunc, ar_mkIface, ar_mkSlice, ar_sl, ar_slStr, ar_fieldA, ar_field, ar_idxA, ar_idxArr, ar_idx, ar_idxS, ar_extract, ar_append, ar_len, ar_call, ar_callv, callvP_func, List.nil_append, List.cons_append, List.append_nil, ar_pf, ar_hf, ar_slA, upO_some, upO_none, sX_t, sX_c, sX_f, sXs, sXO, sXP, fin_t, fin_t2, fin_t3, up_same, up_ne, ne_eq, not_false_eq_true, AVal.bool.injEq, decide_eq_true_eq, decide_eq_false_iff_not, Int.ofNat_eq_natCast, Int.reduceNegSucc, Int.cast_ofNat_Int, reduceCtorEq, bin_lss, bin_leq, bin_gtr, bin_geq, bin_eql, bin_neq, bin_add, bin_sub, bin_mul, Bool.not_eq_true', Bool.not_eq_false', Bool.true_eq_false, Bool.false_eq_true, Nat.reduceEqDiff, ↓reduceIte, if_true, if_false, Nat.reduceAdd, Int.reduceEq, Int.reduceLT, Int.reduceLE, s27, s28, s29, s30, s31]
    have s32 : IntKind.u64.wrap ((q : Int) * 4294967296) = ((q * 4294967296 : Nat) : Int) := wmul (a := q) (b := 4294967296) (Nat.lt_of_le_of_lt (Nat.mul_le_mul_right _ hq1) (by decide))
    have s33 : IntKind.u64.wrap (((q * 4294967296 : Nat) : Int) + (p : Int)) = ((i * 4294967296 / 255 : Nat) : Int) := by
      rw [wadd (Nat.lt_of_le_of_lt (Nat.add_le_add (Nat.mul_le_mul_right _ hq1) (Nat.le_of_lt hp2)) (by decide)), hp, l33 hqr]
    have s34 : ∀ z : Int, ∃ u : Int, aBin .shr (.int .u64 z) (.int .u64 24) = some (.int .u64 u) := fun z => ⟨_, bin_shr .u64 .u64 z 24⟩
    obtain ⟨u, hu⟩ := s34 (IntKind.u64.wrap (IntKind.u64.wrap (IntKind.u64.wrap (((r * 72057594037927936 : Nat) : Int) * 4294967296) + 0) - IntKind.u64.wrap ((p : Int) * 18374686479671623680)))
    simp only [pf_min, undef_bool, str_len, str_eql, str_neq, conv_in, un_not, eq_self, decide_true, decide_false, Bool.not_true, Bool.not_false, argE_0, argE_1, argE_2, argE_3, argE_4, aw_skip, aw_reg, aw_seq, aw_cond, aw_block, aw_exit, aw_ret, inSeq_normal, inSeq_exit, inSeq_ret, inBlk_exit, inBlk_normal, inBlk_ret, OptK_some, OptH_some, OptS_some, kont_app, ar_nil, ar_guard, ar_mv, ar_pick, ar_new, ar_box, ar_build, ar_buildSl, ar_load, ar_store, ar_nilChk, ar_bin, ar_un, ar_conv, ar_convSB, ar_convBS, ar_mkFunc, ar_mkIface, ar_mkSlice, ar_sl, ar_slStr, ar_fieldA, ar_field, ar_idxA, ar_idxArr, ar_idx, ar_idxS, ar_extract, ar_append, ar_len, ar_call, ar_callv, callvP_func, List.nil_append, List.cons_append, List.append_nil, ar_pf, ar_hf, ar_slA, upO_some, upO_none, sX_t, sX_c, sX_f, sXs, sXO, sXP, fin_t, fin_t2, fin_t3, up_same, up_ne, ne_eq, not_false_eq_true, AVal.bool.injEq, decide_eq_true_eq, decide_eq_false_iff_not, Int.ofNat_eq_natCast, Int.reduceNegSucc, Int.cast_ofNat_Int, reduceCtorEq, bin_lss, bin_leq, bin_gtr, bin_geq, bin_eql, bin_neq, bin_add, bin_sub, bin_mul, Bool.not_eq_true', Bool.not_eq_false', Bool.true_eq_false, Bool.false_eq_true, Nat.reduceEqDiff, ↓reduceIte, if_true, if_false, Nat.reduceAdd, Int.reduceEq, Int.reduceLT, Int.reduceLE, s32, s33, hu]
    exact ⟨⟨u, rfl⟩, by trivial⟩
/-- a byte over 255 -/
def partF (i : Nat) : Nat := i * 4294967296 / 255
theorem div_spec (h10 : N.is 10 = false) (h23 : N.is 23 = false) (h24 : N.is 24 = false) (h25 : N.is 25 = false) (h41 : N.is 41 = false) (h43 : N.is 43 = false) (h60 : N.is 60 = false) {i : Nat} (hi : i < 256) {H : AHeap} :
    ACalls Tryz.prog N 10 [.int .i64 ((i * 4294967296 : Nat) : Int), .int .i64 1095216660480] H fun v H' => v = .int .i64 (partF i : Int) ∧ H = H' := by
  refine acalls_ofN h10 za10 rfl ?_
  simp only [c10, pf_min, undef_bool, str_len, str_eql, str_neq, conv_in, un_not, eq_self, decide_true, decide_false, Bool.not_true, Bool.not_false, argE_0, argE_1, argE_2, argE_3, argE_4, aw_skip, aw_reg, aw_seq, aw_cond, aw_block, aw_exit, aw_ret, inSeq_normal, inSeq_exit, inSeq_ret, inBlk_exit, inBlk_normal, inBlk_ret, OptK_some, OptH_some, OptS_some, kont_app, ar_nil, ar_guard, ar_mv, ar_pick, ar_new, ar_box, ar_build, ar_buildSl, ar_load, ar_store, ar_nilChk, ar_bin, ar_un, ar_conv, ar_convSB, ar_convBS, ar_mkFunc, ar_mkIface, ar_mkSlice, ar_sl, ar_slStr, ar_fieldA, ar_field, ar_idxA, ar_idxArr, ar_idx, ar_idxS, ar_extract, ar_append, ar_len, ar_call, ar_callv, callvP_func, List.nil_append, List.cons_append, List.append_nil, ar_pf, ar_hf, ar_slA, upO_some, upO_none, sX_t, sX_c, sX_f, sXs, sXO, sXP, fin_t, fin_t2, fin_t3, up_same, up_ne, ne_eq, not_false_eq_true, AVal.bool.injEq, decide_eq_true_eq, decide_eq_false_iff_not, Int.ofNat_eq_natCast, Int.reduceNegSucc, Int.cast_ofNat_Int, reduceCtorEq, bin_lss, bin_leq, bin_gtr, bin_geq, bin_eql, bin_neq, bin_add, bin_sub, bin_mul, Bool.not_eq_true', Bool.not_eq_false', Bool.true_eq_false, Bool.false_eq_true, Nat.reduceEqDiff, ↓reduceIte, if_true, if_false, Nat.reduceAdd, Int.reduceEq, Int.reduceLT, Int.reduceLE]
  refine (signs_spec h23 (a := i * 4294967296) (b := 1095216660480)).mono ?_
  rintro v _ ⟨rfl, rfl⟩
  simp only [pf_min, undef_bool, str_len, str_eql, str_neq, conv_in, un_not, eq_self, decide_true, decide_false, Bool.not_true, Bool.not_false, argE_0, argE_1, argE_2, argE_3, argE_4, aw_skip, aw_reg, aw_seq, aw_cond, aw_block, aw_exit, aw_ret, inSeq_normal, inSeq_exit, inSeq_ret, inBlk_exit, inBlk_normal, inBlk_ret, OptK_some, OptH_some, OptS_some, kont_app, ar_nil, ar_guard, ar_mv, ar_pick, ar_new, ar_box, ar_build, ar_buildSl, ar_load, ar_store, ar_nilChk, ar_bin, ar_un, ar_conv, ar_convSB, ar_convBS, ar_mkFunc, ar_mkIface, ar_mkSlice, ar_sl, ar_slStr, ar_fieldA, ar_field, ar_idxA, ar_idxArr, ar_idx, ar_idxS, ar_extract, ar_append, ar_len, ar_call, ar_callv, callvP_func, List.nil_append, List.cons_append, List.append_nil, ar_pf, ar_hf, ar_slA, upO_some, upO_none, sX_t, sX_c, sX_f, sXs, sXO, sXP, fin_t, fin_t2, fin_t3, up_same, up_ne, ne_eq, not_false_eq_true, AVal.bool.injEq, decide_eq_true_eq, decide_eq_false_iff_not, Int.ofNat_eq_natCast, Int.reduceNegSucc, Int.cast_ofNat_Int, reduceCtorEq, bin_lss, bin_leq, bin_gtr, bin_geq, bin_eql, bin_neq, bin_add, bin_sub, bin_mul, Bool.not_eq_true', Bool.not_eq_false', Bool.true_eq_false, Bool.false_eq_true, Nat.reduceEqDiff, ↓reduceIte, if_true, if_false, Nat.reduceAdd, Int.reduceEq, Int.reduceLT, Int.reduceLE]
  refine (size_spec h24 (a := i * 4294967296) (by omega)).mono ?_
  rintro v _ ⟨rfl, rfl⟩
  simp only [pf_min, undef_bool, str_len, str_eql, str_neq, conv_in, un_not, eq_self, decide_true, decide_false, Bool.not_true, Bool.not_false, argE_0, argE_1, argE_2, argE_3, argE_4, aw_skip, aw_reg, aw_seq, aw_cond, aw_block, aw_exit, aw_ret, inSeq_normal, inSeq_exit, inSeq_ret, inBlk_exit, inBlk_normal, inBlk_ret, OptK_some, OptH_some, OptS_some, kont_app, ar_nil, ar_guard, ar_mv, ar_pick, ar_new, ar_box, ar_build, ar_buildSl, ar_load, ar_store, ar_nilChk, ar_bin, ar_un, ar_conv, ar_convSB, ar_convBS, ar_mkFunc, ar_mkIface, ar_mkSlice, ar_sl, ar_slStr, ar_fieldA, ar_field, ar_idxA, ar_idxArr, ar_idx, ar_idxS, ar_extract, ar_append, ar_len, ar_call, ar_callv, callvP_func, List.nil_append, List.cons_append, List.append_nil, ar_pf, ar_hf, ar_slA, upO_some, upO_none, sX_t, sX_c, sX_f, sXs, sXO, sXP, fin_t, fin_t2, fin_t3, up_same, up_ne, ne_eq, not_false_eq_true, AVal.bool.injEq, decide_eq_true_eq, decide_eq_false_iff_not, Int.ofNat_eq_natCast, Int.reduceNegSucc, Int.cast_ofNat_Int, reduceCtorEq, bin_lss, bin_leq, bin_gtr, bin_geq, bin_eql, bin_neq, bin_add, bin_sub, bin_mul, Bool.not_eq_true', Bool.not_eq_false', Bool.true_eq_false, Bool.false_eq_true, Nat.reduceEqDiff, ↓reduceIte, if_true, if_false, Nat.reduceAdd, Int.reduceEq, Int.reduceLT, Int.reduceLE]
  refine (size_spec h24 (a := 1095216660480) (by decide)).mono ?_
  rintro v _ ⟨rfl, rfl⟩
  have e0 : ((1095216660480 : Nat) : Int) = 1095216660480 := rfl
  have s1 : aBin .shr (.int .u64 ((i * 4294967296 : Nat) : Int)) (.int .u64 32) = some (.int .u64 (i : Int)) := by
    have := shr32 (i * 4294967296)
    rw [show i * 4294967296 / 4294967296 = i by omega] at this
    exact this
  have s2 : aBin .rem (.int .u64 (i : Int)) (.int .u64 1095216660480) = some (.int .u64 (i : Int)) := by
    have := remU64 (a := i) 1095216660480 (by decide)
    rw [show i % 1095216660480 = i by omega] at this
    exact this
  have s3 : aBin .shl (.int .u64 ((i * 4294967296 : Nat) : Int)) (.int .u64 32) = some (.int .u64 0) := by
    have := shl32w (i * 4294967296)
    rw [show i * 4294967296 * 4294967296 % 18446744073709551616 = 0 by omega] at this
    exact this
  simp only [pf_min, undef_bool, str_len, str_eql, str_neq, conv_in, un_not, eq_self, decide_true, decide_false, Bool.not_true, Bool.not_false, argE_0, argE_1, argE_2, argE_3, argE_4, aw_skip, aw_reg, aw_seq, aw_cond, aw_block, aw_exit, aw_ret, inSeq_normal, inSeq_exit, inSeq_ret, inBlk_exit, inBlk_normal, inBlk_ret, OptK_some, OptH_some, OptS_some, kont_app, ar_nil, ar_guard, ar_mv, ar_pick, ar_new, ar_box, ar_build, ar_buildSl, ar_load, ar_store, ar_nilChk, ar_bin, ar_un, ar_conv, ar_convSB, ar_convBS, ar_mkFunc, ar_mkIface, ar_mkSlice, ar_sl, ar_slStr, ar_fieldA, ar_field, ar_idxA, ar_idxArr, ar_idx, ar_idxS, ar_extract, ar_append, ar_len, ar_call, ar_callv, callvP_func, List.nil_append, List.cons_append, List.append_nil, ar_pf, ar_hf, ar_slA, upO_some, upO_none, sX_t, sX_c, sX_f, sXs, sXO, sXP, fin_t, fin_t2, fin_t3, up_same, up_ne, ne_eq, not_false_eq_true, AVal.bool.injEq, decide_eq_true_eq, decide_eq_false_iff_not, Int.ofNat_eq_natCast, Int.reduceNegSucc, Int.cast_ofNat_Int, reduceCtorEq, bin_lss, bin_leq, bin_gtr, bin_geq, bin_eql, bin_neq, bin_add, bin_sub, bin_mul, Bool.not_eq_true', Bool.not_eq_false', Bool.true_eq_false, Bool.false_eq_true, Nat.reduceEqDiff, ↓reduceIte, if_true, if_false, Nat.reduceAdd, Int.reduceEq, Int.reduceLT, Int.reduceLE, e0, s1, s2, s3]
  refine (div64_spec h25 h43 h60 hi).mono ?_
  rintro v _ ⟨⟨z, rfl⟩, rfl⟩
  have s4 : aBin .quo (.int .u64 (i : Int)) (.int .u64 1095216660480) = some (.int .u64 0) := by
    have := quoU64 (a := i) 1095216660480 (by decide) (by omega)
    rw [show i / 1095216660480 = 0 by omega] at this
    exact this
  simp only [pf_min, undef_bool, str_len, str_eql, str_neq, conv_in, un_not, eq_self, decide_true, decide_false, Bool.not_true, Bool.not_false, argE_0, argE_1, argE_2, argE_3, argE_4, aw_skip, aw_reg, aw_seq, aw_cond, aw_block, aw_exit, aw_ret, inSeq_normal, inSeq_exit, inSeq_ret, inBlk_exit, inBlk_normal, inBlk_ret, OptK_some, OptH_some, OptS_some, kont_app, ar_nil, ar_guard, ar_mv, ar_pick, ar_new, ar_box, ar_build, ar_buildSl, ar_load, ar_store, ar_nilChk, ar_bin, ar_un, ar_conv, ar_convSB, ar_convBS, ar_mkFunc, ar_mkIface, ar_mkSlice, ar_sl, ar_slStr, ar_fieldA, ar_field, ar_idxA, ar_idxArr, ar_idx, ar_idxS, ar_extract, ar_append, ar_len, ar_call, ar_callv, callvP_func, List.nil_append, List.cons_append, List.append_nil, ar_pf, ar_hf, ar_slA, upO_some, upO_none, sX_t, sX_c, sX_f, sXs, sXO, sXP, fin_t, fin_t2, fin_t3, up_same, up_ne, ne_eq, not_false_eq_true, AVal.bool.injEq, decide_eq_true_eq, decide_eq_false_iff_not, Int.ofNat_eq_natCast, Int.reduceNegSucc, Int.cast_ofNat_Int, reduceCtorEq, bin_lss, bin_leq, bin_gtr, bin_geq, bin_eql, bin_neq, bin_add, bin_sub, bin_mul, Bool.not_eq_true', Bool.not_eq_false', Bool.true_eq_false, Bool.false_eq_true, Nat.reduceEqDiff, ↓reduceIte, if_true, if_false, Nat.reduceAdd, Int.reduceEq, Int.reduceLT, Int.reduceLE, ext_0, ext_1, s4]
  refine (brought_spec h41 (lo := i * 4294967296 / 255) (by omega) _).mono ?_
  rintro v _ ⟨rfl, rfl⟩
  simp only [pf_min, undef_bool, str_len, str_eql, str_neq, conv_in, un_not, eq_self, decide_true, decide_false, Bool.not_true, Bool.not_false, argE_0, argE_1, argE_2, argE_3, argE_4, aw_skip, aw_reg, aw_seq, aw_cond, aw_block, aw_exit, aw_ret, inSeq_normal, inSeq_exit, inSeq_ret, inBlk_exit, inBlk_normal, inBlk_ret, OptK_some, OptH_some, OptS_some, kont_app, ar_nil, ar_guard, ar_mv, ar_pick, ar_new, ar_box, ar_build, ar_buildSl, ar_load, ar_store, ar_nilChk, ar_bin, ar_un, ar_conv, ar_convSB, ar_convBS, ar_mkFunc, ar_mkIface, ar_mkSlice, ar_sl, ar_slStr, ar_fieldA, ar_field, ar_idxA, ar_idxArr, ar_idx, ar_idxS, ar_extract, ar_append, ar_len, ar_call, ar_callv, callvP_func, List.nil_append, List.cons_append, List.append_nil, ar_pf, ar_hf, ar_slA, upO_some, upO_none, sX_t, sX_c, sX_f, sXs, sXO, sXP, fin_t, fin_t2, fin_t3, up_same, up_ne, ne_eq, not_false_eq_true, AVal.bool.injEq, decide_eq_true_eq, decide_eq_false_iff_not, Int.ofNat_eq_natCast, Int.reduceNegSucc, Int.cast_ofNat_Int, reduceCtorEq, bin_lss, bin_leq, bin_gtr, bin_geq, bin_eql, bin_neq, bin_add, bin_sub, bin_mul, Bool.not_eq_true', Bool.not_eq_false', Bool.true_eq_false, Bool.false_eq_true, Nat.reduceEqDiff, ↓reduceIte, if_true, if_false, Nat.reduceAdd, Int.reduceEq, Int.reduceLT, Int.reduceLE]
  exact ⟨by trivial, by trivial⟩
theorem rpart_spec (h14 : N.is 14 = false) (h29 : N.is 29 = false) (h30 : N.is 30 = false) {i : Nat} (hi : i < 256) {H : AHeap} :
    ACalls Tryz.prog N 14 [.int .i64 ((i * 4294967296 : Nat) : Int), .int .i64 1095216660480] H fun v H' => v = .int .i64 (partF i : Int) ∧ H = H' := by
  have e : i * 4294967296 * 4294967296 / 1095216660480 = partF i := by unfold partF; omega
  have := rdiv_spec h14 h29 h30 (a := i * 4294967296) (b := 1095216660480) (by omega) (by decide) (by decide) (by unfold partF at e; omega) (H := H)
  rw [e] at this
  exact this
end Go.Proofs.Tx
/- Texture: the colour at a place: the contracts. -/
namespace Go.Proofs.Tx
open Go.Abs Go.Abs.S
set_option linter.unusedSimpArgs false
variable {N : ANat}
structure NTx (N : ANat) : Prop where
  n4 : N.is 4 = false
  n5 : N.is 5 = false
  n7 : N.is 7 = false
  n8 : N.is 8 = false
  n9 : N.is 9 = false
  n10 : N.is 10 = false
  n11 : N.is 11 = false
  n12 : N.is 12 = false
  n13 : N.is 13 = false
  n14 : N.is 14 = false
  n15 : N.is 15 = false
  n20 : N.is 20 = false
  n21 : N.is 21 = false
  n22 : N.is 22 = false
  n23 : N.is 23 = false
  n24 : N.is 24 = false
  n25 : N.is 25 = false
  n26 : N.is 26 = false
  n27 : N.is 27 = false
  n28 : N.is 28 = false
  n29 : N.is 29 = false
  n30 : N.is 30 = false
  n31 : N.is 31 = false
  n40 : N.is 40 = false
  n41 : N.is 41 = false
  n43 : N.is 43 = false
  n60 : N.is 60 = false
/-- is it a right texture? -/
def rightB (w h : Int) (n : Nat) : Bool := (((decide (1 ≤ w) && decide (w ≤ 1024)) && decide (1 ≤ h)) && decide (h ≤ 1024)) && decide ((n : Int) = 4 * w * h)
abbrev texV (w h : Int) (s : AVal) : AVal := .agg [.int .i64 w, .int .i64 h, s]
theorem mul_1024 {a b : Int} (h1 : 1 ≤ a) (h2 : a ≤ 1024) (h3 : 1 ≤ b) (h4 : b ≤ 1024) : 0 ≤ a * b ∧ a * b ≤ 1048576 := by
  refine ⟨Int.mul_nonneg (by omega) (by omega), ?_⟩
  have : a * b ≤ 1024 * 1024 := Int.mul_le_mul h2 h4 (by omega) (by decide)
  omega
section
variable {H : AHeap} {w h : Int} {s : AVal} {n : Nat}
theorem right_spec (h7 : N.is 7 = false) (w h : Int) (hs : aLenK false s = some (.int .i64 (n : Int))) : ACalls Tryz.prog N 7 [texV w h s] H fun v H' => v = .bool (rightB w h n) ∧ Ext H.next H H' := by
  refine acalls_ofN h7 za7 rfl ?_
  obtain ⟨H1, m1, r1, k1, o1⟩ := row_newL H [.int .i64 w, .int .i64 h, s] (n := 3) rfl
  have E1 : Ext H.next H H1 := Ext.of_new k1 o1 (Nat.le_refl _)
  have l0 := row_load r1 (n := 3) rfl (i := 0) rfl
  have l1 := row_load r1 (n := 3) rfl (i := 1) rfl
  have l2 := row_load r1 (n := 3) rfl (i := 2) rfl
  unfold rightB
  by_cases c1 : 1 ≤ w
  · by_cases c2 : w ≤ 1024
    · by_cases c3 : 1 ≤ h
      · by_cases c4 : h ≤ 1024
        · have hm := mul_1024 c1 c2 c3 c4
          have e0 : 4 * w * h = 4 * (w * h) := Int.mul_assoc _ _ _
          have e1 : IntKind.i64.wrap (4 * w) = 4 * w := wrap64 (by omega) (by omega)
          have e2 : IntKind.i64.wrap (4 * w * h) = 4 * w * h := by rw [e0]; exact wrap64 (by omega) (by omega)
          simp only [c7, pf_min, undef_bool, str_len, str_eql, str_neq, conv_in, un_not, eq_self, decide_true, decide_false, Bool.not_true, Bool.not_false, argE_0, argE_1, argE_2, argE_3, argE_4, aw_skip, aw_reg, aw_seq, aw_cond, aw_block, aw_exit, aw_ret, inSeq_normal, inSeq_exit, inSeq_ret, inBlk_exit, inBlk_normal, inBlk_ret, OptK_some, OptH_some, OptS_some, kont_app, ar_nil, ar_guard, ar_mv, ar_pick, ar_new, ar_box, ar_build, ar_buildSl, ar_load, ar_store, ar_nilChk, ar_bin, ar_un, ar_conv, ar_convSB, ar_convBS, ar_mkFunc, ar_mkIface, ar_mkSlice, ar_sl, ar_slStr, ar_fieldA, ar_field, ar_idxA, ar_idxArr, ar_idx, ar_idxS, ar_extract, ar_append, ar_len, ar_call, ar_callv, callvP_func, List.nil_append, List.cons_append, List.append_nil, ar_pf, ar_hf, ar_slA, upO_some, upO_none, sX_t, sX_c, sX_f, sXs, sXO, sXP, fin_t, fin_t2, fin_t3, up_same, up_ne, ne_eq, not_false_eq_true, AVal.bool.injEq, decide_eq_true_eq, decide_eq_false_iff_not, Int.ofNat_eq_natCast, Int.reduceNegSucc, Int.cast_ofNat_Int, reduceCtorEq, bin_lss, bin_leq, bin_gtr, bin_geq, bin_eql, bin_neq, bin_add, bin_sub, bin_mul, Bool.not_eq_true', Bool.not_eq_false', Bool.true_eq_false, Bool.false_eq_true, Nat.reduceEqDiff, ↓reduceIte, if_true, if_false, Nat.reduceAdd, Int.reduceEq, Int.reduceLT, Int.reduceLE, cells_agg, m1, fld0, l0, l1, l2, c1, c2, c3, c4, hs, e1, e2]
          exact ⟨by simp, E1⟩
        · simp only [c7, pf_min, undef_bool, str_len, str_eql, str_neq, conv_in, un_not, eq_self, decide_true, decide_false, Bool.not_true, Bool.not_false, argE_0, argE_1, argE_2, argE_3, argE_4, aw_skip, aw_reg, aw_seq, aw_cond, aw_block, aw_exit, aw_ret, inSeq_normal, inSeq_exit, inSeq_ret, inBlk_exit, inBlk_normal, inBlk_ret, OptK_some, OptH_some, OptS_some, kont_app, ar_nil, ar_guard, ar_mv, ar_pick, ar_new, ar_box, ar_build, ar_buildSl, ar_load, ar_store, ar_nilChk, ar_bin, ar_un, ar_conv, ar_convSB, ar_convBS, ar_mkFunc, ar_mkIface, ar_mkSlice, ar_sl, ar_slStr, ar_fieldA, ar_field, ar_idxA, ar_idxArr, ar_idx, ar_idxS, ar_extract, ar_append, ar_len, ar_call, ar_callv, callvP_func, List.nil_append, List.cons_append, List.append_nil, ar_pf, ar_hf, ar_slA, upO_some, upO_none, sX_t, sX_c, sX_f, sXs, sXO, sXP, fin_t, fin_t2, fin_t3, up_same, up_ne, ne_eq, not_false_eq_true, AVal.bool.injEq, decide_eq_true_eq, decide_eq_false_iff_not, Int.ofNat_eq_natCast, Int.reduceNegSucc, Int.cast_ofNat_Int, reduceCtorEq, bin_lss, bin_leq, bin_gtr, bin_geq, bin_eql, bin_neq, bin_add, bin_sub, bin_mul, Bool.not_eq_true', Bool.not_eq_false', Bool.true_eq_false, Bool.false_eq_true, Nat.reduceEqDiff, ↓reduceIte, if_true, if_false, Nat.reduceAdd, Int.reduceEq, Int.reduceLT, Int.reduceLE, cells_agg, m1, fld0, l0, l1, l2, c1, c2, c3, c4]
          exact ⟨by simp, E1⟩
      · simp only [c7, pf_min, undef_bool, str_len, str_eql, str_neq, conv_in, un_not, eq_self, decide_true, decide_false, Bool.not_true, Bool.not_false, argE_0, argE_1, argE_2, argE_3, argE_4, aw_skip, aw_reg, aw_seq, aw_cond, aw_block, aw_exit, aw_ret, inSeq_normal, inSeq_exit, inSeq_ret, inBlk_exit, inBlk_normal, inBlk_ret, OptK_some, OptH_some, OptS_some, kont_app, ar_nil, ar_guard, ar_mv, ar_pick, ar_new, ar_box, ar_build, ar_buildSl, ar_load, ar_store, ar_nilChk, ar_bin, ar_un, ar_conv, ar_convSB, ar_convBS, ar_mkFunc, ar_mkIface, ar_mkSlice, ar_sl, ar_slStr, ar_fieldA, ar_field, ar_idxA, ar_idxArr, ar_idx, ar_idxS, ar_extract, ar_append, ar_len, ar_call, ar_callv, callvP_func, List.nil_append, List.cons_append, List.append_nil, ar_pf, ar_hf, ar_slA, upO_some, upO_none, sX_t, sX_c, sX_f, sXs, sXO, sXP, fin_t, fin_t2, fin_t3, up_same, up_ne, ne_eq, not_false_eq_true, AVal.bool.injEq, decide_eq_true_eq, decide_eq_false_iff_not, Int.ofNat_eq_natCast, Int.reduceNegSucc, Int.cast_ofNat_Int, reduceCtorEq, bin_lss, bin_leq, bin_gtr, bin_geq, bin_eql, bin_neq, bin_add, bin_sub, bin_mul, Bool.not_eq_true', Bool.not_eq_false', Bool.true_eq_false, Bool.false_eq_true, Nat.reduceEqDiff, ↓reduceIte, if_true, if_false, Nat.reduceAdd, Int.reduceEq, Int.reduceLT, Int.reduceLE, cells_agg, m1, fld0, l0, l1, l2, c1, c2, c3]
        exact ⟨by simp, E1⟩
    · simp only [c7, pf_min, undef_bool, str_len, str_eql, str_neq, conv_in, un_not, eq_self, decide_true, decide_false, Bool.not_true, Bool.not_false, argE_0, argE_1, argE_2, argE_3, argE_4, aw_skip, aw_reg, aw_seq, aw_cond, aw_block, aw_exit, aw_ret, inSeq_normal, inSeq_exit, inSeq_ret, inBlk_exit, inBlk_normal, inBlk_ret, OptK_some, OptH_some, OptS_some, kont_app, ar_nil, ar_guard, ar_mv, ar_pick, ar_new, ar_box, ar_build, ar_buildSl, ar_load, ar_store, ar_nilChk, ar_bin, ar_un, ar_conv, ar_convSB, ar_convBS, ar_mkFunc, ar_mkIface, ar_mkSlice, ar_sl, ar_slStr, ar_fieldA, ar_field, ar_idxA, ar_idxArr, ar_idx, ar_idxS, ar_extract, ar_append, ar_len, ar_call, ar_callv, callvP_func, List.nil_append, List.cons_append, List.append_nil, ar_pf, ar_hf, ar_slA, upO_some, upO_none, sX_t, sX_c, sX_f, sXs, sXO, sXP, fin_t, fin_t2, fin_t3, up_same, up_ne, ne_eq, not_false_eq_true, AVal.bool.injEq, decide_eq_true_eq, decide_eq_false_iff_not, Int.ofNat_eq_natCast, Int.reduceNegSucc, Int.cast_ofNat_Int, reduceCtorEq, bin_lss, bin_leq, bin_gtr, bin_geq, bin_eql, bin_neq, bin_add, bin_sub, bin_mul, Bool.not_eq_true', Bool.not_eq_false', Bool.true_eq_false, Bool.false_eq_true, Nat.reduceEqDiff, ↓reduceIte, if_true, if_false, Nat.reduceAdd, Int.reduceEq, Int.reduceLT, Int.reduceLE, cells_agg, m1, fld0, l0, l1, l2, c1, c2]
      exact ⟨by simp, E1⟩
  · simp only [c7, pf_min, undef_bool, str_len, str_eql, str_neq, conv_in, un_not, eq_self, decide_true, decide_false, Bool.not_true, Bool.not_false, argE_0, argE_1, argE_2, argE_3, argE_4, aw_skip, aw_reg, aw_seq, aw_cond, aw_block, aw_exit, aw_ret, inSeq_normal, inSeq_exit, inSeq_ret, inBlk_exit, inBlk_normal, inBlk_ret, OptK_some, OptH_some, OptS_some, kont_app, ar_nil, ar_guard, ar_mv, ar_pick, ar_new, ar_box, ar_build, ar_buildSl, ar_load, ar_store, ar_nilChk, ar_bin, ar_un, ar_conv, ar_convSB, ar_convBS, ar_mkFunc, ar_mkIface, ar_mkSlice, ar_sl, ar_slStr, ar_fieldA, ar_field, ar_idxA, ar_idxArr, ar_idx, ar_idxS, ar_extract, ar_append, ar_len, ar_call, ar_callv, callvP_func, List.nil_append, List.cons_append, List.append_nil, ar_pf, ar_hf, ar_slA, upO_some, upO_none, sX_t, sX_c, sX_f, sXs, sXO, sXP, fin_t, fin_t2, fin_t3, up_same, up_ne, ne_eq, not_false_eq_true, AVal.bool.injEq, decide_eq_true_eq, decide_eq_false_iff_not, Int.ofNat_eq_natCast, Int.reduceNegSucc, Int.cast_ofNat_Int, reduceCtorEq, bin_lss, bin_leq, bin_gtr, bin_geq, bin_eql, bin_neq, bin_add, bin_sub, bin_mul, Bool.not_eq_true', Bool.not_eq_false', Bool.true_eq_false, Bool.false_eq_true, Nat.reduceEqDiff, ↓reduceIte, if_true, if_false, Nat.reduceAdd, Int.reduceEq, Int.reduceLT, Int.reduceLE, cells_agg, m1, fld0, l0, l1, l2, c1]
    exact ⟨by simp, E1⟩
theorem rright_spec (h12 : N.is 12 = false) (w h : Int) (hs : aLenK false s = some (.int .i64 (n : Int))) : ACalls Tryz.prog N 12 [texV w h s] H fun v H' => v = .bool (rightB w h n) ∧ Ext H.next H H' := by
  refine acalls_ofN h12 za12 rfl ?_
  obtain ⟨H1, m1, r1, k1, o1⟩ := row_newL H [.int .i64 w, .int .i64 h, s] (n := 3) rfl
  have E1 : Ext H.next H H1 := Ext.of_new k1 o1 (Nat.le_refl _)
  have l0 := row_load r1 (n := 3) rfl (i := 0) rfl
  have l1 := row_load r1 (n := 3) rfl (i := 1) rfl
  have l2 := row_load r1 (n := 3) rfl (i := 2) rfl
  unfold rightB
  by_cases c1 : 1 ≤ w
  · by_cases c2 : w ≤ 1024
    · by_cases c3 : 1 ≤ h
      · by_cases c4 : h ≤ 1024
        · have hm := mul_1024 c1 c2 c3 c4
          have e0 : 4 * w * h = 4 * (w * h) := Int.mul_assoc _ _ _
          have e1 : IntKind.i64.wrap (4 * w) = 4 * w := wrap64 (by omega) (by omega)
          have e2 : IntKind.i64.wrap (4 * w * h) = 4 * w * h := by rw [e0]; exact wrap64 (by omega) (by omega)
          simp only [c12, pf_min, undef_bool, str_len, str_eql, str_neq, conv_in, un_not, eq_self, decide_true, decide_false, Bool.not_true, Bool.not_false, argE_0, argE_1, argE_2, argE_3, argE_4, aw_skip, aw_reg, aw_seq, aw_cond, aw_block, aw_exit, aw_ret, inSeq_normal, inSeq_exit, inSeq_ret, inBlk_exit, inBlk_normal, inBlk_ret, OptK_some, OptH_some, OptS_some, kont_app, ar_nil, ar_guard, ar_mv, ar_pick, ar_new, ar_box, ar_build, ar_buildSl, ar_load, ar_store, ar_nilChk, ar_bin, ar_un, ar_conv, ar_convSB, ar_convBS, ar_mkFunc, ar_mkIface, ar_mkSlice, ar_sl, ar_slStr, ar_fieldA, ar_field, ar_idxA, ar_idxArr, ar_idx, ar_idxS, ar_extract, ar_append, ar_len, ar_call, ar_callv, callvP_func, List.nil_append, List.cons_append, List.append_nil, ar_pf, ar_hf, ar_slA, upO_some, upO_none, sX_t, sX_c, sX_f, sXs, sXO, sXP, fin_t, fin_t2, fin_t3, up_same, up_ne, ne_eq, not_false_eq_true, AVal.bool.injEq, decide_eq_true_eq, decide_eq_false_iff_not, Int.ofNat_eq_natCast, Int.reduceNegSucc, Int.cast_ofNat_Int, reduceCtorEq, bin_lss, bin_leq, bin_gtr, bin_geq, bin_eql, bin_neq, bin_add, bin_sub, bin_mul, Bool.not_eq_true', Bool.not_eq_false', Bool.true_eq_false, Bool.false_eq_true, Nat.reduceEqDiff, ↓reduceIte, if_true, if_false, Nat.reduceAdd, Int.reduceEq, Int.reduceLT, Int.reduceLE, cells_agg, m1, fld0, l0, l1, l2, c1, c2, c3, c4, hs, e1, e2]
          exact ⟨by simp, E1⟩
        · simp only [c12, pf_min, undef_bool, str_len, str_eql, str_neq, conv_in, un_not, eq_self, decide_true, decide_false, Bool.not_true, Bool.not_false, argE_0, argE_1, argE_2, argE_3, argE_4, aw_skip, aw_reg, aw_seq, aw_cond, aw_block, aw_exit, aw_ret, inSeq_normal, inSeq_exit, inSeq_ret, inBlk_exit, inBlk_normal, inBlk_ret, OptK_some, OptH_some, OptS_some, kont_app, ar_nil, ar_guard, ar_mv, ar_pick, ar_new, ar_box, ar_build, ar_buildSl, ar_load, ar_store, ar_nilChk, ar_bin, ar_un, ar_conv, ar_convSB, ar_convBS, ar_mkFunc, ar_mkIface, ar_mkSlice, ar_sl, ar_slStr, ar_fieldA, ar_field, ar_idxA, ar_idxArr, ar_idx, ar_idxS, ar_extract, ar_append, ar_len, ar_call, ar_callv, callvP_func, List.nil_append, List.cons_append, List.append_nil, ar_pf, ar_hf, ar_slA, upO_some, upO_none, sX_t, sX_c, sX_f, sXs, sXO, sXP, fin_t, fin_t2, fin_t3, up_same, up_ne, ne_eq, not_false_eq_true, AVal.bool.injEq, decide_eq_true_eq, decide_eq_false_iff_not, Int.ofNat_eq_natCast, Int.reduceNegSucc, Int.cast_ofNat_Int, reduceCtorEq, bin_lss, bin_leq, bin_gtr, bin_geq, bin_eql, bin_neq, bin_add, bin_sub, bin_mul, Bool.not_eq_true', Bool.not_eq_false', Bool.true_eq_false, Bool.false_eq_true, Nat.reduceEqDiff, ↓reduceIte, if_true, if_false, Nat.reduceAdd, Int.reduceEq, Int.reduceLT, Int.reduceLE, cells_agg, m1, fld0, l0, l1, l2, c1, c2, c3, c4]
          exact ⟨by simp, E1⟩
      · simp only [c12, pf_min, undef_bool, str_len, str_eql, str_neq, conv_in, un_not, eq_self, decide_true, decide_false, Bool.not_true, Bool.not_false, argE_0, argE_1, argE_2, argE_3, argE_4, aw_skip, aw_reg, aw_seq, aw_cond, aw_block, aw_exit, aw_ret, inSeq_normal, inSeq_exit, inSeq_ret, inBlk_exit, inBlk_normal, inBlk_ret, OptK_some, OptH_some, OptS_some, kont_app, ar_nil, ar_guard, ar_mv, ar_pick, ar_new, ar_box, ar_build, ar_buildSl, ar_load, ar_store, ar_nilChk, ar_bin, ar_un, ar_conv, ar_convSB, ar_convBS, ar_mkFunc, ar_mkIface, ar_mkSlice, ar_sl, ar_slStr, ar_fieldA, ar_field, ar_idxA, ar_idxArr, ar_idx, ar_idxS, ar_extract, ar_append, ar_len, ar_call, ar_callv, callvP_func, List.nil_append, List.cons_append, List.append_nil, ar_pf, ar_hf, ar_slA, upO_some, upO_none, sX_t, sX_c, sX_f, sXs, sXO, sXP, fin_t, fin_t2, fin_t3, up_same, up_ne, ne_eq, not_false_eq_true, AVal.bool.injEq, decide_eq_true_eq, decide_eq_false_iff_not, Int.ofNat_eq_natCast, Int.reduceNegSucc, Int.cast_ofNat_Int, reduceCtorEq, bin_lss, bin_leq, bin_gtr, bin_geq, bin_eql, bin_neq, bin_add, bin_sub, bin_mul, Bool.not_eq_true', Bool.not_eq_false', Bool.true_eq_false, Bool.false_eq_true, Nat.reduceEqDiff, ↓reduceIte, if_true, if_false, Nat.reduceAdd, Int.reduceEq, Int.reduceLT, Int.reduceLE, cells_agg, m1, fld0, l0, l1, l2, c1, c2, c3]
        exact ⟨by simp, E1⟩
    · simp only [c12, pf_min, undef_bool, str_len, str_eql, str_neq, conv_in, un_not, eq_self, decide_true, decide_false, Bool.not_true, Bool.not_false, argE_0, argE_1, argE_2, argE_3, argE_4, aw_skip, aw_reg, aw_seq, aw_cond, aw_block, aw_exit, aw_ret, inSeq_normal, inSeq_exit, inSeq_ret, inBlk_exit, inBlk_normal, inBlk_ret, OptK_some, OptH_some, OptS_some, kont_app, ar_nil, ar_guard, ar_mv, ar_pick, ar_new, ar_box, ar_build, ar_buildSl, ar_load, ar_store, ar_nilChk, ar_bin, ar_un, ar_conv, ar_convSB, ar_convBS, ar_mkFunc, ar_mkIface, ar_mkSlice, ar_sl, ar_slStr, ar_fieldA, ar_field, ar_idxA, ar_idxArr, ar_idx, ar_idxS, ar_extract, ar_append, ar_len, ar_call, ar_callv, callvP_func, List.nil_append, List.cons_append, List.append_nil, ar_pf, ar_hf, ar_slA, upO_some, upO_none, sX_t, sX_c, sX_f, sXs, sXO, sXP, fin_t, fin_t2, fin_t3, up_same, up_ne, ne_eq, not_false_eq_true, AVal.bool.injEq, decide_eq_true_eq, decide_eq_false_iff_not, Int.ofNat_eq_natCast, Int.reduceNegSucc, Int.cast_ofNat_Int, reduceCtorEq, bin_lss, bin_leq, bin_gtr, bin_geq, bin_eql, bin_neq, bin_add, bin_sub, bin_mul, Bool.not_eq_true', Bool.not_eq_false', Bool.true_eq_false, Bool.false_eq_true, Nat.reduceEqDiff, ↓reduceIte, if_true, if_false, Nat.reduceAdd, Int.reduceEq, Int.reduceLT, Int.reduceLE, cells_agg, m1, fld0, l0, l1, l2, c1, c2]
      exact ⟨by simp, E1⟩
  · simp only [c12, pf_min, undef_bool, str_len, str_eql, str_neq, conv_in, un_not, eq_self, decide_true, decide_false, Bool.not_true, Bool.not_false, argE_0, argE_1, argE_2, argE_3, argE_4, aw_skip, aw_reg, aw_seq, aw_cond, aw_block, aw_exit, aw_ret, inSeq_normal, inSeq_exit, inSeq_ret, inBlk_exit, inBlk_normal, inBlk_ret, OptK_some, OptH_some, OptS_some, kont_app, ar_nil, ar_guard, ar_mv, ar_pick, ar_new, ar_box, ar_build, ar_buildSl, ar_load, ar_store, ar_nilChk, ar_bin, ar_un, ar_conv, ar_convSB, ar_convBS, ar_mkFunc, ar_mkIface, ar_mkSlice, ar_sl, ar_slStr, ar_fieldA, ar_field, ar_idxA, ar_idxArr, ar_idx, ar_idxS, ar_extract, ar_append, ar_len, ar_call, ar_callv, callvP_func, List.nil_append, List.cons_append, List.append_nil, ar_pf, ar_hf, ar_slA, upO_some, upO_none, sX_t, sX_c, sX_f, sXs, sXO, sXP, fin_t, fin_t2, fin_t3, up_same, up_ne, ne_eq, not_false_eq_true, AVal.bool.injEq, decide_eq_true_eq, decide_eq_false_iff_not, Int.ofNat_eq_natCast, Int.reduceNegSucc, Int.cast_ofNat_Int, reduceCtorEq, bin_lss, bin_leq, bin_gtr, bin_geq, bin_eql, bin_neq, bin_add, bin_sub, bin_mul, Bool.not_eq_true', Bool.not_eq_false', Bool.true_eq_false, Bool.false_eq_true, Nat.reduceEqDiff, ↓reduceIte, if_true, if_false, Nat.reduceAdd, Int.reduceEq, Int.reduceLT, Int.reduceLE, cells_agg, m1, fld0, l0, l1, l2, c1]
    exact ⟨by simp, E1⟩
end
/-- the part that a closure of Sample tells -/
theorem part_spec (hN : NTx N) {H : AHeap} {bt ba m at_ i : Nat} {w h : Int} {s : AVal} {pix : List UInt8} {b : UInt8} (rt : Row H bt [.int .i64 w, .int .i64 h, s]) (ra : Row H ba [.int .i64 (at_ : Int)]) (hs : Cel m H s (byts pix)) (hb : pix[at_ + i]? = some b) (hle : at_ + i ≤ 9223372036854775807) :
    ACalls Tryz.prog N 9 [.int .i64 (i : Int), cellR bt 3 0, cellR ba 1 0] H fun v H' => v = .int .i64 (partF b.toNat : Int) ∧ H = H' := by
  refine acalls_ofN hN.n9 za9 rfl ?_
  have l2 := row_load rt (n := 3) rfl (i := 2) rfl
  have la := row_load ra (n := 1) rfl (i := 0) rfl
  have hlt : at_ + i < (byts pix).length := by rw [byts_len]; exact (List.getElem?_eq_some_iff.1 hb).1
  have hi := hs.idx .i64 (i := at_ + i) hlt
  have hl := hs.load (byts_get hb)
  have hb256 : b.toNat < 256 := b.toNat_lt
  have e1 : IntKind.i64.wrap (b.toNat : Int) = (b.toNat : Int) := wrap64 (by omega) (by omega)
  simp only [c9, pf_min, undef_bool, str_len, str_eql, str_neq, conv_in, un_not, eq_self, decide_true, decide_false, Bool.not_true, Bool.not_false, argE_0, argE_1, argE_2, argE_3, argE_4, aw_skip, aw_reg, aw_seq, aw_cond, aw_block, aw_exit, aw_ret, inSeq_normal, inSeq_exit, inSeq_ret, inBlk_exit, inBlk_normal, inBlk_ret, OptK_some, OptH_some, OptS_some, kont_app, ar_nil, ar_guard, ar_mv, ar_pick, ar_new, ar_box, ar_build, ar_buildSl, ar_load, ar_store, ar_nilChk, ar_bin, ar_un, ar_conv, ar_convSB, ar_convBS, ar_mkFunc, ar_mkIface, ar_mkSlice, ar_sl, ar_slStr, ar_fieldA, ar_field, ar_idxA, ar_idxArr, ar_idx, ar_idxS, ar_extract, ar_append, ar_len, ar_call, ar_callv, callvP_func, List.nil_append, List.cons_append, List.append_nil, ar_pf, ar_hf, ar_slA, upO_some, upO_none, sX_t, sX_c, sX_f, sXs, sXO, sXP, fin_t, fin_t2, fin_t3, up_same, up_ne, ne_eq, not_false_eq_true, AVal.bool.injEq, decide_eq_true_eq, decide_eq_false_iff_not, Int.ofNat_eq_natCast, Int.reduceNegSucc, Int.cast_ofNat_Int, reduceCtorEq, bin_lss, bin_leq, bin_gtr, bin_geq, bin_eql, bin_neq, bin_add, bin_sub, bin_mul, Bool.not_eq_true', Bool.not_eq_false', Bool.true_eq_false, Bool.false_eq_true, Nat.reduceEqDiff, ↓reduceIte, if_true, if_false, Nat.reduceAdd, Int.reduceEq, Int.reduceLT, Int.reduceLE, fld0, l2, la, wrapN at_ i hle, hi, hl, e1]
  refine (of_spec hN.n11 (x := (b.toNat : Int)) (by omega) (by omega)).mono ?_
  rintro v _ ⟨rfl, rfl⟩
  simp only [pf_min, undef_bool, str_len, str_eql, str_neq, conv_in, un_not, eq_self, decide_true, decide_false, Bool.not_true, Bool.not_false, argE_0, argE_1, argE_2, argE_3, argE_4, aw_skip, aw_reg, aw_seq, aw_cond, aw_block, aw_exit, aw_ret, inSeq_normal, inSeq_exit, inSeq_ret, inBlk_exit, inBlk_normal, inBlk_ret, OptK_some, OptH_some, OptS_some, kont_app, ar_nil, ar_guard, ar_mv, ar_pick, ar_new, ar_box, ar_build, ar_buildSl, ar_load, ar_store, ar_nilChk, ar_bin, ar_un, ar_conv, ar_convSB, ar_convBS, ar_mkFunc, ar_mkIface, ar_mkSlice, ar_sl, ar_slStr, ar_fieldA, ar_field, ar_idxA, ar_idxArr, ar_idx, ar_idxS, ar_extract, ar_append, ar_len, ar_call, ar_callv, callvP_func, List.nil_append, List.cons_append, List.append_nil, ar_pf, ar_hf, ar_slA, upO_some, upO_none, sX_t, sX_c, sX_f, sXs, sXO, sXP, fin_t, fin_t2, fin_t3, up_same, up_ne, ne_eq, not_false_eq_true, AVal.bool.injEq, decide_eq_true_eq, decide_eq_false_iff_not, Int.ofNat_eq_natCast, Int.reduceNegSucc, Int.cast_ofNat_Int, reduceCtorEq, bin_lss, bin_leq, bin_gtr, bin_geq, bin_eql, bin_neq, bin_add, bin_sub, bin_mul, Bool.not_eq_true', Bool.not_eq_false', Bool.true_eq_false, Bool.false_eq_true, Nat.reduceEqDiff, ↓reduceIte, if_true, if_false, Nat.reduceAdd, Int.reduceEq, Int.reduceLT, Int.reduceLE]
  refine (of_spec hN.n11 (x := 255) (by omega) (by omega)).mono ?_
  rintro v _ ⟨rfl, rfl⟩
  have e2 : (255 : Int) * 4294967296 = 1095216660480 := by decide
  have e3 : (b.toNat : Int) * 4294967296 = ((b.toNat * 4294967296 : Nat) : Int) := by omega
  simp only [pf_min, undef_bool, str_len, str_eql, str_neq, conv_in, un_not, eq_self, decide_true, decide_false, Bool.not_true, Bool.not_false, argE_0, argE_1, argE_2, argE_3, argE_4, aw_skip, aw_reg, aw_seq, aw_cond, aw_block, aw_exit, aw_ret, inSeq_normal, inSeq_exit, inSeq_ret, inBlk_exit, inBlk_normal, inBlk_ret, OptK_some, OptH_some, OptS_some, kont_app, ar_nil, ar_guard, ar_mv, ar_pick, ar_new, ar_box, ar_build, ar_buildSl, ar_load, ar_store, ar_nilChk, ar_bin, ar_un, ar_conv, ar_convSB, ar_convBS, ar_mkFunc, ar_mkIface, ar_mkSlice, ar_sl, ar_slStr, ar_fieldA, ar_field, ar_idxA, ar_idxArr, ar_idx, ar_idxS, ar_extract, ar_append, ar_len, ar_call, ar_callv, callvP_func, List.nil_append, List.cons_append, List.append_nil, ar_pf, ar_hf, ar_slA, upO_some, upO_none, sX_t, sX_c, sX_f, sXs, sXO, sXP, fin_t, fin_t2, fin_t3, up_same, up_ne, ne_eq, not_false_eq_true, AVal.bool.injEq, decide_eq_true_eq, decide_eq_false_iff_not, Int.ofNat_eq_natCast, Int.reduceNegSucc, Int.cast_ofNat_Int, reduceCtorEq, bin_lss, bin_leq, bin_gtr, bin_geq, bin_eql, bin_neq, bin_add, bin_sub, bin_mul, Bool.not_eq_true', Bool.not_eq_false', Bool.true_eq_false, Bool.false_eq_true, Nat.reduceEqDiff, ↓reduceIte, if_true, if_false, Nat.reduceAdd, Int.reduceEq, Int.reduceLT, Int.reduceLE]
  rw [e2, e3]
  refine (div_spec hN.n10 hN.n23 hN.n24 hN.n25 hN.n41 hN.n43 hN.n60 hb256).mono ?_
  rintro v _ ⟨rfl, rfl⟩
  simp only [pf_min, undef_bool, str_len, str_eql, str_neq, conv_in, un_not, eq_self, decide_true, decide_false, Bool.not_true, Bool.not_false, argE_0, argE_1, argE_2, argE_3, argE_4, aw_skip, aw_reg, aw_seq, aw_cond, aw_block, aw_exit, aw_ret, inSeq_normal, inSeq_exit, inSeq_ret, inBlk_exit, inBlk_normal, inBlk_ret, OptK_some, OptH_some, OptS_some, kont_app, ar_nil, ar_guard, ar_mv, ar_pick, ar_new, ar_box, ar_build, ar_buildSl, ar_load, ar_store, ar_nilChk, ar_bin, ar_un, ar_conv, ar_convSB, ar_convBS, ar_mkFunc, ar_mkIface, ar_mkSlice, ar_sl, ar_slStr, ar_fieldA, ar_field, ar_idxA, ar_idxArr, ar_idx, ar_idxS, ar_extract, ar_append, ar_len, ar_call, ar_callv, callvP_func, List.nil_append, List.cons_append, List.append_nil, ar_pf, ar_hf, ar_slA, upO_some, upO_none, sX_t, sX_c, sX_f, sXs, sXO, sXP, fin_t, fin_t2, fin_t3, up_same, up_ne, ne_eq, not_false_eq_true, AVal.bool.injEq, decide_eq_true_eq, decide_eq_false_iff_not, Int.ofNat_eq_natCast, Int.reduceNegSucc, Int.cast_ofNat_Int, reduceCtorEq, bin_lss, bin_leq, bin_gtr, bin_geq, bin_eql, bin_neq, bin_add, bin_sub, bin_mul, Bool.not_eq_true', Bool.not_eq_false', Bool.true_eq_false, Bool.false_eq_true, Nat.reduceEqDiff, ↓reduceIte, if_true, if_false, Nat.reduceAdd, Int.reduceEq, Int.reduceLT, Int.reduceLE]
  exact ⟨by trivial, by trivial⟩
def atF (W Hh : Nat) (u v : Int) : Nat := 4 * (plF v Hh * W + plF u W)
theorem at_lt {W Hh : Nat} {u v : Int} (hW : 0 < W) (hH : 0 < Hh) : atF W Hh u v + 3 < 4 * W * Hh := by
  have h1 := plF_lt v hH
  have h2 := plF_lt u hW
  have h3 : (plF v Hh + 1) * W ≤ Hh * W := Nat.mul_le_mul_right _ h1
  rw [Nat.add_mul, Nat.one_mul] at h3
  have h4 : 4 * W * Hh = 4 * (Hh * W) := by rw [Nat.mul_assoc, Nat.mul_comm W]
  unfold atF
  rw [h4]
  omega
/-- the colour -/
def colF (w h : Int) (pix : List UInt8) (u v : Int) : List Nat :=
  if rightB w h pix.length = true then [partF (pix.getD (atF w.toNat h.toNat u v) 0).toNat, partF (pix.getD (atF w.toNat h.toNat u v + 1) 0).toNat, partF (pix.getD (atF w.toNat h.toNat u v + 2) 0).toNat] else [0, 0, 0]
def nats (l : List Nat) : List AVal := l.map fun n : Nat => .int .i64 (n : Int)
theorem right_nat {w h : Int} {n : Nat} (hr : rightB w h n = true) : ∃ W Hh : Nat, w = W ∧ h = Hh ∧ 0 < W ∧ W ≤ 1024 ∧ 0 < Hh ∧ Hh ≤ 1024 ∧ n = 4 * W * Hh := by
  simp only [rightB, Bool.and_eq_true, decide_eq_true_eq] at hr
  obtain ⟨⟨⟨⟨h1, h2⟩, h3⟩, h4⟩, h5⟩ := hr
  obtain ⟨W, rfl⟩ : ∃ W : Nat, w = W := ⟨w.toNat, by omega⟩
  obtain ⟨Hh, rfl⟩ : ∃ W : Nat, h = W := ⟨h.toNat, by omega⟩
  refine ⟨W, Hh, rfl, rfl, by omega, by omega, by omega, by omega, ?_⟩
  have : (n : Int) = ((4 * W * Hh : Nat) : Int) := by simpa using h5
  omega
theorem tr_claim {C : CS} {T : Env} {H : AHeap} {r : List AOper} {d : Option Nat} {K : KT} (b : Nat) (z : List AVal) (s : Option (Nat × Nat)) : wTr C (⟨d, .claim b z s, none⟩ :: r) T H K = OptKT (aClaim H b z s) C r T d H K := _root_.id rfl
theorem ckP_claim {T : Env} {d : Option Nat} (hs : List AHeap) (p : Nat) (q : List Nat) (b : Nat) (z : List AVal) (s : Option (Nat × Nat)) (g : Option (Nat × Bool)) (v : AVal) : ckP hs (p :: q) T ⟨d, .claim b z s, g⟩ v = ((∃ Hp, hs[p]? = some Hp ∧ (sG T g = true → ∃ u, aClaim Hp b z s = some u ∧ aeq u v = true)) ∧ ckP hs q T ⟨d, .claim b z s, g⟩ v) := by
  simp [ckP, wLd]
theorem aeq_ptr (a : Ad) : aeq (.ptr (some a)) (.ptr (some a)) = true := by simp [aeq]
theorem claim_push (H : AHeap) (z : AVal) (hz : aeq z z = true) : aClaim (H.push (.cells [z] 0 false)) H.next [z] none = some (cellR H.next 1 0) := by
  have : (H.push (.cells [z] 0 false)).get H.next = some (.cells [z] 0 false) := by rw [AHeap.get_push, if_pos rfl]
  simp only [aClaim, this, aeqs, hz, Bool.and_self, cond_true, clV, cellR, List.length_cons, List.length_nil]
theorem aw_draw {C : CS} {Q : Post} {T : Env} {H : AHeap} (l : List AOper) (chk : List (List Nat)) : wp C (.draw l chk) Q T H = wTr C (claims H.next l) T (reserves H l) fun ss T' H' => wCk (reserves H l :: ss.map (·.2)) (claims H.next l) chk ss T ∧ Q .normal T' H' := _root_.id rfl
end Go.Proofs.Tx
