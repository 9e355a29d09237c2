/- Part of a proof (WN WQ WR S14 WS WCl WNat L1); no condition. -/
import Derived.Shelf.LaysM
import Derived.Shelf.Strconv.Clone
import Derived.Test.YtdodomcjoekpbaaDoorProg
import Derived.WalkKit
import Derived.Below
import Derived.ChangeSame
import Derived.ReadAgain
import Derived.OpenShut
import Derived.ProofKit
import Derived.Test.YtdodomcjoekpbaaDoorP5
import Derived.Test.YtdodomcjoekpbaaDoorP10
import Derived.Test.YtdodomcjoekpbaaDoorP12
import Derived.Test.YtdodomcjoekpbaaDoorP13
set_option linter.unusedSimpArgs false
set_option linter.unusedVariables false
/- Words: what any text says, at any place, beside the document: the statement's contract. -/
namespace Go.Proofs.Wo
open Go.Abs Go.Abs.S
set_option linter.unusedSimpArgs false
variable {N : ANat}
theorem pair_is (s : Bs) (p : Int) : ∃ (k : Nat) (S : Bs) (n l a e f g : Nat), nextA s p = pairA (wdL k S n l a e) (flL f g) := by
  unfold nextA
  split
  · exact ⟨_, _, _, _, _, _, _, _, rfl⟩
  · split
    · exact ⟨_, _, _, _, _, _, _, _, rfl⟩
    · split
      · exact ⟨_, _, _, _, _, _, _, _, rfl⟩
      · split
        · exact ⟨_, _, _, _, _, _, _, _, rfl⟩
        · exact ⟨_, _, _, _, _, _, _, _, rfl⟩
theorem eq_wd (k : Nat) (S : Bs) (n l a e : Nat) : aPf (.eqS true [(0, .int), (1, .str), (2, .int), (3, .int), (4, .int), (5, .int)]) [.agg (wdL k S n l a e), .agg (wdL k S n l a e)] = some (.bool false) := by
  simp [aPf, wdL, aEqSs, aEqFs, fEq, fEqI, fEqS, eqF_eq]
theorem eq_fl (f g : Nat) : aPf (.eqS true [(0, .int), (1, .int)]) [.agg (flL f g), .agg (flL f g)] = some (.bool false) := by
  simp [aPf, flL, aEqSs, aEqFs, fEq, fEqI, fEqS, eqF_eq]
theorem eqv_bool (b : Bool) : aPf (.eqv false .bool) [.bool b, .bool b] = some (.bool true) := by
  cases b <;> rfl
theorem tell_spec (hN : NWo N) {s : Bs} {p n : Int} (h1 : -9223372036854775808 ≤ p) (h2 : p ≤ 9223372036854775807) (h3 : -9223372036854775808 ≤ n) (h4 : n ≤ 9223372036854775807) {H : AHeap} (hn : 1 < H.next) (G : Glo H 1 powL) :
    ACalls Tryd.prog N 3 [.str s, .int .i64 p, .int .i64 n] H fun v H' => v = .bool true ∧ Ext H.next H H' := by
  refine acalls_ofN (hN.no _ (by decide)) za3 rfl ?_
  have hz : ([.int .u8 0, .str [], .int .i64 0, .int .i64 0, .int .i64 0, .int .i64 0] : List AVal) = ZW := rfl
  have main : ∀ (s : Bs) (T : Env), T 0 = .str s → T 1 = .int .i64 p → T 2 = .int .i64 n → wp (ACalls Tryd.prog N) (seq2 (seq2 c3.body)) (fin c3.res fun v H' => v = .bool true ∧ Ext H.next H H') T H := by
    intro s T t0 t1 t2
    obtain ⟨k, S, m, l, a, e, f, g, hp⟩ := pair_is s p
    simp only [seq2, c3, pf_min, undef_bool, str_len, str_eql, str_neq, conv_in, un_not, eq_self, decide_true, decide_false, Bool.not_true, Bool.not_false, argE_0, argE_1, argE_2, argE_3, argE_4, aw_skip, aw_reg, aw_seq, aw_cond, aw_block, aw_exit, aw_ret, inSeq_normal, inSeq_exit, inSeq_ret, inBlk_exit, inBlk_normal, inBlk_ret, OptK_some, OptH_some, OptS_some, kont_app, ar_nil, ar_guard, ar_mv, ar_pick, ar_new, ar_box, ar_build, ar_buildSl, ar_load, ar_store, ar_nilChk, ar_bin, ar_un, ar_conv, ar_convSB, ar_convBS, ar_mkFunc, ar_mkIface, ar_mkSlice, ar_sl, ar_slStr, ar_fieldA, ar_field, ar_idxA, ar_idxArr, ar_idx, ar_idxS, ar_extract, ar_append, ar_len, ar_call, ar_callv, callvP_func, List.nil_append, List.cons_append, List.append_nil, ar_pf, ar_hf, ar_slA, upO_some, upO_none, sX_t, sX_c, sX_f, sXs, sXO, sXP, fin_t, fin_t2, fin_t3, up_same, up_ne, ne_eq, not_false_eq_true, AVal.bool.injEq, decide_eq_true_eq, decide_eq_false_iff_not, Int.ofNat_eq_natCast, Int.reduceNegSucc, Int.cast_ofNat_Int, reduceCtorEq, bin_lss, bin_leq, bin_gtr, bin_geq, bin_eql, bin_neq, bin_add, bin_sub, bin_mul, Bool.not_eq_true', Bool.not_eq_false', Bool.true_eq_false, Bool.false_eq_true, Nat.reduceEqDiff, ↓reduceIte, if_true, if_false, Nat.reduceAdd, Int.reduceEq, Int.reduceLT, Int.reduceLE, t0, t1, t2]
    refine (next_two hN h1 h2 hp).mono ?_
    rintro v H1 ⟨rfl, E1⟩
    obtain ⟨K1, K2, K3, H2, a1, a2, a3, a4, r61, r21, F2, n2, D2⟩ := keep_two E1 E1.next (wdL_len k S m l a e) (wdL_one k S m l a e) (flL_len f g) (flL_one f g)
    simp only [pf_min, undef_bool, str_len, str_eql, str_neq, conv_in, un_not, eq_self, decide_true, decide_false, Bool.not_true, Bool.not_false, argE_0, argE_1, argE_2, argE_3, argE_4, aw_skip, aw_reg, aw_seq, aw_cond, aw_block, aw_exit, aw_ret, inSeq_normal, inSeq_exit, inSeq_ret, inBlk_exit, inBlk_normal, inBlk_ret, OptK_some, OptH_some, OptS_some, kont_app, ar_nil, ar_guard, ar_mv, ar_pick, ar_new, ar_box, ar_build, ar_buildSl, ar_load, ar_store, ar_nilChk, ar_bin, ar_un, ar_conv, ar_convSB, ar_convBS, ar_mkFunc, ar_mkIface, ar_mkSlice, ar_sl, ar_slStr, ar_fieldA, ar_field, ar_idxA, ar_idxArr, ar_idx, ar_idxS, ar_extract, ar_append, ar_len, ar_call, ar_callv, callvP_func, List.nil_append, List.cons_append, List.append_nil, ar_pf, ar_hf, ar_slA, upO_some, upO_none, sX_t, sX_c, sX_f, sXs, sXO, sXP, fin_t, fin_t2, fin_t3, up_same, up_ne, ne_eq, not_false_eq_true, AVal.bool.injEq, decide_eq_true_eq, decide_eq_false_iff_not, Int.ofNat_eq_natCast, Int.reduceNegSucc, Int.cast_ofNat_Int, reduceCtorEq, bin_lss, bin_leq, bin_gtr, bin_geq, bin_eql, bin_neq, bin_add, bin_sub, bin_mul, Bool.not_eq_true', Bool.not_eq_false', Bool.true_eq_false, Bool.false_eq_true, Nat.reduceEqDiff, ↓reduceIte, if_true, if_false, Nat.reduceAdd, Int.reduceEq, Int.reduceLT, Int.reduceLE, t0, t1, t2, ext_0, ext_1, hz, a1, a2, a3, a4]
    refine (rnext_spec hN h1 h2).mono ?_
    rintro v H3 ⟨rfl, E3⟩
    have D3 := D2.trans (E3.less D2.next)
    obtain ⟨L1, L2, L3, H4, b1, b2, b3, b4, r62, r22, F4, n4, D4⟩ := keep_two D3 D3.next (wdL_len k S m l a e) (wdL_one k S m l a e) (flL_len f g) (flL_one f g)
    have h3' := E3.next
    have w61 := row_loadN (r61.same (show H4.get H1.next = H2.get H1.next by rw [F4.old _ (by omega), E3.old _ (by omega)])) (n := 6) rfl
    have w21 := row_loadN (r21.same (show H4.get (H1.next + 1) = H2.get (H1.next + 1) by rw [F4.old _ (by omega), E3.old _ (by omega)])) (n := 2) rfl
    have w62 := row_loadN r62 (n := 6) rfl
    have w22 := row_loadN r22 (n := 2) rfl
    rw [hp]
    simp only [pairA, pf_min, undef_bool, str_len, str_eql, str_neq, conv_in, un_not, eq_self, decide_true, decide_false, Bool.not_true, Bool.not_false, argE_0, argE_1, argE_2, argE_3, argE_4, aw_skip, aw_reg, aw_seq, aw_cond, aw_block, aw_exit, aw_ret, inSeq_normal, inSeq_exit, inSeq_ret, inBlk_exit, inBlk_normal, inBlk_ret, OptK_some, OptH_some, OptS_some, kont_app, ar_nil, ar_guard, ar_mv, ar_pick, ar_new, ar_box, ar_build, ar_buildSl, ar_load, ar_store, ar_nilChk, ar_bin, ar_un, ar_conv, ar_convSB, ar_convBS, ar_mkFunc, ar_mkIface, ar_mkSlice, ar_sl, ar_slStr, ar_fieldA, ar_field, ar_idxA, ar_idxArr, ar_idx, ar_idxS, ar_extract, ar_append, ar_len, ar_call, ar_callv, callvP_func, List.nil_append, List.cons_append, List.append_nil, ar_pf, ar_hf, ar_slA, upO_some, upO_none, sX_t, sX_c, sX_f, sXs, sXO, sXP, fin_t, fin_t2, fin_t3, up_same, up_ne, ne_eq, not_false_eq_true, AVal.bool.injEq, decide_eq_true_eq, decide_eq_false_iff_not, Int.ofNat_eq_natCast, Int.reduceNegSucc, Int.cast_ofNat_Int, reduceCtorEq, bin_lss, bin_leq, bin_gtr, bin_geq, bin_eql, bin_neq, bin_add, bin_sub, bin_mul, Bool.not_eq_true', Bool.not_eq_false', Bool.true_eq_false, Bool.false_eq_true, Nat.reduceEqDiff, ↓reduceIte, if_true, if_false, Nat.reduceAdd, Int.reduceEq, Int.reduceLT, Int.reduceLE, t0, t1, t2, ext_0, ext_1, hz, b1, b2, b3, b4, w61, w21, w62, w22, eq_wd, eq_fl]
    refine (said_spec hN.str (hN.no _ (by decide)) h3 h4 (by have := D4.next; omega) (G.ext hn D4)).mono ?_
    rintro v H5 ⟨rfl, E5⟩
    have D5 := D4.trans (E5.less D4.next)
    simp only [pf_min, undef_bool, str_len, str_eql, str_neq, conv_in, un_not, eq_self, decide_true, decide_false, Bool.not_true, Bool.not_false, argE_0, argE_1, argE_2, argE_3, argE_4, aw_skip, aw_reg, aw_seq, aw_cond, aw_block, aw_exit, aw_ret, inSeq_normal, inSeq_exit, inSeq_ret, inBlk_exit, inBlk_normal, inBlk_ret, OptK_some, OptH_some, OptS_some, kont_app, ar_nil, ar_guard, ar_mv, ar_pick, ar_new, ar_box, ar_build, ar_buildSl, ar_load, ar_store, ar_nilChk, ar_bin, ar_un, ar_conv, ar_convSB, ar_convBS, ar_mkFunc, ar_mkIface, ar_mkSlice, ar_sl, ar_slStr, ar_fieldA, ar_field, ar_idxA, ar_idxArr, ar_idx, ar_idxS, ar_extract, ar_append, ar_len, ar_call, ar_callv, callvP_func, List.nil_append, List.cons_append, List.append_nil, ar_pf, ar_hf, ar_slA, upO_some, upO_none, sX_t, sX_c, sX_f, sXs, sXO, sXP, fin_t, fin_t2, fin_t3, up_same, up_ne, ne_eq, not_false_eq_true, AVal.bool.injEq, decide_eq_true_eq, decide_eq_false_iff_not, Int.ofNat_eq_natCast, Int.reduceNegSucc, Int.cast_ofNat_Int, reduceCtorEq, bin_lss, bin_leq, bin_gtr, bin_geq, bin_eql, bin_neq, bin_add, bin_sub, bin_mul, Bool.not_eq_true', Bool.not_eq_false', Bool.true_eq_false, Bool.false_eq_true, Nat.reduceEqDiff, ↓reduceIte, if_true, if_false, Nat.reduceAdd, Int.reduceEq, Int.reduceLT, Int.reduceLE, t0, t1, t2]
    refine (rsaid_spec (hN.no _ (by decide)) h3 h4).mono ?_
    rintro v H6 ⟨rfl, E6⟩
    have D6 := D5.trans (E6.less D5.next)
    simp only [pf_min, undef_bool, str_len, str_eql, str_neq, conv_in, un_not, eq_self, decide_true, decide_false, Bool.not_true, Bool.not_false, argE_0, argE_1, argE_2, argE_3, argE_4, aw_skip, aw_reg, aw_seq, aw_cond, aw_block, aw_exit, aw_ret, inSeq_normal, inSeq_exit, inSeq_ret, inBlk_exit, inBlk_normal, inBlk_ret, OptK_some, OptH_some, OptS_some, kont_app, ar_nil, ar_guard, ar_mv, ar_pick, ar_new, ar_box, ar_build, ar_buildSl, ar_load, ar_store, ar_nilChk, ar_bin, ar_un, ar_conv, ar_convSB, ar_convBS, ar_mkFunc, ar_mkIface, ar_mkSlice, ar_sl, ar_slStr, ar_fieldA, ar_field, ar_idxA, ar_idxArr, ar_idx, ar_idxS, ar_extract, ar_append, ar_len, ar_call, ar_callv, callvP_func, List.nil_append, List.cons_append, List.append_nil, ar_pf, ar_hf, ar_slA, upO_some, upO_none, sX_t, sX_c, sX_f, sXs, sXO, sXP, fin_t, fin_t2, fin_t3, up_same, up_ne, ne_eq, not_false_eq_true, AVal.bool.injEq, decide_eq_true_eq, decide_eq_false_iff_not, Int.ofNat_eq_natCast, Int.reduceNegSucc, Int.cast_ofNat_Int, reduceCtorEq, bin_lss, bin_leq, bin_gtr, bin_geq, bin_eql, bin_neq, bin_add, bin_sub, bin_mul, Bool.not_eq_true', Bool.not_eq_false', Bool.true_eq_false, Bool.false_eq_true, Nat.reduceEqDiff, ↓reduceIte, if_true, if_false, Nat.reduceAdd, Int.reduceEq, Int.reduceLT, Int.reduceLE, t0, t1, t2]
    by_cases hl : 2000 < s.length
    · have hl' : (2000 : Int) < (s.length : Int) := by omega
      simp only [pf_min, undef_bool, str_len, str_eql, str_neq, conv_in, un_not, eq_self, decide_true, decide_false, Bool.not_true, Bool.not_false, argE_0, argE_1, argE_2, argE_3, argE_4, aw_skip, aw_reg, aw_seq, aw_cond, aw_block, aw_exit, aw_ret, inSeq_normal, inSeq_exit, inSeq_ret, inBlk_exit, inBlk_normal, inBlk_ret, OptK_some, OptH_some, OptS_some, kont_app, ar_nil, ar_guard, ar_mv, ar_pick, ar_new, ar_box, ar_build, ar_buildSl, ar_load, ar_store, ar_nilChk, ar_bin, ar_un, ar_conv, ar_convSB, ar_convBS, ar_mkFunc, ar_mkIface, ar_mkSlice, ar_sl, ar_slStr, ar_fieldA, ar_field, ar_idxA, ar_idxArr, ar_idx, ar_idxS, ar_extract, ar_append, ar_len, ar_call, ar_callv, callvP_func, List.nil_append, List.cons_append, List.append_nil, ar_pf, ar_hf, ar_slA, upO_some, upO_none, sX_t, sX_c, sX_f, sXs, sXO, sXP, fin_t, fin_t2, fin_t3, up_same, up_ne, ne_eq, not_false_eq_true, AVal.bool.injEq, decide_eq_true_eq, decide_eq_false_iff_not, Int.ofNat_eq_natCast, Int.reduceNegSucc, Int.cast_ofNat_Int, reduceCtorEq, bin_lss, bin_leq, bin_gtr, bin_geq, bin_eql, bin_neq, bin_add, bin_sub, bin_mul, Bool.not_eq_true', Bool.not_eq_false', Bool.true_eq_false, Bool.false_eq_true, Nat.reduceEqDiff, ↓reduceIte, if_true, if_false, Nat.reduceAdd, Int.reduceEq, Int.reduceLT, Int.reduceLE, t0, t1, t2, hl']
      refine (awake_spec hN (by have := D6.next; omega) (G.ext hn D6)).mono ?_
      rintro v H7 ⟨rfl, E7⟩
      simp only [pf_min, undef_bool, str_len, str_eql, str_neq, conv_in, un_not, eq_self, decide_true, decide_false, Bool.not_true, Bool.not_false, argE_0, argE_1, argE_2, argE_3, argE_4, aw_skip, aw_reg, aw_seq, aw_cond, aw_block, aw_exit, aw_ret, inSeq_normal, inSeq_exit, inSeq_ret, inBlk_exit, inBlk_normal, inBlk_ret, OptK_some, OptH_some, OptS_some, kont_app, ar_nil, ar_guard, ar_mv, ar_pick, ar_new, ar_box, ar_build, ar_buildSl, ar_load, ar_store, ar_nilChk, ar_bin, ar_un, ar_conv, ar_convSB, ar_convBS, ar_mkFunc, ar_mkIface, ar_mkSlice, ar_sl, ar_slStr, ar_fieldA, ar_field, ar_idxA, ar_idxArr, ar_idx, ar_idxS, ar_extract, ar_append, ar_len, ar_call, ar_callv, callvP_func, List.nil_append, List.cons_append, List.append_nil, ar_pf, ar_hf, ar_slA, upO_some, upO_none, sX_t, sX_c, sX_f, sXs, sXO, sXP, fin_t, fin_t2, fin_t3, up_same, up_ne, ne_eq, not_false_eq_true, AVal.bool.injEq, decide_eq_true_eq, decide_eq_false_iff_not, Int.ofNat_eq_natCast, Int.reduceNegSucc, Int.cast_ofNat_Int, reduceCtorEq, bin_lss, bin_leq, bin_gtr, bin_geq, bin_eql, bin_neq, bin_add, bin_sub, bin_mul, Bool.not_eq_true', Bool.not_eq_false', Bool.true_eq_false, Bool.false_eq_true, Nat.reduceEqDiff, ↓reduceIte, if_true, if_false, Nat.reduceAdd, Int.reduceEq, Int.reduceLT, Int.reduceLE]
      exact ⟨by trivial, D6.trans (E7.less D6.next)⟩
    · have hl' : ¬ (2000 : Int) < (s.length : Int) := by omega
      simp only [pf_min, undef_bool, str_len, str_eql, str_neq, conv_in, un_not, eq_self, decide_true, decide_false, Bool.not_true, Bool.not_false, argE_0, argE_1, argE_2, argE_3, argE_4, aw_skip, aw_reg, aw_seq, aw_cond, aw_block, aw_exit, aw_ret, inSeq_normal, inSeq_exit, inSeq_ret, inBlk_exit, inBlk_normal, inBlk_ret, OptK_some, OptH_some, OptS_some, kont_app, ar_nil, ar_guard, ar_mv, ar_pick, ar_new, ar_box, ar_build, ar_buildSl, ar_load, ar_store, ar_nilChk, ar_bin, ar_un, ar_conv, ar_convSB, ar_convBS, ar_mkFunc, ar_mkIface, ar_mkSlice, ar_sl, ar_slStr, ar_fieldA, ar_field, ar_idxA, ar_idxArr, ar_idx, ar_idxS, ar_extract, ar_append, ar_len, ar_call, ar_callv, callvP_func, List.nil_append, List.cons_append, List.append_nil, ar_pf, ar_hf, ar_slA, upO_some, upO_none, sX_t, sX_c, sX_f, sXs, sXO, sXP, fin_t, fin_t2, fin_t3, up_same, up_ne, ne_eq, not_false_eq_true, AVal.bool.injEq, decide_eq_true_eq, decide_eq_false_iff_not, Int.ofNat_eq_natCast, Int.reduceNegSucc, Int.cast_ofNat_Int, reduceCtorEq, bin_lss, bin_leq, bin_gtr, bin_geq, bin_eql, bin_neq, bin_add, bin_sub, bin_mul, Bool.not_eq_true', Bool.not_eq_false', Bool.true_eq_false, Bool.false_eq_true, Nat.reduceEqDiff, ↓reduceIte, if_true, if_false, Nat.reduceAdd, Int.reduceEq, Int.reduceLT, Int.reduceLE, t0, t1, t2, hl']
      refine (number_spec (hN.no _ (by decide)) (hN.no _ (by decide)) (hN.no _ (by decide)) (hN.no _ (by decide)) (hN.no _ (by decide)) (hN.no _ (by decide)) (hN.no _ (by decide)) (hN.no _ (by decide)) (hN.no _ (by decide)) (by omega)).mono ?_
      rintro v H7 ⟨rfl, E7⟩
      have D7 := D6.trans (E7.less D6.next)
      have tt : ∃ (x : Int) (b : Bool), told (saysF s) = .tuple [.int .i64 x, .bool b] := by cases saysF s <;> exact ⟨_, _, rfl⟩
      obtain ⟨x, b, ht⟩ := tt
      rw [ht]
      simp only [pf_min, undef_bool, str_len, str_eql, str_neq, conv_in, un_not, eq_self, decide_true, decide_false, Bool.not_true, Bool.not_false, argE_0, argE_1, argE_2, argE_3, argE_4, aw_skip, aw_reg, aw_seq, aw_cond, aw_block, aw_exit, aw_ret, inSeq_normal, inSeq_exit, inSeq_ret, inBlk_exit, inBlk_normal, inBlk_ret, OptK_some, OptH_some, OptS_some, kont_app, ar_nil, ar_guard, ar_mv, ar_pick, ar_new, ar_box, ar_build, ar_buildSl, ar_load, ar_store, ar_nilChk, ar_bin, ar_un, ar_conv, ar_convSB, ar_convBS, ar_mkFunc, ar_mkIface, ar_mkSlice, ar_sl, ar_slStr, ar_fieldA, ar_field, ar_idxA, ar_idxArr, ar_idx, ar_idxS, ar_extract, ar_append, ar_len, ar_call, ar_callv, callvP_func, List.nil_append, List.cons_append, List.append_nil, ar_pf, ar_hf, ar_slA, upO_some, upO_none, sX_t, sX_c, sX_f, sXs, sXO, sXP, fin_t, fin_t2, fin_t3, up_same, up_ne, ne_eq, not_false_eq_true, AVal.bool.injEq, decide_eq_true_eq, decide_eq_false_iff_not, Int.ofNat_eq_natCast, Int.reduceNegSucc, Int.cast_ofNat_Int, reduceCtorEq, bin_lss, bin_leq, bin_gtr, bin_geq, bin_eql, bin_neq, bin_add, bin_sub, bin_mul, Bool.not_eq_true', Bool.not_eq_false', Bool.true_eq_false, Bool.false_eq_true, Nat.reduceEqDiff, ↓reduceIte, if_true, if_false, Nat.reduceAdd, Int.reduceEq, Int.reduceLT, Int.reduceLE, t0, t1, t2, ext_0, ext_1]
      refine (rnumber_spec (hN.no _ (by decide)) (hN.no _ (by decide)) (hN.no _ (by decide)) (by omega)).mono ?_
      rintro v H8 ⟨rfl, E8⟩
      have D8 := D7.trans (E8.less D7.next)
      rw [ht]
      simp only [pf_min, undef_bool, str_len, str_eql, str_neq, conv_in, un_not, eq_self, decide_true, decide_false, Bool.not_true, Bool.not_false, argE_0, argE_1, argE_2, argE_3, argE_4, aw_skip, aw_reg, aw_seq, aw_cond, aw_block, aw_exit, aw_ret, inSeq_normal, inSeq_exit, inSeq_ret, inBlk_exit, inBlk_normal, inBlk_ret, OptK_some, OptH_some, OptS_some, kont_app, ar_nil, ar_guard, ar_mv, ar_pick, ar_new, ar_box, ar_build, ar_buildSl, ar_load, ar_store, ar_nilChk, ar_bin, ar_un, ar_conv, ar_convSB, ar_convBS, ar_mkFunc, ar_mkIface, ar_mkSlice, ar_sl, ar_slStr, ar_fieldA, ar_field, ar_idxA, ar_idxArr, ar_idx, ar_idxS, ar_extract, ar_append, ar_len, ar_call, ar_callv, callvP_func, List.nil_append, List.cons_append, List.append_nil, ar_pf, ar_hf, ar_slA, upO_some, upO_none, sX_t, sX_c, sX_f, sXs, sXO, sXP, fin_t, fin_t2, fin_t3, up_same, up_ne, ne_eq, not_false_eq_true, AVal.bool.injEq, decide_eq_true_eq, decide_eq_false_iff_not, Int.ofNat_eq_natCast, Int.reduceNegSucc, Int.cast_ofNat_Int, reduceCtorEq, bin_lss, bin_leq, bin_gtr, bin_geq, bin_eql, bin_neq, bin_add, bin_sub, bin_mul, Bool.not_eq_true', Bool.not_eq_false', Bool.true_eq_false, Bool.false_eq_true, Nat.reduceEqDiff, ↓reduceIte, if_true, if_false, Nat.reduceAdd, Int.reduceEq, Int.reduceLT, Int.reduceLE, t0, t1, t2, ext_0, ext_1, eqv_bool]
      refine (awake_spec hN (by have := D8.next; omega) (G.ext hn D8)).mono ?_
      rintro v H9 ⟨rfl, E9⟩
      simp only [pf_min, undef_bool, str_len, str_eql, str_neq, conv_in, un_not, eq_self, decide_true, decide_false, Bool.not_true, Bool.not_false, argE_0, argE_1, argE_2, argE_3, argE_4, aw_skip, aw_reg, aw_seq, aw_cond, aw_block, aw_exit, aw_ret, inSeq_normal, inSeq_exit, inSeq_ret, inBlk_exit, inBlk_normal, inBlk_ret, OptK_some, OptH_some, OptS_some, kont_app, ar_nil, ar_guard, ar_mv, ar_pick, ar_new, ar_box, ar_build, ar_buildSl, ar_load, ar_store, ar_nilChk, ar_bin, ar_un, ar_conv, ar_convSB, ar_convBS, ar_mkFunc, ar_mkIface, ar_mkSlice, ar_sl, ar_slStr, ar_fieldA, ar_field, ar_idxA, ar_idxArr, ar_idx, ar_idxS, ar_extract, ar_append, ar_len, ar_call, ar_callv, callvP_func, List.nil_append, List.cons_append, List.append_nil, ar_pf, ar_hf, ar_slA, upO_some, upO_none, sX_t, sX_c, sX_f, sXs, sXO, sXP, fin_t, fin_t2, fin_t3, up_same, up_ne, ne_eq, not_false_eq_true, AVal.bool.injEq, decide_eq_true_eq, decide_eq_false_iff_not, Int.ofNat_eq_natCast, Int.reduceNegSucc, Int.cast_ofNat_Int, reduceCtorEq, bin_lss, bin_leq, bin_gtr, bin_geq, bin_eql, bin_neq, bin_add, bin_sub, bin_mul, Bool.not_eq_true', Bool.not_eq_false', Bool.true_eq_false, Bool.false_eq_true, Nat.reduceEqDiff, ↓reduceIte, if_true, if_false, Nat.reduceAdd, Int.reduceEq, Int.reduceLT, Int.reduceLE]
      exact ⟨by trivial, D8.trans (E9.less D8.next)⟩
  show wp _ (match c3.body with | .seq a (.seq b _) => ACode.seq a (.seq b (seq2 (seq2 c3.body))) | x => x) (fin c3.res _) _ _
  have hm : ∀ (T : Env) s, T 0 = .str s → T 1 = .int .i64 p → T 2 = .int .i64 n → wp (ACalls Tryd.prog N) (seq2 (seq2 c3.body)) (fin c3.res fun v H' => v = .bool true ∧ Ext H.next H H') T H := fun T s => main s T
  generalize seq2 (seq2 c3.body) = rest at *
  by_cases q1 : 2000 < s.length
  · have q1' : (2000 : Int) < (s.length : Int) := by omega
    by_cases q2 : s.length ≤ 16384
    · have q2' : (s.length : Int) ≤ 16384 := by omega
      have hsl := str_slH (s := s) (h := 2000) (by omega)
      simp only [Int.cast_ofNat_Int] at hsl
      simp only [c3, pf_min, undef_bool, str_len, str_eql, str_neq, conv_in, un_not, eq_self, decide_true, decide_false, Bool.not_true, Bool.not_false, argE_0, argE_1, argE_2, argE_3, argE_4, aw_skip, aw_reg, aw_seq, aw_cond, aw_block, aw_exit, aw_ret, inSeq_normal, inSeq_exit, inSeq_ret, inBlk_exit, inBlk_normal, inBlk_ret, OptK_some, OptH_some, OptS_some, kont_app, ar_nil, ar_guard, ar_mv, ar_pick, ar_new, ar_box, ar_build, ar_buildSl, ar_load, ar_store, ar_nilChk, ar_bin, ar_un, ar_conv, ar_convSB, ar_convBS, ar_mkFunc, ar_mkIface, ar_mkSlice, ar_sl, ar_slStr, ar_fieldA, ar_field, ar_idxA, ar_idxArr, ar_idx, ar_idxS, ar_extract, ar_append, ar_len, ar_call, ar_callv, callvP_func, List.nil_append, List.cons_append, List.append_nil, ar_pf, ar_hf, ar_slA, upO_some, upO_none, sX_t, sX_c, sX_f, sXs, sXO, sXP, fin_t, fin_t2, fin_t3, up_same, up_ne, ne_eq, not_false_eq_true, AVal.bool.injEq, decide_eq_true_eq, decide_eq_false_iff_not, Int.ofNat_eq_natCast, Int.reduceNegSucc, Int.cast_ofNat_Int, reduceCtorEq, bin_lss, bin_leq, bin_gtr, bin_geq, bin_eql, bin_neq, bin_add, bin_sub, bin_mul, Bool.not_eq_true', Bool.not_eq_false', Bool.true_eq_false, Bool.false_eq_true, Nat.reduceEqDiff, ↓reduceIte, if_true, if_false, Nat.reduceAdd, Int.reduceEq, Int.reduceLT, Int.reduceLE, q1', q2', hsl]
      refine hm _ (s.take 2000) ?_ ?_ ?_ <;> simp only [pf_min, undef_bool, str_len, str_eql, str_neq, conv_in, un_not, eq_self, decide_true, decide_false, Bool.not_true, Bool.not_false, argE_0, argE_1, argE_2, argE_3, argE_4, aw_skip, aw_reg, aw_seq, aw_cond, aw_block, aw_exit, aw_ret, inSeq_normal, inSeq_exit, inSeq_ret, inBlk_exit, inBlk_normal, inBlk_ret, OptK_some, OptH_some, OptS_some, kont_app, ar_nil, ar_guard, ar_mv, ar_pick, ar_new, ar_box, ar_build, ar_buildSl, ar_load, ar_store, ar_nilChk, ar_bin, ar_un, ar_conv, ar_convSB, ar_convBS, ar_mkFunc, ar_mkIface, ar_mkSlice, ar_sl, ar_slStr, ar_fieldA, ar_field, ar_idxA, ar_idxArr, ar_idx, ar_idxS, ar_extract, ar_append, ar_len, ar_call, ar_callv, callvP_func, List.nil_append, List.cons_append, List.append_nil, ar_pf, ar_hf, ar_slA, upO_some, upO_none, sX_t, sX_c, sX_f, sXs, sXO, sXP, fin_t, fin_t2, fin_t3, up_same, up_ne, ne_eq, not_false_eq_true, AVal.bool.injEq, decide_eq_true_eq, decide_eq_false_iff_not, Int.ofNat_eq_natCast, Int.reduceNegSucc, Int.cast_ofNat_Int, reduceCtorEq, bin_lss, bin_leq, bin_gtr, bin_geq, bin_eql, bin_neq, bin_add, bin_sub, bin_mul, Bool.not_eq_true', Bool.not_eq_false', Bool.true_eq_false, Bool.false_eq_true, Nat.reduceEqDiff, ↓reduceIte, if_true, if_false, Nat.reduceAdd, Int.reduceEq, Int.reduceLT, Int.reduceLE]
    · have q2' : ¬ (s.length : Int) ≤ 16384 := by omega
      simp only [c3, pf_min, undef_bool, str_len, str_eql, str_neq, conv_in, un_not, eq_self, decide_true, decide_false, Bool.not_true, Bool.not_false, argE_0, argE_1, argE_2, argE_3, argE_4, aw_skip, aw_reg, aw_seq, aw_cond, aw_block, aw_exit, aw_ret, inSeq_normal, inSeq_exit, inSeq_ret, inBlk_exit, inBlk_normal, inBlk_ret, OptK_some, OptH_some, OptS_some, kont_app, ar_nil, ar_guard, ar_mv, ar_pick, ar_new, ar_box, ar_build, ar_buildSl, ar_load, ar_store, ar_nilChk, ar_bin, ar_un, ar_conv, ar_convSB, ar_convBS, ar_mkFunc, ar_mkIface, ar_mkSlice, ar_sl, ar_slStr, ar_fieldA, ar_field, ar_idxA, ar_idxArr, ar_idx, ar_idxS, ar_extract, ar_append, ar_len, ar_call, ar_callv, callvP_func, List.nil_append, List.cons_append, List.append_nil, ar_pf, ar_hf, ar_slA, upO_some, upO_none, sX_t, sX_c, sX_f, sXs, sXO, sXP, fin_t, fin_t2, fin_t3, up_same, up_ne, ne_eq, not_false_eq_true, AVal.bool.injEq, decide_eq_true_eq, decide_eq_false_iff_not, Int.ofNat_eq_natCast, Int.reduceNegSucc, Int.cast_ofNat_Int, reduceCtorEq, bin_lss, bin_leq, bin_gtr, bin_geq, bin_eql, bin_neq, bin_add, bin_sub, bin_mul, Bool.not_eq_true', Bool.not_eq_false', Bool.true_eq_false, Bool.false_eq_true, Nat.reduceEqDiff, ↓reduceIte, if_true, if_false, Nat.reduceAdd, Int.reduceEq, Int.reduceLT, Int.reduceLE, q1', q2']
      refine hm _ s ?_ ?_ ?_ <;> simp only [pf_min, undef_bool, str_len, str_eql, str_neq, conv_in, un_not, eq_self, decide_true, decide_false, Bool.not_true, Bool.not_false, argE_0, argE_1, argE_2, argE_3, argE_4, aw_skip, aw_reg, aw_seq, aw_cond, aw_block, aw_exit, aw_ret, inSeq_normal, inSeq_exit, inSeq_ret, inBlk_exit, inBlk_normal, inBlk_ret, OptK_some, OptH_some, OptS_some, kont_app, ar_nil, ar_guard, ar_mv, ar_pick, ar_new, ar_box, ar_build, ar_buildSl, ar_load, ar_store, ar_nilChk, ar_bin, ar_un, ar_conv, ar_convSB, ar_convBS, ar_mkFunc, ar_mkIface, ar_mkSlice, ar_sl, ar_slStr, ar_fieldA, ar_field, ar_idxA, ar_idxArr, ar_idx, ar_idxS, ar_extract, ar_append, ar_len, ar_call, ar_callv, callvP_func, List.nil_append, List.cons_append, List.append_nil, ar_pf, ar_hf, ar_slA, upO_some, upO_none, sX_t, sX_c, sX_f, sXs, sXO, sXP, fin_t, fin_t2, fin_t3, up_same, up_ne, ne_eq, not_false_eq_true, AVal.bool.injEq, decide_eq_true_eq, decide_eq_false_iff_not, Int.ofNat_eq_natCast, Int.reduceNegSucc, Int.cast_ofNat_Int, reduceCtorEq, bin_lss, bin_leq, bin_gtr, bin_geq, bin_eql, bin_neq, bin_add, bin_sub, bin_mul, Bool.not_eq_true', Bool.not_eq_false', Bool.true_eq_false, Bool.false_eq_true, Nat.reduceEqDiff, ↓reduceIte, if_true, if_false, Nat.reduceAdd, Int.reduceEq, Int.reduceLT, Int.reduceLE]
  · have q1' : ¬ (2000 : Int) < (s.length : Int) := by omega
    simp only [c3, pf_min, undef_bool, str_len, str_eql, str_neq, conv_in, un_not, eq_self, decide_true, decide_false, Bool.not_true, Bool.not_false, argE_0, argE_1, argE_2, argE_3, argE_4, aw_skip, aw_reg, aw_seq, aw_cond, aw_block, aw_exit, aw_ret, inSeq_normal, inSeq_exit, inSeq_ret, inBlk_exit, inBlk_normal, inBlk_ret, OptK_some, OptH_some, OptS_some, kont_app, ar_nil, ar_guard, ar_mv, ar_pick, ar_new, ar_box, ar_build, ar_buildSl, ar_load, ar_store, ar_nilChk, ar_bin, ar_un, ar_conv, ar_convSB, ar_convBS, ar_mkFunc, ar_mkIface, ar_mkSlice, ar_sl, ar_slStr, ar_fieldA, ar_field, ar_idxA, ar_idxArr, ar_idx, ar_idxS, ar_extract, ar_append, ar_len, ar_call, ar_callv, callvP_func, List.nil_append, List.cons_append, List.append_nil, ar_pf, ar_hf, ar_slA, upO_some, upO_none, sX_t, sX_c, sX_f, sXs, sXO, sXP, fin_t, fin_t2, fin_t3, up_same, up_ne, ne_eq, not_false_eq_true, AVal.bool.injEq, decide_eq_true_eq, decide_eq_false_iff_not, Int.ofNat_eq_natCast, Int.reduceNegSucc, Int.cast_ofNat_Int, reduceCtorEq, bin_lss, bin_leq, bin_gtr, bin_geq, bin_eql, bin_neq, bin_add, bin_sub, bin_mul, Bool.not_eq_true', Bool.not_eq_false', Bool.true_eq_false, Bool.false_eq_true, Nat.reduceEqDiff, ↓reduceIte, if_true, if_false, Nat.reduceAdd, Int.reduceEq, Int.reduceLT, Int.reduceLE, q1']
    refine hm _ s ?_ ?_ ?_ <;> simp only [pf_min, undef_bool, str_len, str_eql, str_neq, conv_in, un_not, eq_self, decide_true, decide_false, Bool.not_true, Bool.not_false, argE_0, argE_1, argE_2, argE_3, argE_4, aw_skip, aw_reg, aw_seq, aw_cond, aw_block, aw_exit, aw_ret, inSeq_normal, inSeq_exit, inSeq_ret, inBlk_exit, inBlk_normal, inBlk_ret, OptK_some, OptH_some, OptS_some, kont_app, ar_nil, ar_guard, ar_mv, ar_pick, ar_new, ar_box, ar_build, ar_buildSl, ar_load, ar_store, ar_nilChk, ar_bin, ar_un, ar_conv, ar_convSB, ar_convBS, ar_mkFunc, ar_mkIface, ar_mkSlice, ar_sl, ar_slStr, ar_fieldA, ar_field, ar_idxA, ar_idxArr, ar_idx, ar_idxS, ar_extract, ar_append, ar_len, ar_call, ar_callv, callvP_func, List.nil_append, List.cons_append, List.append_nil, ar_pf, ar_hf, ar_slA, upO_some, upO_none, sX_t, sX_c, sX_f, sXs, sXO, sXP, fin_t, fin_t2, fin_t3, up_same, up_ne, ne_eq, not_false_eq_true, AVal.bool.injEq, decide_eq_true_eq, decide_eq_false_iff_not, Int.ofNat_eq_natCast, Int.reduceNegSucc, Int.cast_ofNat_Int, reduceCtorEq, bin_lss, bin_leq, bin_gtr, bin_geq, bin_eql, bin_neq, bin_add, bin_sub, bin_mul, Bool.not_eq_true', Bool.not_eq_false', Bool.true_eq_false, Bool.false_eq_true, Nat.reduceEqDiff, ↓reduceIte, if_true, if_false, Nat.reduceAdd, Int.reduceEq, Int.reduceLT, Int.reduceLE]
end Go.Proofs.Wo
/- Words, in plain Lean: a token said again, a blank behind it, is the same token; what is passed over between them. -/
namespace Go.Proofs.Wo
open Go.Abs Go.Abs.S
set_option linter.unusedSimpArgs false
/-- how long the numeral is that some bytes begin with -/
def numL (l : Bs) : Nat :=
  if (l.takeWhile dig).length = 0 ∨ l[(l.takeWhile dig).length]? ≠ some 46 then (l.takeWhile dig).length
  else if 0 < ((l.drop ((l.takeWhile dig).length + 1)).takeWhile dig).length then (l.takeWhile dig).length + 1 + ((l.drop ((l.takeWhile dig).length + 1)).takeWhile dig).length else (l.takeWhile dig).length
theorem numF_L (s : Bs) (i : Nat) : numF s i = i + numL (s.drop i) := by
  have e1 : runF dig s i = i + ((s.drop i).takeWhile dig).length := rfl
  have e2 : runF dig s (runF dig s i + 1) = i + ((s.drop i).takeWhile dig).length + 1 + (((s.drop i).drop (((s.drop i).takeWhile dig).length + 1)).takeWhile dig).length := by
    rw [e1, runF, List.drop_drop]
    rw [show i + (((s.drop i).takeWhile dig).length + 1) = i + ((s.drop i).takeWhile dig).length + 1 by omega]
  have e3 : s[runF dig s i]? = (s.drop i)[((s.drop i).takeWhile dig).length]? := by rw [e1, List.getElem?_drop]
  rw [numF, numL, e2, e3, e1]
  generalize ((s.drop i).takeWhile dig).length = a at *
  generalize (((s.drop i).drop (a + 1)).takeWhile dig).length = b at *
  by_cases h1 : a = 0 ∨ (s.drop i)[a]? ≠ some 46
  · rw [if_pos h1, if_pos]
    rcases h1 with h | h
    · left; omega
    · right; exact h
  · rw [if_neg h1, if_neg]
    · by_cases h2 : 0 < b
      · rw [if_pos h2, if_pos (by omega)]; omega
      · rw [if_neg h2, if_neg (by omega)]
    · rintro (h | h)
      · exact h1 (.inl (by omega))
      · exact h1 (.inr h)
structure TokL where
  k : Nat
  S : Bs
  n : Nat
  m : Nat
def oneL : Bs → Option TokL
  | [] => none
  | c :: r =>
    if dig c = true then (match saysF ((c :: r).take (numL (c :: r))) with | some n => some ⟨1, [], n, numL (c :: r)⟩ | none => none)
    else if beg c = true then some ⟨if keyF ((c :: r).takeWhile bgd) = true then 3 else 2, (c :: r).takeWhile bgd, 0, ((c :: r).takeWhile bgd).length⟩
    else if signF (c :: r) = [] then none else some ⟨4, signF (c :: r), 0, (signF (c :: r)).length⟩
theorem take_tw {α : Type} (p : α → Bool) (l : List α) : l.take (l.takeWhile p).length = l.takeWhile p :=
  (List.prefix_iff_eq_take.1 (List.takeWhile_prefix p)).symm
theorem oneF_L (s : Bs) (i : Nat) : oneF s i = (oneL (s.drop i)).map fun t => ⟨t.k, t.S, t.n, i + t.m⟩ := by
  rw [oneF]
  cases hs : s[i]? with
  | none =>
    have : s.drop i = [] := List.drop_eq_nil_of_le (List.getElem?_eq_none_iff.1 hs)
    rw [this]; rfl
  | some c =>
    have hd := drop_some hs
    have e1 : sub s i (numF s i) = (s.drop i).take (numL (s.drop i)) := by rw [sub, numF_L, Nat.add_sub_cancel_left]
    have e2 : sub s i (runF bgd s i) = (s.drop i).takeWhile bgd := by rw [sub, runF, Nat.add_sub_cancel_left, take_tw]
    have e3 : runF bgd s i = i + ((s.drop i).takeWhile bgd).length := rfl
    simp only [e1, e2]
    simp only [e3, numF_L]
    rw [hd]
    simp only [oneL]
    by_cases h1 : dig c = true
    · rw [if_pos h1, if_pos h1]
      cases saysF (List.take (numL (c :: List.drop (i + 1) s)) (c :: List.drop (i + 1) s)) <;> rfl
    · rw [if_neg h1, if_neg h1]
      by_cases h2 : beg c = true
      · rw [if_pos h2, if_pos h2]; rfl
      · rw [if_neg h2, if_neg h2]
        by_cases h3 : signF (c :: List.drop (i + 1) s) = []
        · rw [if_pos h3, if_pos h3]; rfl
        · rw [if_neg h3, if_neg h3]; rfl
theorem tw_all {p : UInt8 → Bool} {l r : Bs} {d : UInt8} (h : ∀ c ∈ l, p c = true) (hd : p d = false) : (l ++ d :: r).takeWhile p = l := by
  rw [List.takeWhile_append_of_pos h, List.takeWhile_cons_of_neg (by simp [hd])]; simp
theorem tw_mem {p : UInt8 → Bool} {l : Bs} : ∀ c ∈ l.takeWhile p, p c = true := fun c hc => List.all_eq_true.1 List.all_takeWhile c hc
theorem bgd32 : bgd 32 = false := by decide
theorem dig32 : dig 32 = false := by decide
theorem dig46 : dig 46 = false := by decide
theorem numL_le (l : Bs) : numL l ≤ l.length := by
  have h := numF_le (s := l) (i := 0) (Nat.zero_le _)
  rw [numF_L] at h
  simpa using h
/-- the numeral, a blank behind it -/
theorem numL_again (l r : Bs) : numL (l.take (numL l) ++ 32 :: r) = numL l := by
  have ha : ∀ c ∈ l.takeWhile dig, dig c = true := tw_mem
  have hta := take_tw dig l
  by_cases h1 : (l.takeWhile dig).length = 0 ∨ l[(l.takeWhile dig).length]? ≠ some 46
  · have e : numL l = (l.takeWhile dig).length := by rw [numL, if_pos h1]
    rw [e, hta]
    have htw := tw_all (r := r) ha dig32
    rw [numL, htw, if_pos (.inr (by simp))]
  · by_cases h2 : 0 < ((l.drop ((l.takeWhile dig).length + 1)).takeWhile dig).length
    · have e : numL l = (l.takeWhile dig).length + 1 + ((l.drop ((l.takeWhile dig).length + 1)).takeWhile dig).length := by rw [numL, if_neg h1, if_pos h2]
      have h46 : l[(l.takeWhile dig).length]? = some 46 := by
        by_cases c : l[(l.takeWhile dig).length]? = some 46
        · exact c
        · exact absurd (.inr c) h1
      have hb : ∀ c ∈ (l.drop ((l.takeWhile dig).length + 1)).takeWhile dig, dig c = true := tw_mem
      have htb := take_tw dig (l.drop ((l.takeWhile dig).length + 1))
      have hx : l.take (numL l) = l.takeWhile dig ++ 46 :: (l.drop ((l.takeWhile dig).length + 1)).takeWhile dig := by
        rw [e, List.take_add, List.take_add_one, hta, h46, htb]
        simp
      rw [hx, List.append_assoc, List.cons_append, e]
      generalize l.takeWhile dig = ds at *
      generalize (l.drop (ds.length + 1)).takeWhile dig = es at *
      have t1 : (ds ++ 46 :: (es ++ 32 :: r)).takeWhile dig = ds := tw_all ha dig46
      have t2 : (es ++ 32 :: r).takeWhile dig = es := tw_all hb dig32
      have t3 : (ds ++ 46 :: (es ++ 32 :: r)).drop (ds.length + 1) = es ++ 32 :: r := by simp [List.drop_append]
      have t4 : (ds ++ 46 :: (es ++ 32 :: r))[ds.length]? = some 46 := by simp
      rw [numL, t1, t3, t2, t4, if_neg (by rintro (h | h); exact h1 (.inl h); exact h rfl), if_pos h2]
    · have e : numL l = (l.takeWhile dig).length := by rw [numL, if_neg h1, if_neg h2]
      rw [e, hta]
      have htw := tw_all (r := r) ha dig32
      rw [numL, htw, if_pos (.inr (by simp))]
theorem numL_pos {c : UInt8} {r : Bs} (h : dig c = true) : 0 < numL (c :: r) := by
  have : 0 < ((c :: r).takeWhile dig).length := by rw [List.takeWhile_cons_of_pos h]; simp
  unfold numL
  split
  · exact this
  · split <;> omega
theorem numL_in (l : Bs) : ∀ c ∈ l.take (numL l), dig c = true ∨ c = 46 := by
  intro c hc
  have ha : ∀ c ∈ l.takeWhile dig, dig c = true := tw_mem
  have hta := take_tw dig l
  by_cases h1 : (l.takeWhile dig).length = 0 ∨ l[(l.takeWhile dig).length]? ≠ some 46
  · have e : numL l = (l.takeWhile dig).length := by rw [numL, if_pos h1]
    rw [e, hta] at hc
    exact .inl (ha c hc)
  · by_cases h2 : 0 < ((l.drop ((l.takeWhile dig).length + 1)).takeWhile dig).length
    · have e : numL l = (l.takeWhile dig).length + 1 + ((l.drop ((l.takeWhile dig).length + 1)).takeWhile dig).length := by rw [numL, if_neg h1, if_pos h2]
      have h46 : l[(l.takeWhile dig).length]? = some 46 := by
        by_cases c : l[(l.takeWhile dig).length]? = some 46
        · exact c
        · exact absurd (.inr c) h1
      have hx : l.take (numL l) = l.takeWhile dig ++ 46 :: (l.drop ((l.takeWhile dig).length + 1)).takeWhile dig := by
        rw [e, List.take_add, List.take_add_one, hta, h46, take_tw]
        simp
      rw [hx] at hc
      rcases List.mem_append.1 hc with h | h
      · exact .inl (ha c h)
      · rcases List.mem_cons.1 h with h | h
        · exact .inr h
        · exact .inl (tw_mem c h)
    · have e : numL l = (l.takeWhile dig).length := by rw [numL, if_neg h1, if_neg h2]
      rw [e, hta] at hc
      exact .inl (ha c hc)
/-- signs -/
theorem signF_in {l : Bs} (h : signF l ≠ []) : (signF l) ∈ signsL ∧ l.take (signF l).length = signF l := by
  cases l with
  | nil => exact absurd (by decide) h
  | cons c r =>
    rw [signF_find] at h ⊢
    cases hf : signsL.find? (pre (c :: r)) with
    | none => rw [hf] at h; simp at h
    | some t =>
      simp only [Option.getD_some]
      have hp := List.find?_some hf
      exact ⟨List.mem_of_find?_eq_some hf, by simpa [pre] using hp⟩
theorem signF_again {t r : Bs} (h : t ∈ signsL) : signF (t ++ 32 :: r) = t := by
  have : ∀ t ∈ signsL, (t.length = 2 ∧ t ∈ twos) ∨ (t.length = 1 ∧ ∀ c ∈ t, c ∈ ones ∧ ∀ u ∈ twos, u ≠ [c, 32]) := by decide
  rcases this t h with ⟨h1, h2⟩ | ⟨h1, h2⟩
  · have hf : twos.find? (pre (t ++ 32 :: r)) = some t := by
      have hpre : ∀ u ∈ twos, pre (t ++ 32 :: r) u = decide (u = t) := by
        intro u hu
        have hu2 : ∀ u ∈ twos, u.length = 2 := by decide
        unfold pre
        rw [hu2 u hu, ← h1, List.take_left]
        by_cases e : t = u
        · subst e; simp
        · rw [decide_eq_false e, decide_eq_false (fun h : u = t => e h.symm)]
      have key : ∀ L : List Bs, (∀ u ∈ L, pre (t ++ 32 :: r) u = decide (u = t)) → t ∈ L → L.find? (pre (t ++ 32 :: r)) = some t := by
        intro L
        induction L with
        | nil => intro _ h; simp at h
        | cons u L ih =>
          intro hL hm
          by_cases e : u = t
          · rw [List.find?_cons_of_pos (by rw [hL u (by simp)]; simpa using e), e]
          · rw [List.find?_cons_of_neg (by rw [hL u (by simp)]; simpa using e)]
            refine ih (fun v hv => hL v (by simp [hv])) ?_
            rcases List.mem_cons.1 hm with h | h
            · exact absurd h.symm e
            · exact h
      exact key twos hpre h2
    unfold signF
    simp only [hf]
  · obtain ⟨c, rfl⟩ : ∃ c, t = [c] := by
      match t, h1 with
      | [c], _ => exact ⟨c, rfl⟩
    obtain ⟨h3, h4⟩ := h2 c (by simp)
    have hf : twos.find? (pre ([c] ++ 32 :: r)) = none := by
      rw [List.find?_eq_none]
      intro u hu
      have hu2 : ∀ u ∈ twos, u.length = 2 := by decide
      have e0 : ([c] ++ 32 :: r : Bs).take 2 = [c, 32] := rfl
      unfold pre
      rw [hu2 u hu, e0]
      simp only [decide_eq_true_eq]
      intro e
      exact h4 u hu e.symm
    unfold signF
    rw [hf]
    simp only [List.cons_append, List.nil_append, h3, if_true]
/-- a token said again, a blank behind it -/
theorem oneL_again {l : Bs} {t : TokL} (h : oneL l = some t) (r : Bs) :
    oneL (l.take t.m ++ 32 :: r) = some t ∧ 0 < t.m ∧ t.m ≤ l.length ∧ (10 : UInt8) ∉ l.take t.m ∧ (∃ c x, l.take t.m = c :: x ∧ blk c = false ∧ c.toNat ≠ 35) ∧ t.k ≠ 0 ∧ t.k ≠ 5 ∧ t.k ≤ 255 := by
  cases l with
  | nil => simp [oneL] at h
  | cons c l =>
    simp only [oneL] at h
    have hd0 : ∀ {c : UInt8}, dig c = true → c ≠ 10 ∧ blk c = false ∧ c.toNat ≠ 35 := by
      intro c hc
      simp only [dig, Bool.and_eq_true, decide_eq_true_eq] at hc
      refine ⟨fun e => by subst e; simp at hc, by simp [blk]; omega, by omega⟩
    have hb0 : ∀ {c : UInt8}, beg c = true → c ≠ 10 ∧ blk c = false ∧ c.toNat ≠ 35 := by
      intro c hc
      simp only [beg, Bool.or_eq_true, Bool.and_eq_true, decide_eq_true_eq] at hc
      refine ⟨fun e => by subst e; simp at hc, by simp [blk]; omega, by omega⟩
    by_cases h1 : dig c = true
    · rw [if_pos h1] at h
      split at h
      · rename_i n hn
        simp only [Option.some.injEq] at h
        subst h
        simp only
        have hp := numL_pos (r := l) h1
        have hle := numL_le (c :: l)
        obtain ⟨m, hm⟩ : ∃ m, numL (c :: l) = m + 1 := ⟨numL (c :: l) - 1, by omega⟩
        have hag := numL_again (c :: l) r
        have hin := numL_in (c :: l)
        have hlen : ((c :: l).take (numL (c :: l))).length = numL (c :: l) := by simp at hle ⊢; omega
        refine ⟨?_, hp, hle, ?_, ⟨c, l.take m, by rw [hm, List.take_succ_cons], (hd0 h1).2⟩, by omega, by omega, by omega⟩
        · have e : ((c :: l).take (numL (c :: l)) ++ 32 :: r).take (numL ((c :: l).take (numL (c :: l)) ++ 32 :: r)) = (c :: l).take (numL (c :: l)) := by
            rw [hag]
            conv => lhs; arg 1; rw [← hlen]
            rw [List.take_left]
          generalize hy : (c :: l).take (numL (c :: l)) = y at *
          rw [hm, List.take_succ_cons] at hy
          subst hy
          simp only [List.cons_append] at e hag ⊢
          rw [hag] at e
          simp only [oneL, h1, if_true, e, hag, hn]
        · intro hc
          rcases hin 10 hc with h | h
          · exact (hd0 h).1 rfl
          · exact absurd h (by decide)
      · simp at h
    · rw [if_neg h1] at h
      by_cases h2 : beg c = true
      · rw [if_pos h2] at h
        simp only [Option.some.injEq] at h
        subst h
        simp only
        have hc : bgd c = true := by simp [bgd, h2]
        rw [take_tw]
        have hy : (c :: l).takeWhile bgd = c :: l.takeWhile bgd := List.takeWhile_cons_of_pos hc
        have hall : ∀ d ∈ (c :: l).takeWhile bgd, bgd d = true := tw_mem
        have htw := tw_all (r := r) hall bgd32
        refine ⟨?_, by rw [hy]; simp, (List.takeWhile_sublist (p := bgd) (l := c :: l)).length_le, ?_, ⟨c, _, hy, (hb0 h2).2⟩, by split <;> omega, by split <;> omega, by split <;> omega⟩
        · rw [hy] at htw ⊢
          simp only [List.cons_append] at htw ⊢
          simp only [oneL, h1, h2, if_true, if_false, htw]
          rfl
        · intro hm
          have := hall 10 hm
          exact absurd this (by decide)
      · rw [if_neg h2] at h
        split at h
        · simp at h
        · rename_i h3
          simp only [Option.some.injEq] at h
          subst h
          simp only
          obtain ⟨q1, q2⟩ := signF_in h3
          have q3 : ∀ t ∈ signsL, 0 < t.length ∧ (10 : UInt8) ∉ t ∧ ∀ c ∈ t.head?, blk c = false ∧ c.toNat ≠ 35 := by decide
          obtain ⟨q4, q5, q6⟩ := q3 _ q1
          have q7 := signF_again (r := r) q1
          have hle : (signF (c :: l)).length ≤ (c :: l).length := by
            have := congrArg List.length q2
            simp only [List.length_take] at this
            omega
          rw [q2]
          generalize hS : signF (c :: l) = S at *
          cases S with
          | nil => simp at q4
          | cons d S =>
            have hcd : c = d := by
              simp only [List.length_cons, List.take_succ_cons, List.cons.injEq] at q2
              exact q2.1
            subst hcd
            refine ⟨?_, q4, hle, q5, ⟨c, S, rfl, q6 c (by simp)⟩, by omega, by omega, by omega⟩
            simp only [List.cons_append] at q7 ⊢
            simp only [oneL, h1, h2, if_false, q7]
            rw [if_neg (by simp)]
            simp
end Go.Proofs.Wo
/- Words, in plain Lean: tokens said again, one behind the other. -/
namespace Go.Proofs.Wo
open Go.Abs Go.Abs.S
set_option linter.unusedSimpArgs false
def sep : Bs := [32, 35, 32, 120, 32, 40, 10, 9]
/-- a token that was told, and what it was told of -/
structure It where
  x : Bs
  t : TokL
  line : Nat
  at_ : Nat
  en : Nat
structure Good (it : It) : Prop where
  one : ∀ r, oneL (it.x ++ 32 :: r) = some it.t
  len : it.t.m = it.x.length
  nl : (10 : UInt8) ∉ it.x
  hd : ∃ c x, it.x = c :: x ∧ blk c = false ∧ c.toNat ≠ 35
  k0 : it.t.k ≠ 0
  k5 : it.t.k ≠ 5
def sayL (l : List It) : Bs := l.flatMap fun it => it.x ++ sep
def celL (l : List It) : List AVal := l.flatMap fun it => wdL it.t.k it.t.S it.t.n it.line it.at_ it.en
def total (l : List It) : Nat := (l.map fun it => it.x.length).sum
theorem sayL_snoc (l : List It) (it : It) : sayL (l ++ [it]) = sayL l ++ (it.x ++ sep) := by simp [sayL]
theorem celL_snoc (l : List It) (it : It) : celL (l ++ [it]) = celL l ++ wdL it.t.k it.t.S it.t.n it.line it.at_ it.en := by simp [celL]
theorem total_snoc (l : List It) (it : It) : total (l ++ [it]) = total l + it.x.length := by simp [total]
theorem Good.pos {it : It} (h : Good it) : 0 < it.x.length := by
  obtain ⟨c, x, hx, _⟩ := h.hd
  rw [hx]; simp
theorem len_total {l : List It} (h : ∀ it ∈ l, Good it) : l.length ≤ total l := by
  induction l with
  | nil => simp
  | cons it l ih =>
    have h1 := (h it (by simp)).pos
    have h2 := ih fun x hx => h x (by simp [hx])
    simp only [total, List.map_cons, List.sum_cons, List.length_cons] at h2 ⊢
    omega
theorem sayL_len (l : List It) : (sayL l).length = total l + 8 * l.length := by
  induction l with
  | nil => rfl
  | cons it l ih =>
    have e : sayL (it :: l) = it.x ++ sep ++ sayL l := by simp [sayL]
    have e2 : total (it :: l) = it.x.length + total l := by simp [total]
    rw [e, e2, List.length_append, List.length_append, ih, List.length_cons]
    have : sep.length = 8 := rfl
    omega
theorem celL_len (l : List It) : (celL l).length = 6 * l.length := by
  induction l with
  | nil => rfl
  | cons it l ih =>
    have e : celL (it :: l) = wdL it.t.k it.t.S it.t.n it.line it.at_ it.en ++ celL l := by simp [celL]
    rw [e, List.length_append, ih, wdL_len, List.length_cons]; omega
theorem celL_get {l : List It} {i o : Nat} {it : It} (h : l[i]? = some it) (ho : o < 6) : (celL l)[i * 6 + o]? = (wdL it.t.k it.t.S it.t.n it.line it.at_ it.en)[o]? := by
  induction l generalizing i with
  | nil => simp at h
  | cons a l ih =>
    have e : celL (a :: l) = wdL a.t.k a.t.S a.t.n a.line a.at_ a.en ++ celL l := by simp [celL]
    cases i with
    | zero =>
      simp only [List.getElem?_cons_zero, Option.some.injEq] at h
      subst h
      rw [e, List.getElem?_append_left (by rw [wdL_len]; omega), Nat.zero_mul, Nat.zero_add]
    | succ i =>
      simp only [List.getElem?_cons_succ] at h
      rw [e, List.getElem?_append_right (by rw [wdL_len]; omega), wdL_len, ← ih h]
      congr 1; omega
theorem bl_sep (y : Bs) : bl (sep ++ y) = bl y := by
  have b32 : blk 32 = true := by decide
  have b35 : blk 35 = false := by decide
  have b9 : blk 9 = true := by decide
  simp [sep, bl, rm, b32, b35, b9]
theorem bl_stop {c : UInt8} {y : Bs} (h1 : blk c = false) (h2 : c.toNat ≠ 35) : bl (c :: y) = c :: y := by
  rw [bl, if_neg (by simp [h1]), if_neg h2]
theorem count_say {l : List It} (h : ∀ it ∈ l, Good it) : (sayL l).count 10 = l.length := by
  induction l with
  | nil => rfl
  | cons it l ih =>
    have e : sayL (it :: l) = it.x ++ (sep ++ sayL l) := by simp [sayL]
    have h1 : it.x.count 10 = 0 := List.count_eq_zero.2 (h it (by simp)).nl
    have h2 : sep.count 10 = 1 := by decide
    rw [e, List.count_append, List.count_append, ih fun x hx => h x (by simp [hx]), h1, h2, List.length_cons]; omega
/-- what lies ahead ends with blanks and a remark -/
theorem say_end (l : List It) : l = [] ∨ ∃ P, sayL l = P ++ sep := by
  rcases List.eq_nil_or_concat l with h | ⟨l', it, h⟩
  · exact .inl h
  · right
    rw [List.concat_eq_append] at h
    rw [h, sayL_snoc, ← List.append_assoc]
    exact ⟨_, rfl⟩
theorem skip_say (l : List It) (y : Bs) : skipF (sayL l ++ y) ((sayL l).length - 8) = (sayL l ++ y).length - (bl y).length := by
  unfold skipF
  congr 2
  rcases say_end l with h | ⟨P, h⟩
  · subst h; simp [sayL]
  · rw [h]
    have h8 : sep.length = 8 := rfl
    have : (P ++ sep).length - 8 = P.length := by rw [List.length_append, h8]; omega
    rw [this, List.append_assoc, List.drop_left, bl_sep]
theorem next_again {l : List It} (h : ∀ it ∈ l, Good it) (hlen : (sayL l).length ≤ 16384) {i : Nat} {it : It} (hi : l[i]? = some it) :
    nextA (sayL l) (((sayL (l.take i)).length - 8 : Nat) : Int) = pairA (wdL it.t.k it.t.S it.t.n (i + 1) (sayL (l.take i)).length ((sayL (l.take i)).length + it.x.length)) (flL 0 0) := by
  have hlt := (List.getElem?_eq_some_iff.1 hi).1
  have hg := h it (List.mem_of_getElem? hi)
  have hsplit : l = l.take i ++ it :: l.drop (i + 1) := by
    rw [List.getElem?_eq_getElem hlt] at hi
    simp only [Option.some.injEq] at hi
    rw [← hi, ← List.drop_eq_getElem_cons hlt, List.take_append_drop]
  have hP : ∀ it ∈ l.take i, Good it := fun x hx => h x (List.mem_of_mem_take hx)
  have hc := count_say hP
  have htl : (l.take i).length = i := by simp; omega
  have hs : sayL l = sayL (l.take i) ++ (it.x ++ 32 :: ([35, 32, 120, 32, 40, 10, 9] ++ sayL (l.drop (i + 1)))) := by
    conv => lhs; rw [hsplit]
    simp [sayL, sep]
  generalize hQ : sayL (l.take i) = P at *
  generalize hR : ([35, 32, 120, 32, 40, 10, 9] ++ sayL (l.drop (i + 1)) : Bs) = R at *
  have hsk : skipF (sayL l) (P.length - 8) = P.length := by
    have := skip_say (l.take i) (it.x ++ 32 :: R)
    rw [hQ] at this
    rw [hs, this]
    obtain ⟨c, x, hx, h1, h2⟩ := hg.hd
    rw [hx, List.cons_append, bl_stop h1 h2]
    simp
  have hpos := hg.pos
  have hll : (sayL l).length = P.length + it.x.length + 1 + R.length := by rw [hs]; simp; omega
  have hone : oneF (sayL l) P.length = some ⟨it.t.k, it.t.S, it.t.n, P.length + it.x.length⟩ := by
    rw [oneF_L, hs, List.drop_left, hg.one R, ← hg.len]; rfl
  have hline : lineF (sayL l) P.length = i + 1 := by
    rw [lineF, hs, List.take_left, hc, htl]; omega
  rw [nextA, if_neg (by omega), if_neg (by omega), Int.toNat_natCast, hsk, if_neg (by omega), hone, hline]
theorem next_end {l : List It} (hlen : (sayL l).length ≤ 16384) : nextA (sayL l) (((sayL l).length - 8 : Nat) : Int) = pairA (wdL 5 [] 0 (lineF (sayL l) (sayL l).length) (sayL l).length (sayL l).length) (flL 0 0) := by
  have hsk : skipF (sayL l) ((sayL l).length - 8) = (sayL l).length := by
    have := skip_say l []
    rw [List.append_nil] at this
    rw [this]
    simp [bl]
  rw [nextA, if_neg (by omega), if_neg (by omega), Int.toNat_natCast, hsk, if_pos rfl]
/-- a token that was told of a text is good -/
theorem good_of {l : Bs} {t : TokL} (h : oneL l = some t) (line at_ en : Nat) : Good ⟨l.take t.m, t, line, at_, en⟩ := by
  have hh := fun r => oneL_again h r
  obtain ⟨_, h2, h3, h4, h5, h6, h7, _⟩ := hh []
  exact ⟨fun r => (hh r).1, by simp; omega, h4, h5, h6, h7⟩
end Go.Proofs.Wo
/- Symbolic runs of the abstract machine, part 14: rows of structs that grow. Plain Lean. -/
namespace Go.Abs.S
open Go.Abs
/-- k elements of m cells each: nil, or a row of its own that may grow -/
def AppN (m n : Nat) (H : AHeap) (s : AVal) (L : List AVal) (k : Nat) : Prop :=
  (s = nilS ∧ L = [] ∧ k = 0) ∨ ∃ b low, s = .slice (some ⟨b, L.length, 0⟩) k (.open_ m) ∧ L.length = m * k ∧ n ≤ b ∧ b < H.next ∧ H.get b = some (.cells L low false) ∧ low ≤ L.length ∧ 0 < k
theorem AppN.nil (m n : Nat) (H : AHeap) : AppN m n H nilS [] 0 := .inl ⟨rfl, rfl, rfl⟩
theorem AppN.ext {m n k : Nat} {H H' : AHeap} {s : AVal} {L : List AVal} (h : AppN m n H s L k) (e : Ext H.next H H') : AppN m n H' s L k := by
  rcases h with h | ⟨b, low, h1, h2, h3, h4, h5, h6⟩
  · exact .inl h
  · exact .inr ⟨b, low, h1, h2, h3, Nat.lt_of_lt_of_le h4 e.next, (e.old b h4).trans h5, h6⟩
theorem AppN.len {m n k : Nat} {H : AHeap} {s : AVal} {L : List AVal} (h : AppN m n H s L k) : aLenK false s = some (.int .i64 (k : Int)) := by
  rcases h with ⟨rfl, _, rfl⟩ | ⟨b, low, rfl, _⟩ <;> rfl
theorem AppN.blk {m n k : Nat} {H : AHeap} {s : AVal} {L : List AVal} (h : AppN m n H s L k) : ∀ a j r, s = .slice (some a) j r → a.b < H.next := by
  intro a j r he
  rcases h with ⟨rfl, _⟩ | ⟨b, low, rfl, _, _, h4, _⟩
  · simp [nilS] at he
  · simp only [AVal.slice.injEq, Option.some.injEq] at he
    rw [← he.1]; exact h4
def oneM (H : AHeap) (m : Nat) : AVal := .slice (some ⟨H.next, m, 0⟩) 1 (.known 1)
theorem buildM {m : Nat} {z xs : List AVal} (H : AHeap) (hz : z.length = m) (hx : xs.length = m) : aBuildSl 1 z H [(0, m, .agg xs)] = some (oneM H m, H.push (.cells xs 0 false)) := by
  subst hz
  have hb : Nat.beq xs.length z.length = true := by rw [hx]; exact Nat.beq_refl _
  simp only [aBuildSl, rep, List.append_nil, aFill, cells_agg, hx, Nat.beq_refl, Nat.zero_add, Nat.ble_eq_true_of_le (Nat.le_refl _), Bool.and_self, cond_true, splice, List.take_zero, List.nil_append, List.drop_length, List.append_nil, oneM]
theorem srcM {m : Nat} {xs : List AVal} (H : AHeap) (hx : xs.length = m) : aSrc m (H.push (.cells xs 0 false)) (oneM H m) = some (1, xs) := by
  subst hx
  have := rd_whole (H := H.push (.cells xs 0 false)) (b := H.next) (l := xs) (low := 0) (ro := false) (by rw [AHeap.get_push, if_pos rfl]) (Nat.zero_le _)
  simp only [aSrc, oneM, Nat.one_mul, this]
theorem AppN.push {m n k : Nat} {H : AHeap} {s : AVal} {L : List AVal} (h : AppN m n H s L k) (hn : n ≤ H.next) {xs : List AVal} (hx : xs.length = m) (ho : xs.all AVal.one = true) (hm : 0 < m) {bytes : Nat} (hb : 2 * (k + 1) * bytes ≤ 281474976710656) (hb1 : 0 < bytes) :
    ∃ s' H', aAppend m bytes (H.push (.cells xs 0 false)) s (oneM H m) = some (s', H') ∧ AppN m n H' s' (L ++ xs) (k + 1) ∧ Ext n H H' ∧ ∀ c, c < H.next → (∀ a j r, s = .slice (some a) j r → c ≠ a.b) → H'.get c = H.get c := by
  have hlen : k + 1 ≤ 9223372036854775807 := by
    have : 2 * (k + 1) ≤ 2 * (k + 1) * bytes := Nat.le_mul_of_pos_right _ hb1
    omega
  have hlt : Nat.blt 0 m = true := by simpa [Nat.blt_eq] using hm
  have c1 : ∀ j, j = k → (Nat.blt 0 m && (Nat.ble ((2 * (j + 1) + 0) * bytes) 281474976710656 && (Nat.ble (j + 1) 9223372036854775807 && (Nat.beq xs.length (1 * m) && xs.all AVal.one)))) = true := by
    intro j hj
    subst hj
    simp only [Nat.add_zero, Nat.ble_eq_true_of_le hb, Nat.ble_eq_true_of_le hlen, hx, Nat.one_mul, Nat.beq_refl, ho, hlt, Bool.and_self]
  rcases h with ⟨rfl, rfl, rfl⟩ | ⟨b, low, rfl, h2, h3, h4, h5, h6, h7⟩
  · refine ⟨.slice (some ⟨H.next + 1, m, 0⟩) 1 (.open_ m), (H.push (.cells xs 0 false)).push (.cells xs 0 false), ?_, .inr ⟨H.next + 1, 0, by simp [hx], by simp [hx], by omega, Nat.lt_succ_self _, ?_, Nat.zero_le _, by omega⟩, ((Ext.refl n H).push hn _).push (by rw [push_next]; omega) _, fun c hc _ => by rw [AHeap.get_push, if_neg (by rw [push_next]; omega), get_push_lt hc]⟩
    · simp only [aAppend, srcM H hx, nilS]
      rw [show Nat.beq 1 0 = false from rfl, cond_false, c1 0 rfl, cond_true, hx]
      rfl
    · rw [AHeap.get_push]; exact if_pos rfl
  · have hg : (H.push (.cells xs 0 false)).get b = some (.cells L low false) := by rw [AHeap.get_push, if_neg (by omega)]; exact h5
    have hgrow : growCells (H.push (.cells xs 0 false)) ⟨b, L.length, 0⟩ L.length xs = some ((H.push (.cells xs 0 false)).set b (.cells (L ++ xs) low false)) := by
      unfold growCells
      simp only [hg, Nat.ble_eq_true_of_le h6, Nat.ble_eq_true_of_le (Nat.le_refl _), Nat.ble_eq_true_of_le (Nat.zero_le _), Nat.ble_eq_true_of_le (show L.length + 1 ≤ L.length + xs.length by omega), Nat.beq_refl, ho, Bool.and_self, cond_true, List.take_length]
    refine ⟨.slice (some ⟨b, L.length + m, 0⟩) (k + 1) (.open_ m), (H.push (.cells xs 0 false)).set b (.cells (L ++ xs) low false), ?_, .inr ⟨b, low, by simp [hx], by rw [List.length_append, h2, hx, Nat.mul_add, Nat.mul_one], h3, by rw [set_next, push_next]; omega, by rw [AHeap.get_set, if_pos rfl], by simp; omega, by omega⟩, ((Ext.refl n H).push hn _).set h3 _, fun c hc hd => by rw [AHeap.get_set, if_neg (hd _ _ _ rfl), get_push_lt hc]⟩
    have e0 : 0 + k * m = L.length := by rw [h2, Nat.mul_comm]; omega
    have e1 : Nat.ble (0 + (k + 1) * m) L.length = false := by
      rw [ble_dec]; refine decide_eq_false ?_
      rw [Nat.add_mul, Nat.one_mul]; omega
    simp only [aAppend, srcM H hx]
    rw [show Nat.beq 1 0 = false from rfl, cond_false, c1 k rfl, cond_true]
    simp only [Nat.beq_refl, cond_true, e1, cond_false, e0, hgrow, hx]
theorem idxM {b lim k m : Nat} (K : IntKind) {i : Nat} (h : i < k) : aIdxA m (.slice (some ⟨b, lim, 0⟩) k (.open_ m)) (.int K (i : Int)) = some (cellR b lim (i * m)) := by
  show (bif Nat.blt i k then some (AVal.ptr (some ⟨b, lim, 0 + i * m⟩)) else none) = _
  have : Nat.blt i k = true := by simpa [Nat.blt_eq] using h
  rw [this, Nat.zero_add]; rfl
theorem fldR (b n i o : Nat) : aField o (cellR b n i) = some (cellR b n (i + o)) := by
  simp only [aField, cellR]
end Go.Abs.S
/- Words: tokens said again with blanks between them: the statement's contract. -/
namespace Go.Proofs.Wo
open Go.Abs Go.Abs.S
set_option linter.unusedSimpArgs false
variable {N : ANat}
theorem sub_text {text : Bs} {j m : Nat} (h : j + m ≤ text.length) : aSlStr (.str text) (some (.int .i64 (j : Int))) (some (.int .i64 ((j + m : Nat) : Int))) = some (.str ((text.drop j).take m)) := by
  rw [str_sl (by omega) h, Nat.add_sub_cancel_left]
set_option maxRecDepth 100000 in
theorem blanks_spec (hN : NWo N) {text : Bs} {H : AHeap} (hn : 1 < H.next) (G : Glo H 1 powL) :
    ACalls Tryd.prog N 5 [.str text] H fun v H' => v = .bool true ∧ Ext H.next H H' := by
  refine acalls_ofN (hN.no _ (by decide)) za5 rfl ?_
  have hz : ([.int .u8 0, .str [], .int .i64 0, .int .i64 0, .int .i64 0, .int .i64 0] : List AVal) = ZW := rfl
  have hs8 : ([32, 35, 32, 120, 32, 40, 10, 9] : Bs) = sep := rfl
  have main : ∀ (text : Bs) (T : Env), text.length ≤ 1000 → T 0 = .str text → wp (ACalls Tryd.prog N) (seq2 (seq2 c5.body)) (fin c5.res fun v H' => v = .bool true ∧ Ext H.next H H') T H := by
    intro text T htx t0
    simp only [seq2, c5, pf_min, undef_bool, str_len, str_eql, str_neq, conv_in, un_not, eq_self, decide_true, decide_false, Bool.not_true, Bool.not_false, argE_0, argE_1, argE_2, argE_3, argE_4, aw_skip, aw_reg, aw_seq, aw_cond, aw_exit, aw_ret, inSeq_normal, inSeq_exit, inSeq_ret, inBlk_exit, inBlk_normal, inBlk_ret, OptK_some, OptH_some, OptS_some, kont_app, ar_nil, ar_guard, ar_mv, ar_pick, ar_new, ar_box, ar_build, ar_buildSl, ar_load, ar_store, ar_nilChk, ar_bin, ar_un, ar_conv, ar_convSB, ar_convBS, ar_mkFunc, ar_mkIface, ar_mkSlice, ar_sl, ar_slStr, ar_fieldA, ar_field, ar_idxA, ar_idxArr, ar_idx, ar_idxS, ar_extract, ar_append, ar_len, ar_call, ar_callv, callvP_func, List.nil_append, List.cons_append, List.append_nil, ar_pf, ar_hf, ar_slA, upO_some, upO_none, sX_t, sX_c, sX_f, sXs, sXO, sXP, fin_t, fin_t2, fin_t3, up_same, up_ne, ne_eq, not_false_eq_true, AVal.bool.injEq, decide_eq_true_eq, decide_eq_false_iff_not, Int.ofNat_eq_natCast, Int.reduceNegSucc, Int.cast_ofNat_Int, reduceCtorEq, bin_lss, bin_leq, bin_gtr, bin_geq, bin_eql, bin_neq, bin_add, bin_sub, bin_mul, Bool.not_eq_true', Bool.not_eq_false', Bool.true_eq_false, Bool.false_eq_true, Nat.reduceEqDiff, ↓reduceIte, if_true, if_false, Nat.reduceAdd, Int.reduceEq, Int.reduceLT, Int.reduceLE, t0]
    rw [aw_block]
    have hnil : (.slice none 0 (.known 0) : AVal) = nilS := rfl
    refine aw_cut (fun (T : Env) H' => ∃ (l : List It) (sl : AVal), T 3 = sl ∧ T 4 = .str (sayL l) ∧ AppN 6 H.next H' sl (celL l) l.length ∧ (∀ it ∈ l, Good it) ∧ total l ≤ 1000 ∧ Ext H.next H H') (calls_mono _ _) ?_ ?_
    · refine aw_loop (fun q (T : Env) H' => ∃ (n p : Nat) (l : List It) (sl : AVal), n ≤ 1100 ∧ q = 1100 - n ∧ T 0 = .str text ∧ T 3 = sl ∧ T 4 = .str (sayL l) ∧ T 5 = .int .i64 (p : Int) ∧ T 6 = .int .i64 (n : Int) ∧ p ≤ text.length ∧ AppN 6 H.next H' sl (celL l) l.length ∧ (∀ it ∈ l, Good it) ∧ total l ≤ p ∧ Ext H.next H H') 1100
        ⟨0, 0, [], nilS, by omega, rfl, by simp only [pf_min, undef_bool, str_len, str_eql, str_neq, conv_in, un_not, eq_self, decide_true, decide_false, Bool.not_true, Bool.not_false, argE_0, argE_1, argE_2, argE_3, argE_4, aw_skip, aw_reg, aw_seq, aw_cond, aw_block, aw_exit, aw_ret, inSeq_normal, inSeq_exit, inSeq_ret, inBlk_exit, inBlk_normal, inBlk_ret, OptK_some, OptH_some, OptS_some, kont_app, ar_nil, ar_guard, ar_mv, ar_pick, ar_new, ar_box, ar_build, ar_buildSl, ar_load, ar_store, ar_nilChk, ar_bin, ar_un, ar_conv, ar_convSB, ar_convBS, ar_mkFunc, ar_mkIface, ar_mkSlice, ar_sl, ar_slStr, ar_fieldA, ar_field, ar_idxA, ar_idxArr, ar_idx, ar_idxS, ar_extract, ar_append, ar_len, ar_call, ar_callv, callvP_func, List.nil_append, List.cons_append, List.append_nil, ar_pf, ar_hf, ar_slA, upO_some, upO_none, sX_t, sX_c, sX_f, sXs, sXO, sXP, fin_t, fin_t2, fin_t3, up_same, up_ne, ne_eq, not_false_eq_true, AVal.bool.injEq, decide_eq_true_eq, decide_eq_false_iff_not, Int.ofNat_eq_natCast, Int.reduceNegSucc, Int.cast_ofNat_Int, reduceCtorEq, bin_lss, bin_leq, bin_gtr, bin_geq, bin_eql, bin_neq, bin_add, bin_sub, bin_mul, Bool.not_eq_true', Bool.not_eq_false', Bool.true_eq_false, Bool.false_eq_true, Nat.reduceEqDiff, ↓reduceIte, if_true, if_false, Nat.reduceAdd, Int.reduceEq, Int.reduceLT, Int.reduceLE, t0], by simp only [pf_min, undef_bool, str_len, str_eql, str_neq, conv_in, un_not, eq_self, decide_true, decide_false, Bool.not_true, Bool.not_false, argE_0, argE_1, argE_2, argE_3, argE_4, aw_skip, aw_reg, aw_seq, aw_cond, aw_block, aw_exit, aw_ret, inSeq_normal, inSeq_exit, inSeq_ret, inBlk_exit, inBlk_normal, inBlk_ret, OptK_some, OptH_some, OptS_some, kont_app, ar_nil, ar_guard, ar_mv, ar_pick, ar_new, ar_box, ar_build, ar_buildSl, ar_load, ar_store, ar_nilChk, ar_bin, ar_un, ar_conv, ar_convSB, ar_convBS, ar_mkFunc, ar_mkIface, ar_mkSlice, ar_sl, ar_slStr, ar_fieldA, ar_field, ar_idxA, ar_idxArr, ar_idx, ar_idxS, ar_extract, ar_append, ar_len, ar_call, ar_callv, callvP_func, List.nil_append, List.cons_append, List.append_nil, ar_pf, ar_hf, ar_slA, upO_some, upO_none, sX_t, sX_c, sX_f, sXs, sXO, sXP, fin_t, fin_t2, fin_t3, up_same, up_ne, ne_eq, not_false_eq_true, AVal.bool.injEq, decide_eq_true_eq, decide_eq_false_iff_not, Int.ofNat_eq_natCast, Int.reduceNegSucc, Int.cast_ofNat_Int, reduceCtorEq, bin_lss, bin_leq, bin_gtr, bin_geq, bin_eql, bin_neq, bin_add, bin_sub, bin_mul, Bool.not_eq_true', Bool.not_eq_false', Bool.true_eq_false, Bool.false_eq_true, Nat.reduceEqDiff, ↓reduceIte, if_true, if_false, Nat.reduceAdd, Int.reduceEq, Int.reduceLT, Int.reduceLE, hnil], by simp only [pf_min, undef_bool, str_len, str_eql, str_neq, conv_in, un_not, eq_self, decide_true, decide_false, Bool.not_true, Bool.not_false, argE_0, argE_1, argE_2, argE_3, argE_4, aw_skip, aw_reg, aw_seq, aw_cond, aw_block, aw_exit, aw_ret, inSeq_normal, inSeq_exit, inSeq_ret, inBlk_exit, inBlk_normal, inBlk_ret, OptK_some, OptH_some, OptS_some, kont_app, ar_nil, ar_guard, ar_mv, ar_pick, ar_new, ar_box, ar_build, ar_buildSl, ar_load, ar_store, ar_nilChk, ar_bin, ar_un, ar_conv, ar_convSB, ar_convBS, ar_mkFunc, ar_mkIface, ar_mkSlice, ar_sl, ar_slStr, ar_fieldA, ar_field, ar_idxA, ar_idxArr, ar_idx, ar_idxS, ar_extract, ar_append, ar_len, ar_call, ar_callv, callvP_func, List.nil_append, List.cons_append, List.append_nil, ar_pf, ar_hf, ar_slA, upO_some, upO_none, sX_t, sX_c, sX_f, sXs, sXO, sXP, fin_t, fin_t2, fin_t3, up_same, up_ne, ne_eq, not_false_eq_true, AVal.bool.injEq, decide_eq_true_eq, decide_eq_false_iff_not, Int.ofNat_eq_natCast, Int.reduceNegSucc, Int.cast_ofNat_Int, reduceCtorEq, bin_lss, bin_leq, bin_gtr, bin_geq, bin_eql, bin_neq, bin_add, bin_sub, bin_mul, Bool.not_eq_true', Bool.not_eq_false', Bool.true_eq_false, Bool.false_eq_true, Nat.reduceEqDiff, ↓reduceIte, if_true, if_false, Nat.reduceAdd, Int.reduceEq, Int.reduceLT, Int.reduceLE]; rfl, by simp only [pf_min, undef_bool, str_len, str_eql, str_neq, conv_in, un_not, eq_self, decide_true, decide_false, Bool.not_true, Bool.not_false, argE_0, argE_1, argE_2, argE_3, argE_4, aw_skip, aw_reg, aw_seq, aw_cond, aw_block, aw_exit, aw_ret, inSeq_normal, inSeq_exit, inSeq_ret, inBlk_exit, inBlk_normal, inBlk_ret, OptK_some, OptH_some, OptS_some, kont_app, ar_nil, ar_guard, ar_mv, ar_pick, ar_new, ar_box, ar_build, ar_buildSl, ar_load, ar_store, ar_nilChk, ar_bin, ar_un, ar_conv, ar_convSB, ar_convBS, ar_mkFunc, ar_mkIface, ar_mkSlice, ar_sl, ar_slStr, ar_fieldA, ar_field, ar_idxA, ar_idxArr, ar_idx, ar_idxS, ar_extract, ar_append, ar_len, ar_call, ar_callv, callvP_func, List.nil_append, List.cons_append, List.append_nil, ar_pf, ar_hf, ar_slA, upO_some, upO_none, sX_t, sX_c, sX_f, sXs, sXO, sXP, fin_t, fin_t2, fin_t3, up_same, up_ne, ne_eq, not_false_eq_true, AVal.bool.injEq, decide_eq_true_eq, decide_eq_false_iff_not, Int.ofNat_eq_natCast, Int.reduceNegSucc, Int.cast_ofNat_Int, reduceCtorEq, bin_lss, bin_leq, bin_gtr, bin_geq, bin_eql, bin_neq, bin_add, bin_sub, bin_mul, Bool.not_eq_true', Bool.not_eq_false', Bool.true_eq_false, Bool.false_eq_true, Nat.reduceEqDiff, ↓reduceIte, if_true, if_false, Nat.reduceAdd, Int.reduceEq, Int.reduceLT, Int.reduceLE]; try rfl, by simp only [pf_min, undef_bool, str_len, str_eql, str_neq, conv_in, un_not, eq_self, decide_true, decide_false, Bool.not_true, Bool.not_false, argE_0, argE_1, argE_2, argE_3, argE_4, aw_skip, aw_reg, aw_seq, aw_cond, aw_block, aw_exit, aw_ret, inSeq_normal, inSeq_exit, inSeq_ret, inBlk_exit, inBlk_normal, inBlk_ret, OptK_some, OptH_some, OptS_some, kont_app, ar_nil, ar_guard, ar_mv, ar_pick, ar_new, ar_box, ar_build, ar_buildSl, ar_load, ar_store, ar_nilChk, ar_bin, ar_un, ar_conv, ar_convSB, ar_convBS, ar_mkFunc, ar_mkIface, ar_mkSlice, ar_sl, ar_slStr, ar_fieldA, ar_field, ar_idxA, ar_idxArr, ar_idx, ar_idxS, ar_extract, ar_append, ar_len, ar_call, ar_callv, callvP_func, List.nil_append, List.cons_append, List.append_nil, ar_pf, ar_hf, ar_slA, upO_some, upO_none, sX_t, sX_c, sX_f, sXs, sXO, sXP, fin_t, fin_t2, fin_t3, up_same, up_ne, ne_eq, not_false_eq_true, AVal.bool.injEq, decide_eq_true_eq, decide_eq_false_iff_not, Int.ofNat_eq_natCast, Int.reduceNegSucc, Int.cast_ofNat_Int, reduceCtorEq, bin_lss, bin_leq, bin_gtr, bin_geq, bin_eql, bin_neq, bin_add, bin_sub, bin_mul, Bool.not_eq_true', Bool.not_eq_false', Bool.true_eq_false, Bool.false_eq_true, Nat.reduceEqDiff, ↓reduceIte, if_true, if_false, Nat.reduceAdd, Int.reduceEq, Int.reduceLT, Int.reduceLE]; try rfl, Nat.zero_le _, AppN.nil _ _ _, by simp, by simp [total], Ext.refl _ _⟩ ?_
      clear t0 T
      rintro q T K ⟨n, p, l, sl, hn', rfl, t0, t3, t4, t5, t6, hp, A, hg, ht, D⟩
      have htl := len_total hg
      by_cases c1 : n < 1100
      · have c1' : (n : Int) < 1100 := by omega
        have hskg := skipF_ge (s := text) (i := p) hp
        have hskl := skipF_le text p
        have hnx : nextA text (p : Int) = if skipF text p = text.length then pairA (wdL 5 [] 0 (lineF text (skipF text p)) (skipF text p) (skipF text p)) (flL 0 0) else match oneF text (skipF text p) with
            | some t => pairA (wdL t.k t.S t.n (lineF text (skipF text p)) (skipF text p) t.e) (flL 0 0)
            | none => pairA (wdL 0 [] 0 0 0 0) (flL 100 (lineF text (skipF text p))) := by
          rw [nextA, if_neg (by omega), if_neg (by omega), Int.toNat_natCast]
          rfl
        generalize skipF text p = j at *
        simp only [pf_min, undef_bool, str_len, str_eql, str_neq, conv_in, un_not, eq_self, decide_true, decide_false, Bool.not_true, Bool.not_false, argE_0, argE_1, argE_2, argE_3, argE_4, aw_skip, aw_reg, aw_seq, aw_cond, aw_block, aw_exit, aw_ret, inSeq_normal, inSeq_exit, inSeq_ret, inBlk_exit, inBlk_normal, inBlk_ret, OptK_some, OptH_some, OptS_some, kont_app, ar_nil, ar_guard, ar_mv, ar_pick, ar_new, ar_box, ar_build, ar_buildSl, ar_load, ar_store, ar_nilChk, ar_bin, ar_un, ar_conv, ar_convSB, ar_convBS, ar_mkFunc, ar_mkIface, ar_mkSlice, ar_sl, ar_slStr, ar_fieldA, ar_field, ar_idxA, ar_idxArr, ar_idx, ar_idxS, ar_extract, ar_append, ar_len, ar_call, ar_callv, callvP_func, List.nil_append, List.cons_append, List.append_nil, ar_pf, ar_hf, ar_slA, upO_some, upO_none, sX_t, sX_c, sX_f, sXs, sXO, sXP, fin_t, fin_t2, fin_t3, up_same, up_ne, ne_eq, not_false_eq_true, AVal.bool.injEq, decide_eq_true_eq, decide_eq_false_iff_not, Int.ofNat_eq_natCast, Int.reduceNegSucc, Int.cast_ofNat_Int, reduceCtorEq, bin_lss, bin_leq, bin_gtr, bin_geq, bin_eql, bin_neq, bin_add, bin_sub, bin_mul, Bool.not_eq_true', Bool.not_eq_false', Bool.true_eq_false, Bool.false_eq_true, Nat.reduceEqDiff, ↓reduceIte, if_true, if_false, Nat.reduceAdd, Int.reduceEq, Int.reduceLT, Int.reduceLE, t0, t3, t4, t5, t6, c1']
        by_cases c2 : j = text.length
        · rw [if_pos c2] at hnx
          refine (next_two hN (by omega) (by omega) hnx).mono ?_
          rintro v K1 ⟨rfl, E1⟩
          obtain ⟨Ka, Kb, Kc, K2, a1, a2, a3, a4, r6, r2, F2, n2, D2⟩ := keep_two (D.trans (E1.less D.next)) (by have := D.next; have := E1.next; omega) (wdL_len 5 [] 0 (lineF text j) j j) (wdL_one 5 [] 0 (lineF text j) j j) (flL_len 0 0) (flL_one 0 0)
          have l1 := row_load r2 (n := 2) rfl (i := 0) (x := .int .i64 0) rfl
          have l2 := row_load r6 (n := 6) rfl (i := 0) (x := .int .u8 5) rfl
          simp only [pf_min, undef_bool, str_len, str_eql, str_neq, conv_in, un_not, eq_self, decide_true, decide_false, Bool.not_true, Bool.not_false, argE_0, argE_1, argE_2, argE_3, argE_4, aw_skip, aw_reg, aw_seq, aw_cond, aw_block, aw_exit, aw_ret, inSeq_normal, inSeq_exit, inSeq_ret, inBlk_exit, inBlk_normal, inBlk_ret, OptK_some, OptH_some, OptS_some, kont_app, ar_nil, ar_guard, ar_mv, ar_pick, ar_new, ar_box, ar_build, ar_buildSl, ar_load, ar_store, ar_nilChk, ar_bin, ar_un, ar_conv, ar_convSB, ar_convBS, ar_mkFunc, ar_mkIface, ar_mkSlice, ar_sl, ar_slStr, ar_fieldA, ar_field, ar_idxA, ar_idxArr, ar_idx, ar_idxS, ar_extract, ar_append, ar_len, ar_call, ar_callv, callvP_func, List.nil_append, List.cons_append, List.append_nil, ar_pf, ar_hf, ar_slA, upO_some, upO_none, sX_t, sX_c, sX_f, sXs, sXO, sXP, fin_t, fin_t2, fin_t3, up_same, up_ne, ne_eq, not_false_eq_true, AVal.bool.injEq, decide_eq_true_eq, decide_eq_false_iff_not, Int.ofNat_eq_natCast, Int.reduceNegSucc, Int.cast_ofNat_Int, reduceCtorEq, bin_lss, bin_leq, bin_gtr, bin_geq, bin_eql, bin_neq, bin_add, bin_sub, bin_mul, Bool.not_eq_true', Bool.not_eq_false', Bool.true_eq_false, Bool.false_eq_true, Nat.reduceEqDiff, ↓reduceIte, if_true, if_false, Nat.reduceAdd, Int.reduceEq, Int.reduceLT, Int.reduceLE, t0, t3, t4, t5, t6, ext_0, ext_1, hz, a1, a2, a3, a4, fld0, l1, l2]
          exact ⟨l, sl, by trivial, by trivial, (A.ext E1).ext F2, hg, by omega, D2⟩
        · rw [if_neg c2] at hnx
          rw [oneF_L] at hnx
          cases hone : oneL (text.drop j) with
          | none =>
            rw [hone] at hnx
            refine (next_two hN (by omega) (by omega) hnx).mono ?_
            rintro v K1 ⟨rfl, E1⟩
            obtain ⟨Ka, Kb, Kc, K2, a1, a2, a3, a4, r6, r2, F2, n2, D2⟩ := keep_two (D.trans (E1.less D.next)) (by have := D.next; have := E1.next; omega) (wdL_len 0 [] 0 0 0 0) (wdL_one 0 [] 0 0 0 0) (flL_len 100 (lineF text j)) (flL_one 100 (lineF text j))
            have l1 := row_load r2 (n := 2) rfl (i := 0) (x := .int .i64 100) rfl
            simp only [pf_min, undef_bool, str_len, str_eql, str_neq, conv_in, un_not, eq_self, decide_true, decide_false, Bool.not_true, Bool.not_false, argE_0, argE_1, argE_2, argE_3, argE_4, aw_skip, aw_reg, aw_seq, aw_cond, aw_block, aw_exit, aw_ret, inSeq_normal, inSeq_exit, inSeq_ret, inBlk_exit, inBlk_normal, inBlk_ret, OptK_some, OptH_some, OptS_some, kont_app, ar_nil, ar_guard, ar_mv, ar_pick, ar_new, ar_box, ar_build, ar_buildSl, ar_load, ar_store, ar_nilChk, ar_bin, ar_un, ar_conv, ar_convSB, ar_convBS, ar_mkFunc, ar_mkIface, ar_mkSlice, ar_sl, ar_slStr, ar_fieldA, ar_field, ar_idxA, ar_idxArr, ar_idx, ar_idxS, ar_extract, ar_append, ar_len, ar_call, ar_callv, callvP_func, List.nil_append, List.cons_append, List.append_nil, ar_pf, ar_hf, ar_slA, upO_some, upO_none, sX_t, sX_c, sX_f, sXs, sXO, sXP, fin_t, fin_t2, fin_t3, up_same, up_ne, ne_eq, not_false_eq_true, AVal.bool.injEq, decide_eq_true_eq, decide_eq_false_iff_not, Int.ofNat_eq_natCast, Int.reduceNegSucc, Int.cast_ofNat_Int, reduceCtorEq, bin_lss, bin_leq, bin_gtr, bin_geq, bin_eql, bin_neq, bin_add, bin_sub, bin_mul, Bool.not_eq_true', Bool.not_eq_false', Bool.true_eq_false, Bool.false_eq_true, Nat.reduceEqDiff, ↓reduceIte, if_true, if_false, Nat.reduceAdd, Int.reduceEq, Int.reduceLT, Int.reduceLE, t0, t3, t4, t5, t6, ext_0, ext_1, hz, a1, a2, a3, a4, fld0, l1]
            exact ⟨l, sl, by trivial, by trivial, (A.ext E1).ext F2, hg, by omega, D2⟩
          | some t =>
            rw [hone] at hnx
            obtain ⟨_, q2, q3, _, _, q6, q7, q8⟩ := oneL_again hone []
            have hgd := good_of hone (lineF text j) j (j + t.m)
            simp only [List.length_drop] at q3
            refine (next_two hN (by omega) (by omega) hnx).mono ?_
            rintro v K1 ⟨rfl, E1⟩
            simp only
            obtain ⟨Ka, Kb, Kc, K2, a1, a2, a3, a4, r6, r2, F2, n2, D2⟩ := keep_two (D.trans (E1.less D.next)) (by have := D.next; have := E1.next; omega) (wdL_len t.k t.S t.n (lineF text j) j (j + t.m)) (wdL_one t.k t.S t.n (lineF text j) j (j + t.m)) (flL_len 0 0) (flL_one 0 0)
            have l1 := row_load r2 (n := 2) rfl (i := 0) (x := .int .i64 0) rfl
            have l2 := row_load r6 (n := 6) rfl (i := 0) (x := .int .u8 (t.k : Int)) rfl
            have l3 := row_load r6 (n := 6) rfl (i := 4) (x := .int .i64 (j : Int)) rfl
            have l4 := row_load r6 (n := 6) rfl (i := 5) (x := .int .i64 ((j + t.m : Nat) : Int)) rfl
            have l5 := row_loadN r6 (n := 6) rfl
            have hk5 : ¬ (t.k : Int) = 5 := by omega
            have d1 : ¬ (j : Int) < (p : Int) := by omega
            have d2 : ¬ ((j + t.m : Nat) : Int) ≤ (j : Int) := by omega
            have d3 : ¬ (text.length : Int) < ((j + t.m : Nat) : Int) := by omega
            have A2 := (A.ext E1).ext F2
            have hlm : l.length ≤ 1000 := by omega
            obtain ⟨s', K3, p1, A3, E3, k3⟩ := A2.push D2.next (xs := wdL t.k t.S t.n (lineF text j) j (j + t.m)) rfl rfl (by omega) (bytes := 56) (by omega) (by omega)
            have hx : ((text.drop j).take t.m).length = t.m := by simp; omega
            have hsy := sayL_len l
            have add1 := str_add (x := (text.drop j).take t.m) (y := sep) (by rw [hx]; simp [sep]; omega)
            have add2 := str_add (x := sayL l) (y := (text.drop j).take t.m ++ sep) (by rw [List.length_append, hx]; simp [sep]; omega)
            have hb3 := k3 K1.next (by omega) (fun a jj r he => by have := A.blk a jj r he; have := E1.next; omega)
            have l3' := row_load (r6.same hb3) (n := 6) rfl (i := 4) (x := .int .i64 (j : Int)) rfl
            have l4' := row_load (r6.same hb3) (n := 6) rfl (i := 5) (x := .int .i64 ((j + t.m : Nat) : Int)) rfl
            simp only [pf_min, undef_bool, str_len, str_eql, str_neq, conv_in, un_not, eq_self, decide_true, decide_false, Bool.not_true, Bool.not_false, argE_0, argE_1, argE_2, argE_3, argE_4, aw_skip, aw_reg, aw_seq, aw_cond, aw_block, aw_exit, aw_ret, inSeq_normal, inSeq_exit, inSeq_ret, inBlk_exit, inBlk_normal, inBlk_ret, OptK_some, OptH_some, OptS_some, kont_app, ar_nil, ar_guard, ar_mv, ar_pick, ar_new, ar_box, ar_build, ar_buildSl, ar_load, ar_store, ar_nilChk, ar_bin, ar_un, ar_conv, ar_convSB, ar_convBS, ar_mkFunc, ar_mkIface, ar_mkSlice, ar_sl, ar_slStr, ar_fieldA, ar_field, ar_idxA, ar_idxArr, ar_idx, ar_idxS, ar_extract, ar_append, ar_len, ar_call, ar_callv, callvP_func, List.nil_append, List.cons_append, List.append_nil, ar_pf, ar_hf, ar_slA, upO_some, upO_none, sX_t, sX_c, sX_f, sXs, sXO, sXP, fin_t, fin_t2, fin_t3, up_same, up_ne, ne_eq, not_false_eq_true, AVal.bool.injEq, decide_eq_true_eq, decide_eq_false_iff_not, Int.ofNat_eq_natCast, Int.reduceNegSucc, Int.cast_ofNat_Int, reduceCtorEq, bin_lss, bin_leq, bin_gtr, bin_geq, bin_eql, bin_neq, bin_add, bin_sub, bin_mul, Bool.not_eq_true', Bool.not_eq_false', Bool.true_eq_false, Bool.false_eq_true, Nat.reduceEqDiff, ↓reduceIte, if_true, if_false, Nat.reduceAdd, Int.reduceEq, Int.reduceLT, Int.reduceLE, t0, t3, t4, t5, t6, ext_0, ext_1, hz, hs8, a1, a2, a3, a4, fld0, l1, l2, l3, l4, l5, l3', l4', hk5, d1, d2, d3, buildM K2 (z := ZW) (m := 6) rfl (wdL_len t.k t.S t.n (lineF text j) j (j + t.m)), p1, sub_text (text := text) (j := j) (m := t.m) (by omega), add1, add2, wrap1 n (by omega)]
            refine ⟨_, by omega, n + 1, j + t.m, l ++ [⟨(text.drop j).take t.m, t, lineF text j, j, j + t.m⟩], s', by omega, rfl, by trivial, by trivial, by rw [sayL_snoc], by trivial, rfl, by omega, ?_, ?_, ?_, D2.trans E3⟩
            · rw [celL_snoc, List.length_append]; exact A3
            · intro it hit
              rcases List.mem_append.1 hit with h | h
              · exact hg it h
              · simp only [List.mem_singleton] at h
                rw [h]; exact hgd
            · rw [total_snoc, hx]; omega
      · have c1' : ¬ (n : Int) < 1100 := by omega
        simp only [pf_min, undef_bool, str_len, str_eql, str_neq, conv_in, un_not, eq_self, decide_true, decide_false, Bool.not_true, Bool.not_false, argE_0, argE_1, argE_2, argE_3, argE_4, aw_skip, aw_reg, aw_seq, aw_cond, aw_block, aw_exit, aw_ret, inSeq_normal, inSeq_exit, inSeq_ret, inBlk_exit, inBlk_normal, inBlk_ret, OptK_some, OptH_some, OptS_some, kont_app, ar_nil, ar_guard, ar_mv, ar_pick, ar_new, ar_box, ar_build, ar_buildSl, ar_load, ar_store, ar_nilChk, ar_bin, ar_un, ar_conv, ar_convSB, ar_convBS, ar_mkFunc, ar_mkIface, ar_mkSlice, ar_sl, ar_slStr, ar_fieldA, ar_field, ar_idxA, ar_idxArr, ar_idx, ar_idxS, ar_extract, ar_append, ar_len, ar_call, ar_callv, callvP_func, List.nil_append, List.cons_append, List.append_nil, ar_pf, ar_hf, ar_slA, upO_some, upO_none, sX_t, sX_c, sX_f, sXs, sXO, sXP, fin_t, fin_t2, fin_t3, up_same, up_ne, ne_eq, not_false_eq_true, AVal.bool.injEq, decide_eq_true_eq, decide_eq_false_iff_not, Int.ofNat_eq_natCast, Int.reduceNegSucc, Int.cast_ofNat_Int, reduceCtorEq, bin_lss, bin_leq, bin_gtr, bin_geq, bin_eql, bin_neq, bin_add, bin_sub, bin_mul, Bool.not_eq_true', Bool.not_eq_false', Bool.true_eq_false, Bool.false_eq_true, Nat.reduceEqDiff, ↓reduceIte, if_true, if_false, Nat.reduceAdd, Int.reduceEq, Int.reduceLT, Int.reduceLE, t0, t3, t4, t5, t6, c1']
        exact ⟨l, sl, by trivial, by trivial, A, hg, by omega, D⟩
    · clear t0 htx
      rintro T K ⟨l, sl, t3, t4, A, hg, ht, D⟩
      have htl := len_total hg
      have hsl := sayL_len l
      have hal := A.len
      simp only [pf_min, undef_bool, str_len, str_eql, str_neq, conv_in, un_not, eq_self, decide_true, decide_false, Bool.not_true, Bool.not_false, argE_0, argE_1, argE_2, argE_3, argE_4, aw_skip, aw_reg, aw_seq, aw_cond, aw_block, aw_exit, aw_ret, inSeq_normal, inSeq_exit, inSeq_ret, inBlk_exit, inBlk_normal, inBlk_ret, OptK_some, OptH_some, OptS_some, kont_app, ar_nil, ar_guard, ar_mv, ar_pick, ar_new, ar_box, ar_build, ar_buildSl, ar_load, ar_store, ar_nilChk, ar_bin, ar_un, ar_conv, ar_convSB, ar_convBS, ar_mkFunc, ar_mkIface, ar_mkSlice, ar_sl, ar_slStr, ar_fieldA, ar_field, ar_idxA, ar_idxArr, ar_idx, ar_idxS, ar_extract, ar_append, ar_len, ar_call, ar_callv, callvP_func, List.nil_append, List.cons_append, List.append_nil, ar_pf, ar_hf, ar_slA, upO_some, upO_none, sX_t, sX_c, sX_f, sXs, sXO, sXP, fin_t, fin_t2, fin_t3, up_same, up_ne, ne_eq, not_false_eq_true, AVal.bool.injEq, decide_eq_true_eq, decide_eq_false_iff_not, Int.ofNat_eq_natCast, Int.reduceNegSucc, Int.cast_ofNat_Int, reduceCtorEq, bin_lss, bin_leq, bin_gtr, bin_geq, bin_eql, bin_neq, bin_add, bin_sub, bin_mul, Bool.not_eq_true', Bool.not_eq_false', Bool.true_eq_false, Bool.false_eq_true, Nat.reduceEqDiff, ↓reduceIte, if_true, if_false, Nat.reduceAdd, Int.reduceEq, Int.reduceLT, Int.reduceLE, t3, t4, hal]
      refine aw_loop (fun q (T : Env) H' => ∃ i : Nat, i ≤ l.length ∧ q = l.length - i ∧ T 3 = sl ∧ T 4 = .str (sayL l) ∧ T 5 = .int .i64 (((sayL (l.take i)).length - 8 : Nat) : Int) ∧ T 71 = .int .i64 (l.length : Int) ∧ T 72 = .int .i64 (i : Int) ∧ Ext K.next K H') l.length
        ⟨0, Nat.zero_le _, rfl, by simp only [pf_min, undef_bool, str_len, str_eql, str_neq, conv_in, un_not, eq_self, decide_true, decide_false, Bool.not_true, Bool.not_false, argE_0, argE_1, argE_2, argE_3, argE_4, aw_skip, aw_reg, aw_seq, aw_cond, aw_block, aw_exit, aw_ret, inSeq_normal, inSeq_exit, inSeq_ret, inBlk_exit, inBlk_normal, inBlk_ret, OptK_some, OptH_some, OptS_some, kont_app, ar_nil, ar_guard, ar_mv, ar_pick, ar_new, ar_box, ar_build, ar_buildSl, ar_load, ar_store, ar_nilChk, ar_bin, ar_un, ar_conv, ar_convSB, ar_convBS, ar_mkFunc, ar_mkIface, ar_mkSlice, ar_sl, ar_slStr, ar_fieldA, ar_field, ar_idxA, ar_idxArr, ar_idx, ar_idxS, ar_extract, ar_append, ar_len, ar_call, ar_callv, callvP_func, List.nil_append, List.cons_append, List.append_nil, ar_pf, ar_hf, ar_slA, upO_some, upO_none, sX_t, sX_c, sX_f, sXs, sXO, sXP, fin_t, fin_t2, fin_t3, up_same, up_ne, ne_eq, not_false_eq_true, AVal.bool.injEq, decide_eq_true_eq, decide_eq_false_iff_not, Int.ofNat_eq_natCast, Int.reduceNegSucc, Int.cast_ofNat_Int, reduceCtorEq, bin_lss, bin_leq, bin_gtr, bin_geq, bin_eql, bin_neq, bin_add, bin_sub, bin_mul, Bool.not_eq_true', Bool.not_eq_false', Bool.true_eq_false, Bool.false_eq_true, Nat.reduceEqDiff, ↓reduceIte, if_true, if_false, Nat.reduceAdd, Int.reduceEq, Int.reduceLT, Int.reduceLE, t3], by simp only [pf_min, undef_bool, str_len, str_eql, str_neq, conv_in, un_not, eq_self, decide_true, decide_false, Bool.not_true, Bool.not_false, argE_0, argE_1, argE_2, argE_3, argE_4, aw_skip, aw_reg, aw_seq, aw_cond, aw_block, aw_exit, aw_ret, inSeq_normal, inSeq_exit, inSeq_ret, inBlk_exit, inBlk_normal, inBlk_ret, OptK_some, OptH_some, OptS_some, kont_app, ar_nil, ar_guard, ar_mv, ar_pick, ar_new, ar_box, ar_build, ar_buildSl, ar_load, ar_store, ar_nilChk, ar_bin, ar_un, ar_conv, ar_convSB, ar_convBS, ar_mkFunc, ar_mkIface, ar_mkSlice, ar_sl, ar_slStr, ar_fieldA, ar_field, ar_idxA, ar_idxArr, ar_idx, ar_idxS, ar_extract, ar_append, ar_len, ar_call, ar_callv, callvP_func, List.nil_append, List.cons_append, List.append_nil, ar_pf, ar_hf, ar_slA, upO_some, upO_none, sX_t, sX_c, sX_f, sXs, sXO, sXP, fin_t, fin_t2, fin_t3, up_same, up_ne, ne_eq, not_false_eq_true, AVal.bool.injEq, decide_eq_true_eq, decide_eq_false_iff_not, Int.ofNat_eq_natCast, Int.reduceNegSucc, Int.cast_ofNat_Int, reduceCtorEq, bin_lss, bin_leq, bin_gtr, bin_geq, bin_eql, bin_neq, bin_add, bin_sub, bin_mul, Bool.not_eq_true', Bool.not_eq_false', Bool.true_eq_false, Bool.false_eq_true, Nat.reduceEqDiff, ↓reduceIte, if_true, if_false, Nat.reduceAdd, Int.reduceEq, Int.reduceLT, Int.reduceLE, t4], by simp only [pf_min, undef_bool, str_len, str_eql, str_neq, conv_in, un_not, eq_self, decide_true, decide_false, Bool.not_true, Bool.not_false, argE_0, argE_1, argE_2, argE_3, argE_4, aw_skip, aw_reg, aw_seq, aw_cond, aw_block, aw_exit, aw_ret, inSeq_normal, inSeq_exit, inSeq_ret, inBlk_exit, inBlk_normal, inBlk_ret, OptK_some, OptH_some, OptS_some, kont_app, ar_nil, ar_guard, ar_mv, ar_pick, ar_new, ar_box, ar_build, ar_buildSl, ar_load, ar_store, ar_nilChk, ar_bin, ar_un, ar_conv, ar_convSB, ar_convBS, ar_mkFunc, ar_mkIface, ar_mkSlice, ar_sl, ar_slStr, ar_fieldA, ar_field, ar_idxA, ar_idxArr, ar_idx, ar_idxS, ar_extract, ar_append, ar_len, ar_call, ar_callv, callvP_func, List.nil_append, List.cons_append, List.append_nil, ar_pf, ar_hf, ar_slA, upO_some, upO_none, sX_t, sX_c, sX_f, sXs, sXO, sXP, fin_t, fin_t2, fin_t3, up_same, up_ne, ne_eq, not_false_eq_true, AVal.bool.injEq, decide_eq_true_eq, decide_eq_false_iff_not, Int.ofNat_eq_natCast, Int.reduceNegSucc, Int.cast_ofNat_Int, reduceCtorEq, bin_lss, bin_leq, bin_gtr, bin_geq, bin_eql, bin_neq, bin_add, bin_sub, bin_mul, Bool.not_eq_true', Bool.not_eq_false', Bool.true_eq_false, Bool.false_eq_true, Nat.reduceEqDiff, ↓reduceIte, if_true, if_false, Nat.reduceAdd, Int.reduceEq, Int.reduceLT, Int.reduceLE]; rfl, by simp only [pf_min, undef_bool, str_len, str_eql, str_neq, conv_in, un_not, eq_self, decide_true, decide_false, Bool.not_true, Bool.not_false, argE_0, argE_1, argE_2, argE_3, argE_4, aw_skip, aw_reg, aw_seq, aw_cond, aw_block, aw_exit, aw_ret, inSeq_normal, inSeq_exit, inSeq_ret, inBlk_exit, inBlk_normal, inBlk_ret, OptK_some, OptH_some, OptS_some, kont_app, ar_nil, ar_guard, ar_mv, ar_pick, ar_new, ar_box, ar_build, ar_buildSl, ar_load, ar_store, ar_nilChk, ar_bin, ar_un, ar_conv, ar_convSB, ar_convBS, ar_mkFunc, ar_mkIface, ar_mkSlice, ar_sl, ar_slStr, ar_fieldA, ar_field, ar_idxA, ar_idxArr, ar_idx, ar_idxS, ar_extract, ar_append, ar_len, ar_call, ar_callv, callvP_func, List.nil_append, List.cons_append, List.append_nil, ar_pf, ar_hf, ar_slA, upO_some, upO_none, sX_t, sX_c, sX_f, sXs, sXO, sXP, fin_t, fin_t2, fin_t3, up_same, up_ne, ne_eq, not_false_eq_true, AVal.bool.injEq, decide_eq_true_eq, decide_eq_false_iff_not, Int.ofNat_eq_natCast, Int.reduceNegSucc, Int.cast_ofNat_Int, reduceCtorEq, bin_lss, bin_leq, bin_gtr, bin_geq, bin_eql, bin_neq, bin_add, bin_sub, bin_mul, Bool.not_eq_true', Bool.not_eq_false', Bool.true_eq_false, Bool.false_eq_true, Nat.reduceEqDiff, ↓reduceIte, if_true, if_false, Nat.reduceAdd, Int.reduceEq, Int.reduceLT, Int.reduceLE], by simp only [pf_min, undef_bool, str_len, str_eql, str_neq, conv_in, un_not, eq_self, decide_true, decide_false, Bool.not_true, Bool.not_false, argE_0, argE_1, argE_2, argE_3, argE_4, aw_skip, aw_reg, aw_seq, aw_cond, aw_block, aw_exit, aw_ret, inSeq_normal, inSeq_exit, inSeq_ret, inBlk_exit, inBlk_normal, inBlk_ret, OptK_some, OptH_some, OptS_some, kont_app, ar_nil, ar_guard, ar_mv, ar_pick, ar_new, ar_box, ar_build, ar_buildSl, ar_load, ar_store, ar_nilChk, ar_bin, ar_un, ar_conv, ar_convSB, ar_convBS, ar_mkFunc, ar_mkIface, ar_mkSlice, ar_sl, ar_slStr, ar_fieldA, ar_field, ar_idxA, ar_idxArr, ar_idx, ar_idxS, ar_extract, ar_append, ar_len, ar_call, ar_callv, callvP_func, List.nil_append, List.cons_append, List.append_nil, ar_pf, ar_hf, ar_slA, upO_some, upO_none, sX_t, sX_c, sX_f, sXs, sXO, sXP, fin_t, fin_t2, fin_t3, up_same, up_ne, ne_eq, not_false_eq_true, AVal.bool.injEq, decide_eq_true_eq, decide_eq_false_iff_not, Int.ofNat_eq_natCast, Int.reduceNegSucc, Int.cast_ofNat_Int, reduceCtorEq, bin_lss, bin_leq, bin_gtr, bin_geq, bin_eql, bin_neq, bin_add, bin_sub, bin_mul, Bool.not_eq_true', Bool.not_eq_false', Bool.true_eq_false, Bool.false_eq_true, Nat.reduceEqDiff, ↓reduceIte, if_true, if_false, Nat.reduceAdd, Int.reduceEq, Int.reduceLT, Int.reduceLE]; try rfl, Ext.refl _ _⟩ ?_
      clear t3 t4 T
      rintro q T K0 ⟨i, hi, rfl, t3, t4, t5, t71, t72, E0⟩
      have hK := E0.next
      by_cases c1 : i < l.length
      · have c1' : (i : Int) < (l.length : Int) := by omega
        obtain ⟨it, hit⟩ := isSome_of_lt c1
        have hnx := next_again hg (by omega) hit
        have htk : sayL (l.take (i + 1)) = sayL (l.take i) ++ (it.x ++ sep) := by rw [List.take_add_one, hit, Option.toList_some, sayL_snoc]
        have hpl : (sayL (l.take i)).length ≤ (sayL l).length := by
          rw [sayL_len, sayL_len]
          have h1 : total (l.take i) ≤ total l := by
            have e : total l = total (l.take i) + total (l.drop i) := by
              conv => lhs; rw [← List.take_append_drop i l]
              simp only [total, List.map_append, List.sum_append]
            omega
          simp; omega
        have hen : (sayL (l.take i)).length + it.x.length = (sayL (l.take (i + 1))).length - 8 := by
          rw [htk, List.length_append, List.length_append]
          have : sep.length = 8 := rfl
          omega
        simp only [pf_min, undef_bool, str_len, str_eql, str_neq, conv_in, un_not, eq_self, decide_true, decide_false, Bool.not_true, Bool.not_false, argE_0, argE_1, argE_2, argE_3, argE_4, aw_skip, aw_reg, aw_seq, aw_cond, aw_block, aw_exit, aw_ret, inSeq_normal, inSeq_exit, inSeq_ret, inBlk_exit, inBlk_normal, inBlk_ret, OptK_some, OptH_some, OptS_some, kont_app, ar_nil, ar_guard, ar_mv, ar_pick, ar_new, ar_box, ar_build, ar_buildSl, ar_load, ar_store, ar_nilChk, ar_bin, ar_un, ar_conv, ar_convSB, ar_convBS, ar_mkFunc, ar_mkIface, ar_mkSlice, ar_sl, ar_slStr, ar_fieldA, ar_field, ar_idxA, ar_idxArr, ar_idx, ar_idxS, ar_extract, ar_append, ar_len, ar_call, ar_callv, callvP_func, List.nil_append, List.cons_append, List.append_nil, ar_pf, ar_hf, ar_slA, upO_some, upO_none, sX_t, sX_c, sX_f, sXs, sXO, sXP, fin_t, fin_t2, fin_t3, up_same, up_ne, ne_eq, not_false_eq_true, AVal.bool.injEq, decide_eq_true_eq, decide_eq_false_iff_not, Int.ofNat_eq_natCast, Int.reduceNegSucc, Int.cast_ofNat_Int, reduceCtorEq, bin_lss, bin_leq, bin_gtr, bin_geq, bin_eql, bin_neq, bin_add, bin_sub, bin_mul, Bool.not_eq_true', Bool.not_eq_false', Bool.true_eq_false, Bool.false_eq_true, Nat.reduceEqDiff, ↓reduceIte, if_true, if_false, Nat.reduceAdd, Int.reduceEq, Int.reduceLT, Int.reduceLE, t3, t4, t5, t71, t72, c1']
        refine (next_two hN (by omega) (by omega) hnx).mono ?_
        rintro v K1 ⟨rfl, E1⟩
        generalize (sayL (l.take i)).length = P at *
        obtain ⟨Ka, Kb, Kc, K2, a1, a2, a3, a4, r6, r2, F2, n2, D2⟩ := keep_two (E0.trans (E1.less hK)) (by have := E1.next; omega) (wdL_len it.t.k it.t.S it.t.n (i + 1) P (P + it.x.length)) (wdL_one it.t.k it.t.S it.t.n (i + 1) P (P + it.x.length)) (flL_len 0 0) (flL_one 0 0)
        rcases A with ⟨_, hnl, h0⟩ | ⟨b, low, rfl, h2, h3, h4, h5, h6, h7⟩
        · omega
        have rb : Row K2 b (celL l) := ⟨low, (D2.old b h4).trans h5, h6⟩
        have l1 := row_load r2 (n := 2) rfl (i := 0) (x := .int .i64 0) rfl
        have m0 := row_load r6 (n := 6) rfl (i := 0) (x := .int .u8 (it.t.k : Int)) rfl
        have m1 := row_load r6 (n := 6) rfl (i := 1) (x := .str it.t.S) rfl
        have m2 := row_load r6 (n := 6) rfl (i := 2) (x := .int .i64 (it.t.n : Int)) rfl
        have m3 := row_load r6 (n := 6) rfl (i := 3) (x := .int .i64 ((i + 1 : Nat) : Int)) rfl
        have m5 := row_load r6 (n := 6) rfl (i := 5) (x := .int .i64 ((P + it.x.length : Nat) : Int)) rfl
        have b0 := row_load rb rfl (i := i * 6 + 0) (x := .int .u8 (it.t.k : Int)) (by rw [celL_get hit (by omega)]; rfl)
        have b1 := row_load rb rfl (i := i * 6 + 1) (x := .str it.t.S) (by rw [celL_get hit (by omega)]; rfl)
        have b2 := row_load rb rfl (i := i * 6 + 2) (x := .int .i64 (it.t.n : Int)) (by rw [celL_get hit (by omega)]; rfl)
        simp only [pf_min, undef_bool, str_len, str_eql, str_neq, conv_in, un_not, eq_self, decide_true, decide_false, Bool.not_true, Bool.not_false, argE_0, argE_1, argE_2, argE_3, argE_4, aw_skip, aw_reg, aw_seq, aw_cond, aw_block, aw_exit, aw_ret, inSeq_normal, inSeq_exit, inSeq_ret, inBlk_exit, inBlk_normal, inBlk_ret, OptK_some, OptH_some, OptS_some, kont_app, ar_nil, ar_guard, ar_mv, ar_pick, ar_new, ar_box, ar_build, ar_buildSl, ar_load, ar_store, ar_nilChk, ar_bin, ar_un, ar_conv, ar_convSB, ar_convBS, ar_mkFunc, ar_mkIface, ar_mkSlice, ar_sl, ar_slStr, ar_fieldA, ar_field, ar_idxA, ar_idxArr, ar_idx, ar_idxS, ar_extract, ar_append, ar_len, ar_call, ar_callv, callvP_func, List.nil_append, List.cons_append, List.append_nil, ar_pf, ar_hf, ar_slA, upO_some, upO_none, sX_t, sX_c, sX_f, sXs, sXO, sXP, fin_t, fin_t2, fin_t3, up_same, up_ne, ne_eq, not_false_eq_true, AVal.bool.injEq, decide_eq_true_eq, decide_eq_false_iff_not, Int.ofNat_eq_natCast, Int.reduceNegSucc, Int.cast_ofNat_Int, reduceCtorEq, bin_lss, bin_leq, bin_gtr, bin_geq, bin_eql, bin_neq, bin_add, bin_sub, bin_mul, Bool.not_eq_true', Bool.not_eq_false', Bool.true_eq_false, Bool.false_eq_true, Nat.reduceEqDiff, ↓reduceIte, if_true, if_false, Nat.reduceAdd, Int.reduceEq, Int.reduceLT, Int.reduceLE, t3, t4, t5, t71, t72, ext_0, ext_1, hz, a1, a2, a3, a4, fld0, l1, m0, m1, m2, m3, m5, idxM (m := 6) .i64 c1, fldR, b0, b1, b2, wrap1 i (by omega)]
        exact ⟨_, by omega, i + 1, by omega, rfl, by trivial, by trivial, by rw [hen], by trivial, rfl, D2⟩
      · obtain rfl : i = l.length := by omega
        rw [List.take_length] at t5
        have hnx := next_end (l := l) (by omega)
        simp only [pf_min, undef_bool, str_len, str_eql, str_neq, conv_in, un_not, eq_self, decide_true, decide_false, Bool.not_true, Bool.not_false, argE_0, argE_1, argE_2, argE_3, argE_4, aw_skip, aw_reg, aw_seq, aw_cond, aw_block, aw_exit, aw_ret, inSeq_normal, inSeq_exit, inSeq_ret, inBlk_exit, inBlk_normal, inBlk_ret, OptK_some, OptH_some, OptS_some, kont_app, ar_nil, ar_guard, ar_mv, ar_pick, ar_new, ar_box, ar_build, ar_buildSl, ar_load, ar_store, ar_nilChk, ar_bin, ar_un, ar_conv, ar_convSB, ar_convBS, ar_mkFunc, ar_mkIface, ar_mkSlice, ar_sl, ar_slStr, ar_fieldA, ar_field, ar_idxA, ar_idxArr, ar_idx, ar_idxS, ar_extract, ar_append, ar_len, ar_call, ar_callv, callvP_func, List.nil_append, List.cons_append, List.append_nil, ar_pf, ar_hf, ar_slA, upO_some, upO_none, sX_t, sX_c, sX_f, sXs, sXO, sXP, fin_t, fin_t2, fin_t3, up_same, up_ne, ne_eq, not_false_eq_true, AVal.bool.injEq, decide_eq_true_eq, decide_eq_false_iff_not, Int.ofNat_eq_natCast, Int.reduceNegSucc, Int.cast_ofNat_Int, reduceCtorEq, bin_lss, bin_leq, bin_gtr, bin_geq, bin_eql, bin_neq, bin_add, bin_sub, bin_mul, Bool.not_eq_true', Bool.not_eq_false', Bool.true_eq_false, Bool.false_eq_true, Nat.reduceEqDiff, ↓reduceIte, if_true, if_false, Nat.reduceAdd, Int.reduceEq, Int.reduceLT, Int.reduceLE, t3, t4, t5, t71, t72, Int.lt_irrefl]
        refine (next_two hN (by omega) (by omega) hnx).mono ?_
        rintro v K1 ⟨rfl, E1⟩
        obtain ⟨Ka, Kb, Kc, K2, a1, a2, a3, a4, r6, r2, F2, n2, D2⟩ := keep_two (E0.trans (E1.less hK)) (by have := E1.next; omega) (wdL_len 5 [] 0 (lineF (sayL l) (sayL l).length) (sayL l).length (sayL l).length) (wdL_one 5 [] 0 (lineF (sayL l) (sayL l).length) (sayL l).length (sayL l).length) (flL_len 0 0) (flL_one 0 0)
        have l1 := row_load r2 (n := 2) rfl (i := 0) (x := .int .i64 0) rfl
        have m0 := row_load r6 (n := 6) rfl (i := 0) (x := .int .u8 5) rfl
        have D3 := D.trans (D2.less D.next)
        simp only [pf_min, undef_bool, str_len, str_eql, str_neq, conv_in, un_not, eq_self, decide_true, decide_false, Bool.not_true, Bool.not_false, argE_0, argE_1, argE_2, argE_3, argE_4, aw_skip, aw_reg, aw_seq, aw_cond, aw_block, aw_exit, aw_ret, inSeq_normal, inSeq_exit, inSeq_ret, inBlk_exit, inBlk_normal, inBlk_ret, OptK_some, OptH_some, OptS_some, kont_app, ar_nil, ar_guard, ar_mv, ar_pick, ar_new, ar_box, ar_build, ar_buildSl, ar_load, ar_store, ar_nilChk, ar_bin, ar_un, ar_conv, ar_convSB, ar_convBS, ar_mkFunc, ar_mkIface, ar_mkSlice, ar_sl, ar_slStr, ar_fieldA, ar_field, ar_idxA, ar_idxArr, ar_idx, ar_idxS, ar_extract, ar_append, ar_len, ar_call, ar_callv, callvP_func, List.nil_append, List.cons_append, List.append_nil, ar_pf, ar_hf, ar_slA, upO_some, upO_none, sX_t, sX_c, sX_f, sXs, sXO, sXP, fin_t, fin_t2, fin_t3, up_same, up_ne, ne_eq, not_false_eq_true, AVal.bool.injEq, decide_eq_true_eq, decide_eq_false_iff_not, Int.ofNat_eq_natCast, Int.reduceNegSucc, Int.cast_ofNat_Int, reduceCtorEq, bin_lss, bin_leq, bin_gtr, bin_geq, bin_eql, bin_neq, bin_add, bin_sub, bin_mul, Bool.not_eq_true', Bool.not_eq_false', Bool.true_eq_false, Bool.false_eq_true, Nat.reduceEqDiff, ↓reduceIte, if_true, if_false, Nat.reduceAdd, Int.reduceEq, Int.reduceLT, Int.reduceLE, t3, t4, t5, t71, t72, ext_0, ext_1, hz, a1, a2, a3, a4, fld0, l1, m0]
        refine (awake_spec hN (by have := D3.next; omega) (G.ext hn D3)).mono ?_
        rintro v K3 ⟨rfl, E3⟩
        simp only [pf_min, undef_bool, str_len, str_eql, str_neq, conv_in, un_not, eq_self, decide_true, decide_false, Bool.not_true, Bool.not_false, argE_0, argE_1, argE_2, argE_3, argE_4, aw_skip, aw_reg, aw_seq, aw_cond, aw_block, aw_exit, aw_ret, inSeq_normal, inSeq_exit, inSeq_ret, inBlk_exit, inBlk_normal, inBlk_ret, OptK_some, OptH_some, OptS_some, kont_app, ar_nil, ar_guard, ar_mv, ar_pick, ar_new, ar_box, ar_build, ar_buildSl, ar_load, ar_store, ar_nilChk, ar_bin, ar_un, ar_conv, ar_convSB, ar_convBS, ar_mkFunc, ar_mkIface, ar_mkSlice, ar_sl, ar_slStr, ar_fieldA, ar_field, ar_idxA, ar_idxArr, ar_idx, ar_idxS, ar_extract, ar_append, ar_len, ar_call, ar_callv, callvP_func, List.nil_append, List.cons_append, List.append_nil, ar_pf, ar_hf, ar_slA, upO_some, upO_none, sX_t, sX_c, sX_f, sXs, sXO, sXP, fin_t, fin_t2, fin_t3, up_same, up_ne, ne_eq, not_false_eq_true, AVal.bool.injEq, decide_eq_true_eq, decide_eq_false_iff_not, Int.ofNat_eq_natCast, Int.reduceNegSucc, Int.cast_ofNat_Int, reduceCtorEq, bin_lss, bin_leq, bin_gtr, bin_geq, bin_eql, bin_neq, bin_add, bin_sub, bin_mul, Bool.not_eq_true', Bool.not_eq_false', Bool.true_eq_false, Bool.false_eq_true, Nat.reduceEqDiff, ↓reduceIte, if_true, if_false, Nat.reduceAdd, Int.reduceEq, Int.reduceLT, Int.reduceLE]
        exact ⟨by trivial, D3.trans (E3.less D3.next)⟩
  show wp _ (match c5.body with | .seq a (.seq b _) => ACode.seq a (.seq b (seq2 (seq2 c5.body))) | x => x) (fin c5.res _) _ _
  have hm : ∀ (T : Env) (text : Bs), text.length ≤ 1000 → T 0 = .str text → wp (ACalls Tryd.prog N) (seq2 (seq2 c5.body)) (fin c5.res fun v H' => v = .bool true ∧ Ext H.next H H') T H := fun T s => main s T
  clear main
  generalize seq2 (seq2 c5.body) = rest at *
  by_cases q1 : 1000 < text.length
  · have q1' : (1000 : Int) < (text.length : Int) := by omega
    have hsl := str_slH (s := text) (h := 1000) (by omega)
    simp only [Int.cast_ofNat_Int] at hsl
    simp only [c5, pf_min, undef_bool, str_len, str_eql, str_neq, conv_in, un_not, eq_self, decide_true, decide_false, Bool.not_true, Bool.not_false, argE_0, argE_1, argE_2, argE_3, argE_4, aw_skip, aw_reg, aw_seq, aw_cond, aw_block, aw_exit, aw_ret, inSeq_normal, inSeq_exit, inSeq_ret, inBlk_exit, inBlk_normal, inBlk_ret, OptK_some, OptH_some, OptS_some, kont_app, ar_nil, ar_guard, ar_mv, ar_pick, ar_new, ar_box, ar_build, ar_buildSl, ar_load, ar_store, ar_nilChk, ar_bin, ar_un, ar_conv, ar_convSB, ar_convBS, ar_mkFunc, ar_mkIface, ar_mkSlice, ar_sl, ar_slStr, ar_fieldA, ar_field, ar_idxA, ar_idxArr, ar_idx, ar_idxS, ar_extract, ar_append, ar_len, ar_call, ar_callv, callvP_func, List.nil_append, List.cons_append, List.append_nil, ar_pf, ar_hf, ar_slA, upO_some, upO_none, sX_t, sX_c, sX_f, sXs, sXO, sXP, fin_t, fin_t2, fin_t3, up_same, up_ne, ne_eq, not_false_eq_true, AVal.bool.injEq, decide_eq_true_eq, decide_eq_false_iff_not, Int.ofNat_eq_natCast, Int.reduceNegSucc, Int.cast_ofNat_Int, reduceCtorEq, bin_lss, bin_leq, bin_gtr, bin_geq, bin_eql, bin_neq, bin_add, bin_sub, bin_mul, Bool.not_eq_true', Bool.not_eq_false', Bool.true_eq_false, Bool.false_eq_true, Nat.reduceEqDiff, ↓reduceIte, if_true, if_false, Nat.reduceAdd, Int.reduceEq, Int.reduceLT, Int.reduceLE, q1', hsl]
    refine hm _ (text.take 1000) (by simp; omega) ?_
    simp only [pf_min, undef_bool, str_len, str_eql, str_neq, conv_in, un_not, eq_self, decide_true, decide_false, Bool.not_true, Bool.not_false, argE_0, argE_1, argE_2, argE_3, argE_4, aw_skip, aw_reg, aw_seq, aw_cond, aw_block, aw_exit, aw_ret, inSeq_normal, inSeq_exit, inSeq_ret, inBlk_exit, inBlk_normal, inBlk_ret, OptK_some, OptH_some, OptS_some, kont_app, ar_nil, ar_guard, ar_mv, ar_pick, ar_new, ar_box, ar_build, ar_buildSl, ar_load, ar_store, ar_nilChk, ar_bin, ar_un, ar_conv, ar_convSB, ar_convBS, ar_mkFunc, ar_mkIface, ar_mkSlice, ar_sl, ar_slStr, ar_fieldA, ar_field, ar_idxA, ar_idxArr, ar_idx, ar_idxS, ar_extract, ar_append, ar_len, ar_call, ar_callv, callvP_func, List.nil_append, List.cons_append, List.append_nil, ar_pf, ar_hf, ar_slA, upO_some, upO_none, sX_t, sX_c, sX_f, sXs, sXO, sXP, fin_t, fin_t2, fin_t3, up_same, up_ne, ne_eq, not_false_eq_true, AVal.bool.injEq, decide_eq_true_eq, decide_eq_false_iff_not, Int.ofNat_eq_natCast, Int.reduceNegSucc, Int.cast_ofNat_Int, reduceCtorEq, bin_lss, bin_leq, bin_gtr, bin_geq, bin_eql, bin_neq, bin_add, bin_sub, bin_mul, Bool.not_eq_true', Bool.not_eq_false', Bool.true_eq_false, Bool.false_eq_true, Nat.reduceEqDiff, ↓reduceIte, if_true, if_false, Nat.reduceAdd, Int.reduceEq, Int.reduceLT, Int.reduceLE]
  · have q1' : ¬ (1000 : Int) < (text.length : Int) := by omega
    simp only [c5, pf_min, undef_bool, str_len, str_eql, str_neq, conv_in, un_not, eq_self, decide_true, decide_false, Bool.not_true, Bool.not_false, argE_0, argE_1, argE_2, argE_3, argE_4, aw_skip, aw_reg, aw_seq, aw_cond, aw_block, aw_exit, aw_ret, inSeq_normal, inSeq_exit, inSeq_ret, inBlk_exit, inBlk_normal, inBlk_ret, OptK_some, OptH_some, OptS_some, kont_app, ar_nil, ar_guard, ar_mv, ar_pick, ar_new, ar_box, ar_build, ar_buildSl, ar_load, ar_store, ar_nilChk, ar_bin, ar_un, ar_conv, ar_convSB, ar_convBS, ar_mkFunc, ar_mkIface, ar_mkSlice, ar_sl, ar_slStr, ar_fieldA, ar_field, ar_idxA, ar_idxArr, ar_idx, ar_idxS, ar_extract, ar_append, ar_len, ar_call, ar_callv, callvP_func, List.nil_append, List.cons_append, List.append_nil, ar_pf, ar_hf, ar_slA, upO_some, upO_none, sX_t, sX_c, sX_f, sXs, sXO, sXP, fin_t, fin_t2, fin_t3, up_same, up_ne, ne_eq, not_false_eq_true, AVal.bool.injEq, decide_eq_true_eq, decide_eq_false_iff_not, Int.ofNat_eq_natCast, Int.reduceNegSucc, Int.cast_ofNat_Int, reduceCtorEq, bin_lss, bin_leq, bin_gtr, bin_geq, bin_eql, bin_neq, bin_add, bin_sub, bin_mul, Bool.not_eq_true', Bool.not_eq_false', Bool.true_eq_false, Bool.false_eq_true, Nat.reduceEqDiff, ↓reduceIte, if_true, if_false, Nat.reduceAdd, Int.reduceEq, Int.reduceLT, Int.reduceLE, q1']
    refine hm _ text (by omega) ?_
    simp only [pf_min, undef_bool, str_len, str_eql, str_neq, conv_in, un_not, eq_self, decide_true, decide_false, Bool.not_true, Bool.not_false, argE_0, argE_1, argE_2, argE_3, argE_4, aw_skip, aw_reg, aw_seq, aw_cond, aw_block, aw_exit, aw_ret, inSeq_normal, inSeq_exit, inSeq_ret, inBlk_exit, inBlk_normal, inBlk_ret, OptK_some, OptH_some, OptS_some, kont_app, ar_nil, ar_guard, ar_mv, ar_pick, ar_new, ar_box, ar_build, ar_buildSl, ar_load, ar_store, ar_nilChk, ar_bin, ar_un, ar_conv, ar_convSB, ar_convBS, ar_mkFunc, ar_mkIface, ar_mkSlice, ar_sl, ar_slStr, ar_fieldA, ar_field, ar_idxA, ar_idxArr, ar_idx, ar_idxS, ar_extract, ar_append, ar_len, ar_call, ar_callv, callvP_func, List.nil_append, List.cons_append, List.append_nil, ar_pf, ar_hf, ar_slA, upO_some, upO_none, sX_t, sX_c, sX_f, sXs, sXO, sXP, fin_t, fin_t2, fin_t3, up_same, up_ne, ne_eq, not_false_eq_true, AVal.bool.injEq, decide_eq_true_eq, decide_eq_false_iff_not, Int.ofNat_eq_natCast, Int.reduceNegSucc, Int.cast_ofNat_Int, reduceCtorEq, bin_lss, bin_leq, bin_gtr, bin_geq, bin_eql, bin_neq, bin_add, bin_sub, bin_mul, Bool.not_eq_true', Bool.not_eq_false', Bool.true_eq_false, Bool.false_eq_true, Nat.reduceEqDiff, ↓reduceIte, if_true, if_false, Nat.reduceAdd, Int.reduceEq, Int.reduceLT, Int.reduceLE]
end Go.Proofs.Wo
/-
  DERIVED: THE SHELF's CONTRACTS AT THIS DUMP, IN PLAIN WORDS (tools/lay-plain.mjs out of 'XxWCl.lean', which tools/lay-shelf.mjs wrote): THE SAME DECLARATIONS UNDER THE SAME NAMES: 'import', 'namespace', 'open', 'def', 'theorem' AND NOTHING ELSE: no command of the shelf's: FOR A HAND-IN. Each laying: the table of numbers ('.._ren') and one theorem, a field a fact of the dump's own or the kernel's comparison; each contract: ONE APPLICATION.
-/
namespace Go.Proofs
open Go.Shelf
def Tryd.laysM316_ren : Go.Shelf.Ren := ⟨fun | 316 => 50 | n => n, fun | 9 => 9 | 3 => 3 | 4 => 4 | 37 => 36 | 0 => 0 | 127 => 109 | 5 => 5 | n => n, fun | n => n⟩
theorem Tryd.laysM316 : Go.Proofs.LaysM.n316 Tryd.prog Tryd.laysM316_ren := {
  mixed := by kernel_rfl
  f316 := Tryd.func50.trans (congrArg some (by kernel_rfl))
  t0 := Tryd.underlying0
  a0 := Tryd.isAgg0
  z0 := Tryd.sizeOf0
  v0 := Tryd.zeroValue0
  t3 := Tryd.underlying3
  a3 := Tryd.isAgg3
  z3 := Tryd.sizeOf3
  v3 := Tryd.zeroValue3
  t4 := Tryd.underlying4
  a4 := Tryd.isAgg4
  z4 := Tryd.sizeOf4
  v4 := Tryd.zeroValue4
  t9 := Tryd.underlying9
  a9 := Tryd.isAgg9
  z9 := Tryd.sizeOf9
  v9 := Tryd.zeroValue9
  t37 := Tryd.underlying36
  a37 := Tryd.isAgg36
  z37 := Tryd.sizeOf36
  v37 := Tryd.zeroValue36
  t127 := Tryd.underlying109
  a127 := Tryd.isAgg109
  z127 := Tryd.sizeOf109
  v127 := Tryd.zeroValue109
  t5 := Tryd.underlying5
  a5 := Tryd.isAgg5
  z5 := Tryd.sizeOf5
  v5 := Tryd.zeroValue5
  i0 := by kernel_rfl
  i3 := by kernel_rfl
  i4 := by kernel_rfl
  i5 := by kernel_rfl
  i9 := by kernel_rfl
  i37 := by kernel_rfl
  i127 := by kernel_rfl }
open Go.RowKit in
/-- internal/stringslite.Clone -/
theorem Tryd.stringslite_Clone (s : ByteArray) (w : World) (hlim : s.size ≤ 281474976710656) :
    Calls Tryd.prog 50 #[.string s] w fun e w' => e = .returned (.string s) ∧ Below w.heap.size w w' := Any.stringslite_Clone Tryd.laysM316 s w hlim
end Go.Proofs
/- The copy of a text, given to the machine. Plain Lean. -/
namespace Go.Proofs.Wo
open Go.Abs Go.Abs.S
def aClone (H : AHeap) : List AVal → Option (AVal × AHeap)
  | [.str s] => bif Nat.ble s.length 281474976710656 then some (.str s, H) else none
  | _ => none
def nat : ANat := ⟨fun f => Nat.beq f 50, fun f args H => bif Nat.beq f 50 then aClone H args else none⟩
theorem nat_ok : NatOK Tryd.prog nat := by
  refine ⟨fun f h => ?_, fun f args H v H' hr Prot w0 ρ w vs R hv => ?_⟩
  · obtain rfl : f = 50 := Nat.eq_of_beq_eq_true h
    kernel_rfl
  · show Calls Tryd.prog f vs w _
    have hr2 : (bif Nat.beq f 50 then aClone H args else none) = some (v, H') := hr
    cases hb : Nat.beq f 50 with
    | false => rw [hb] at hr2; simp at hr2
    | true =>
      obtain rfl : f = 50 := Nat.eq_of_beq_eq_true hb
      rw [hb, cond_true] at hr2
      unfold aClone at hr2
      split at hr2 <;> first | (simp at hr2; done) | skip
      rename_i s
      cases hl : Nat.ble s.length 281474976710656 with
      | false => rw [hl] at hr2; simp at hr2
      | true =>
        rw [hl] at hr2
        simp only [cond_true, Option.some.injEq, Prod.mk.injEq] at hr2
        obtain ⟨rfl, rfl⟩ := hr2
        simp only [VRels, VRel] at hv
        obtain ⟨v1, r1, e1, rfl, rfl⟩ := hv
        have hvs : vs = #[.string (strOf s)] := Array.toList_inj.1 (by simpa using e1)
        subst hvs
        have hsz : (strOf s).size = s.length := by simp [strOf, ByteArray.size]
        have := Nat.le_of_ble_eq_true hl
        exact (Tryd.stringslite_Clone (strOf s) w (by rw [hsz]; exact this)).mono fun e w' ⟨he, hk⟩ => ⟨ρ, _, Pl.le_refl _, he, R.keep hk, by simp only [VRel]⟩
theorem nat_wo : NWo nat := by
  refine ⟨fun f h => ?_, rfl, fun s H hs => ?_⟩
  · show Nat.beq f 50 = false
    rw [beq_dec]; exact decide_eq_false h
  · show (bif Nat.beq 50 50 then aClone H [.str s] else none) = _
    have : Nat.beq 50 50 = true := rfl
    rw [this, cond_true]
    simp only [aClone, Nat.ble_eq_true_of_le hs, cond_true]
end Go.Proofs.Wo
/- A law that returns true and turns nothing that was there: its row's post holds, whatever its arguments are. -/
namespace Go.Abs
open Go.ChangeShapes Go.WideShapes Go.ChangeAt Go.RowKit
section
variable {H : Type} {enc : TypeId × Value → H} {P : Program}
theorem trodAll_below {W W' : World} {base : Nat} {sp : Nat → Bool} {held : Bool} (hb : Below W.heap.size W W') : ∀ {ts : List TypeId} {vs : List Value} {ds : List (DataW H)} {ps : List MemPlace},
    DataW.TrodAll enc P W base sp held ts vs ds ps → DataW.TrodAll enc P W' base sp held ts vs ds ps
  | [], [], [], _, h => h
  | _ :: _, _ :: _, _ :: _, _, ⟨p, q, ⟨n, h1⟩, h2, e⟩ => by
    refine ⟨p, q, ⟨n, DataW.trod_carry n _ _ _ h1 fun x hx => hb.same (DataW.trod_lt n _ _ _ h1 x hx)⟩, trodAll_below hb h2, e⟩
theorem trodVars_below {W W' : World} {sp : Nat → Bool} {gs : List (DataW H)} {q : List MemPlace} (h : DataW.TrodVars enc P W sp [] gs q) : DataW.TrodVars enc P W' sp [] gs q := by
  obtain ⟨rfl, rfl⟩ := trodVars_none h
  exact h
theorem law_post {f : Func} {s : ChangeSpec} {apart : Bool} {W W' : World} {args : Array Value} {ds gs : List (DataW H)} {before : List MemPlace} {tb : TypeId}
    (hl : laidOutB P = true) (hm : mapsRowed P = true)
    (hz : ((List.range P.types.size).all fun t => match P.underlying t with | some (.slice e) => decide (0 < P.cellsOf e) | _ => true) = true)
    (hts : (f.params.toList.all fun t => decide (t < P.types.size)) = true) (hv : s.vars = [])
    (hW : DataW.Whole enc P f.params.toList s.vars apart W args.toList ds gs before)
    (hfn : s.fn H (ds ++ gs) = { results := [.lit (.bool true)], args := ds }) (hr : f.resultTypes = #[tb]) (ht : P.underlying tb = some .bool) (hb : Below W.heap.size W W') :
    s.post enc P f apart true false false W args (.bool true) W' := by
  have hlt : ∀ p ∈ before, p.block < W.heap.size := fun p hp => hW.lt p hp
  have hW0 := hW
  obtain ⟨p, q, hA, hV, rfl, hfz, hnd⟩ := hW
  rw [hv] at hV
  obtain ⟨rfl, rfl⟩ := trodVars_none hV
  have hT : ∀ t ∈ f.params.toList, t < P.types.size := fun t ht => by simpa using List.all_eq_true.1 hts t ht
  refine ⟨ds, [], p ++ [], [], p, [], hW0, ?_, ?_, ?_, World.keptBut_mono (fun x hx => ⟨hx, by simpa using hx⟩) (hb.frame (· ∈ p ++ [])), fun h => by simp at h⟩
  · rw [hfn, hr]
    exact trodAll_cons_mk (shut_bool ht _) trodAll_mk0
  · rw [hfn]
    refine trodAll_below hb (DataW.TrodAll.respare (kids_rows hl hm) (slices_full_of P hz) hT hA fun x hx => ?_)
    simpa using hlt x (by simpa using hx)
  · rw [hfn, hv]
    exact trodVars_below (W := W) hV
end
end Go.Abs
