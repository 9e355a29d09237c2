/- Part of a proof (WN WO WP WCl WNat L1 WDoor S13); no condition. -/
import Derived.Shelf.LaysM
import Derived.Shelf.Strconv.Clone
import Derived.Test.YtdodomcjoekpbaaDoorProg
import Derived.WalkKit
import Derived.Below
import Derived.ChangeSame
import Derived.ReadAgain
import Derived.OpenShut
import Derived.ProofKit
import Derived.Test.YtdodomcjoekpbaaDoorRows
import Derived.LaidLaws
import Derived.LaidHandle
import Derived.Lay
import Derived.Test.YtdodomcjoekpbaaDoorP5
import Derived.Test.YtdodomcjoekpbaaDoorP10
import Derived.Test.YtdodomcjoekpbaaDoorP11
import Derived.Test.YtdodomcjoekpbaaDoorP12
import Derived.Test.YtdodomcjoekpbaaDoorP13
set_option linter.unusedSimpArgs false
set_option linter.unusedVariables false
/- Words: what any text says, at any place, beside the document: the statement's contract. -/
namespace Go.Proofs.Wo
open Go.Abs Go.Abs.S
set_option linter.unusedSimpArgs false
variable {N : ANat}
theorem pair_is (s : Bs) (p : Int) : ∃ (k : Nat) (S : Bs) (n l a e f g : Nat), nextA s p = pairA (wdL k S n l a e) (flL f g) := by
  unfold nextA
  split
  · exact ⟨_, _, _, _, _, _, _, _, rfl⟩
  · split
    · exact ⟨_, _, _, _, _, _, _, _, rfl⟩
    · split
      · exact ⟨_, _, _, _, _, _, _, _, rfl⟩
      · split
        · exact ⟨_, _, _, _, _, _, _, _, rfl⟩
        · exact ⟨_, _, _, _, _, _, _, _, rfl⟩
theorem eq_wd (k : Nat) (S : Bs) (n l a e : Nat) : aPf (.eqS true [(0, .int), (1, .str), (2, .int), (3, .int), (4, .int), (5, .int)]) [.agg (wdL k S n l a e), .agg (wdL k S n l a e)] = some (.bool false) := by
  simp [aPf, wdL, aEqSs, aEqFs, fEq, fEqI, fEqS, eqF_eq]
theorem eq_fl (f g : Nat) : aPf (.eqS true [(0, .int), (1, .int)]) [.agg (flL f g), .agg (flL f g)] = some (.bool false) := by
  simp [aPf, flL, aEqSs, aEqFs, fEq, fEqI, fEqS, eqF_eq]
theorem eqv_bool (b : Bool) : aPf (.eqv false .bool) [.bool b, .bool b] = some (.bool true) := by
  cases b <;> rfl
theorem tell_spec (hN : NWo N) {s : Bs} {p n : Int} (h1 : -9223372036854775808 ≤ p) (h2 : p ≤ 9223372036854775807) (h3 : -9223372036854775808 ≤ n) (h4 : n ≤ 9223372036854775807) {H : AHeap} (hn : 1 < H.next) (G : Glo H 1 powL) :
    ACalls Tryd.prog N 3 [.str s, .int .i64 p, .int .i64 n] H fun v H' => v = .bool true ∧ Ext H.next H H' := by
  refine acalls_ofN (hN.no _ (by decide)) za3 rfl ?_
  have hz : ([.int .u8 0, .str [], .int .i64 0, .int .i64 0, .int .i64 0, .int .i64 0] : List AVal) = ZW := rfl
  have main : ∀ (s : Bs) (T : Env), T 0 = .str s → T 1 = .int .i64 p → T 2 = .int .i64 n → wp (ACalls Tryd.prog N) (seq2 (seq2 c3.body)) (fin c3.res fun v H' => v = .bool true ∧ Ext H.next H H') T H := by
    intro s T t0 t1 t2
    obtain ⟨k, S, m, l, a, e, f, g, hp⟩ := pair_is s p
    simp only [seq2, c3, pf_min, undef_bool, str_len, str_eql, str_neq, conv_in, un_not, eq_self, decide_true, decide_false, Bool.not_true, Bool.not_false, argE_0, argE_1, argE_2, argE_3, argE_4, aw_skip, aw_reg, aw_seq, aw_cond, aw_block, aw_exit, aw_ret, inSeq_normal, inSeq_exit, inSeq_ret, inBlk_exit, inBlk_normal, inBlk_ret, OptK_some, OptH_some, OptS_some, kont_app, ar_nil, ar_guard, ar_mv, ar_pick, ar_new, ar_box, ar_build, ar_buildSl, ar_load, ar_store, ar_nilChk, ar_bin, ar_un, ar_conv, ar_convSB, ar_convBS, ar_mkFunc, ar_mkIface, ar_mkSlice, ar_sl, ar_slStr, ar_fieldA, ar_field, ar_idxA, ar_idxArr, ar_idx, ar_idxS, ar_extract, ar_append, ar_len, ar_call, ar_callv, callvP_func, List.nil_append, List.cons_append, List.append_nil, ar_pf, ar_hf, ar_slA, upO_some, upO_none, sX_t, sX_c, sX_f, sXs, sXO, sXP, fin_t, fin_t2, fin_t3, up_same, up_ne, ne_eq, not_false_eq_true, AVal.bool.injEq, decide_eq_true_eq, decide_eq_false_iff_not, Int.ofNat_eq_natCast, Int.reduceNegSucc, Int.cast_ofNat_Int, reduceCtorEq, bin_lss, bin_leq, bin_gtr, bin_geq, bin_eql, bin_neq, bin_add, bin_sub, bin_mul, Bool.not_eq_true', Bool.not_eq_false', Bool.true_eq_false, Bool.false_eq_true, Nat.reduceEqDiff, ↓reduceIte, if_true, if_false, Nat.reduceAdd, Int.reduceEq, Int.reduceLT, Int.reduceLE, t0, t1, t2]
    refine (next_two hN h1 h2 hp).mono ?_
    rintro v H1 ⟨rfl, E1⟩
    obtain ⟨K1, K2, K3, H2, a1, a2, a3, a4, r61, r21, F2, n2, D2⟩ := keep_two E1 E1.next (wdL_len k S m l a e) (wdL_one k S m l a e) (flL_len f g) (flL_one f g)
    simp only [pf_min, undef_bool, str_len, str_eql, str_neq, conv_in, un_not, eq_self, decide_true, decide_false, Bool.not_true, Bool.not_false, argE_0, argE_1, argE_2, argE_3, argE_4, aw_skip, aw_reg, aw_seq, aw_cond, aw_block, aw_exit, aw_ret, inSeq_normal, inSeq_exit, inSeq_ret, inBlk_exit, inBlk_normal, inBlk_ret, OptK_some, OptH_some, OptS_some, kont_app, ar_nil, ar_guard, ar_mv, ar_pick, ar_new, ar_box, ar_build, ar_buildSl, ar_load, ar_store, ar_nilChk, ar_bin, ar_un, ar_conv, ar_convSB, ar_convBS, ar_mkFunc, ar_mkIface, ar_mkSlice, ar_sl, ar_slStr, ar_fieldA, ar_field, ar_idxA, ar_idxArr, ar_idx, ar_idxS, ar_extract, ar_append, ar_len, ar_call, ar_callv, callvP_func, List.nil_append, List.cons_append, List.append_nil, ar_pf, ar_hf, ar_slA, upO_some, upO_none, sX_t, sX_c, sX_f, sXs, sXO, sXP, fin_t, fin_t2, fin_t3, up_same, up_ne, ne_eq, not_false_eq_true, AVal.bool.injEq, decide_eq_true_eq, decide_eq_false_iff_not, Int.ofNat_eq_natCast, Int.reduceNegSucc, Int.cast_ofNat_Int, reduceCtorEq, bin_lss, bin_leq, bin_gtr, bin_geq, bin_eql, bin_neq, bin_add, bin_sub, bin_mul, Bool.not_eq_true', Bool.not_eq_false', Bool.true_eq_false, Bool.false_eq_true, Nat.reduceEqDiff, ↓reduceIte, if_true, if_false, Nat.reduceAdd, Int.reduceEq, Int.reduceLT, Int.reduceLE, t0, t1, t2, ext_0, ext_1, hz, a1, a2, a3, a4]
    refine (rnext_spec hN h1 h2).mono ?_
    rintro v H3 ⟨rfl, E3⟩
    have D3 := D2.trans (E3.less D2.next)
    obtain ⟨L1, L2, L3, H4, b1, b2, b3, b4, r62, r22, F4, n4, D4⟩ := keep_two D3 D3.next (wdL_len k S m l a e) (wdL_one k S m l a e) (flL_len f g) (flL_one f g)
    have h3' := E3.next
    have w61 := row_loadN (r61.same (show H4.get H1.next = H2.get H1.next by rw [F4.old _ (by omega), E3.old _ (by omega)])) (n := 6) rfl
    have w21 := row_loadN (r21.same (show H4.get (H1.next + 1) = H2.get (H1.next + 1) by rw [F4.old _ (by omega), E3.old _ (by omega)])) (n := 2) rfl
    have w62 := row_loadN r62 (n := 6) rfl
    have w22 := row_loadN r22 (n := 2) rfl
    rw [hp]
    simp only [pairA, pf_min, undef_bool, str_len, str_eql, str_neq, conv_in, un_not, eq_self, decide_true, decide_false, Bool.not_true, Bool.not_false, argE_0, argE_1, argE_2, argE_3, argE_4, aw_skip, aw_reg, aw_seq, aw_cond, aw_block, aw_exit, aw_ret, inSeq_normal, inSeq_exit, inSeq_ret, inBlk_exit, inBlk_normal, inBlk_ret, OptK_some, OptH_some, OptS_some, kont_app, ar_nil, ar_guard, ar_mv, ar_pick, ar_new, ar_box, ar_build, ar_buildSl, ar_load, ar_store, ar_nilChk, ar_bin, ar_un, ar_conv, ar_convSB, ar_convBS, ar_mkFunc, ar_mkIface, ar_mkSlice, ar_sl, ar_slStr, ar_fieldA, ar_field, ar_idxA, ar_idxArr, ar_idx, ar_idxS, ar_extract, ar_append, ar_len, ar_call, ar_callv, callvP_func, List.nil_append, List.cons_append, List.append_nil, ar_pf, ar_hf, ar_slA, upO_some, upO_none, sX_t, sX_c, sX_f, sXs, sXO, sXP, fin_t, fin_t2, fin_t3, up_same, up_ne, ne_eq, not_false_eq_true, AVal.bool.injEq, decide_eq_true_eq, decide_eq_false_iff_not, Int.ofNat_eq_natCast, Int.reduceNegSucc, Int.cast_ofNat_Int, reduceCtorEq, bin_lss, bin_leq, bin_gtr, bin_geq, bin_eql, bin_neq, bin_add, bin_sub, bin_mul, Bool.not_eq_true', Bool.not_eq_false', Bool.true_eq_false, Bool.false_eq_true, Nat.reduceEqDiff, ↓reduceIte, if_true, if_false, Nat.reduceAdd, Int.reduceEq, Int.reduceLT, Int.reduceLE, t0, t1, t2, ext_0, ext_1, hz, b1, b2, b3, b4, w61, w21, w62, w22, eq_wd, eq_fl]
    refine (said_spec hN.str (hN.no _ (by decide)) h3 h4 (by have := D4.next; omega) (G.ext hn D4)).mono ?_
    rintro v H5 ⟨rfl, E5⟩
    have D5 := D4.trans (E5.less D4.next)
    simp only [pf_min, undef_bool, str_len, str_eql, str_neq, conv_in, un_not, eq_self, decide_true, decide_false, Bool.not_true, Bool.not_false, argE_0, argE_1, argE_2, argE_3, argE_4, aw_skip, aw_reg, aw_seq, aw_cond, aw_block, aw_exit, aw_ret, inSeq_normal, inSeq_exit, inSeq_ret, inBlk_exit, inBlk_normal, inBlk_ret, OptK_some, OptH_some, OptS_some, kont_app, ar_nil, ar_guard, ar_mv, ar_pick, ar_new, ar_box, ar_build, ar_buildSl, ar_load, ar_store, ar_nilChk, ar_bin, ar_un, ar_conv, ar_convSB, ar_convBS, ar_mkFunc, ar_mkIface, ar_mkSlice, ar_sl, ar_slStr, ar_fieldA, ar_field, ar_idxA, ar_idxArr, ar_idx, ar_idxS, ar_extract, ar_append, ar_len, ar_call, ar_callv, callvP_func, List.nil_append, List.cons_append, List.append_nil, ar_pf, ar_hf, ar_slA, upO_some, upO_none, sX_t, sX_c, sX_f, sXs, sXO, sXP, fin_t, fin_t2, fin_t3, up_same, up_ne, ne_eq, not_false_eq_true, AVal.bool.injEq, decide_eq_true_eq, decide_eq_false_iff_not, Int.ofNat_eq_natCast, Int.reduceNegSucc, Int.cast_ofNat_Int, reduceCtorEq, bin_lss, bin_leq, bin_gtr, bin_geq, bin_eql, bin_neq, bin_add, bin_sub, bin_mul, Bool.not_eq_true', Bool.not_eq_false', Bool.true_eq_false, Bool.false_eq_true, Nat.reduceEqDiff, ↓reduceIte, if_true, if_false, Nat.reduceAdd, Int.reduceEq, Int.reduceLT, Int.reduceLE, t0, t1, t2]
    refine (rsaid_spec (hN.no _ (by decide)) h3 h4).mono ?_
    rintro v H6 ⟨rfl, E6⟩
    have D6 := D5.trans (E6.less D5.next)
    simp only [pf_min, undef_bool, str_len, str_eql, str_neq, conv_in, un_not, eq_self, decide_true, decide_false, Bool.not_true, Bool.not_false, argE_0, argE_1, argE_2, argE_3, argE_4, aw_skip, aw_reg, aw_seq, aw_cond, aw_block, aw_exit, aw_ret, inSeq_normal, inSeq_exit, inSeq_ret, inBlk_exit, inBlk_normal, inBlk_ret, OptK_some, OptH_some, OptS_some, kont_app, ar_nil, ar_guard, ar_mv, ar_pick, ar_new, ar_box, ar_build, ar_buildSl, ar_load, ar_store, ar_nilChk, ar_bin, ar_un, ar_conv, ar_convSB, ar_convBS, ar_mkFunc, ar_mkIface, ar_mkSlice, ar_sl, ar_slStr, ar_fieldA, ar_field, ar_idxA, ar_idxArr, ar_idx, ar_idxS, ar_extract, ar_append, ar_len, ar_call, ar_callv, callvP_func, List.nil_append, List.cons_append, List.append_nil, ar_pf, ar_hf, ar_slA, upO_some, upO_none, sX_t, sX_c, sX_f, sXs, sXO, sXP, fin_t, fin_t2, fin_t3, up_same, up_ne, ne_eq, not_false_eq_true, AVal.bool.injEq, decide_eq_true_eq, decide_eq_false_iff_not, Int.ofNat_eq_natCast, Int.reduceNegSucc, Int.cast_ofNat_Int, reduceCtorEq, bin_lss, bin_leq, bin_gtr, bin_geq, bin_eql, bin_neq, bin_add, bin_sub, bin_mul, Bool.not_eq_true', Bool.not_eq_false', Bool.true_eq_false, Bool.false_eq_true, Nat.reduceEqDiff, ↓reduceIte, if_true, if_false, Nat.reduceAdd, Int.reduceEq, Int.reduceLT, Int.reduceLE, t0, t1, t2]
    by_cases hl : 2000 < s.length
    · have hl' : (2000 : Int) < (s.length : Int) := by omega
      simp only [pf_min, undef_bool, str_len, str_eql, str_neq, conv_in, un_not, eq_self, decide_true, decide_false, Bool.not_true, Bool.not_false, argE_0, argE_1, argE_2, argE_3, argE_4, aw_skip, aw_reg, aw_seq, aw_cond, aw_block, aw_exit, aw_ret, inSeq_normal, inSeq_exit, inSeq_ret, inBlk_exit, inBlk_normal, inBlk_ret, OptK_some, OptH_some, OptS_some, kont_app, ar_nil, ar_guard, ar_mv, ar_pick, ar_new, ar_box, ar_build, ar_buildSl, ar_load, ar_store, ar_nilChk, ar_bin, ar_un, ar_conv, ar_convSB, ar_convBS, ar_mkFunc, ar_mkIface, ar_mkSlice, ar_sl, ar_slStr, ar_fieldA, ar_field, ar_idxA, ar_idxArr, ar_idx, ar_idxS, ar_extract, ar_append, ar_len, ar_call, ar_callv, callvP_func, List.nil_append, List.cons_append, List.append_nil, ar_pf, ar_hf, ar_slA, upO_some, upO_none, sX_t, sX_c, sX_f, sXs, sXO, sXP, fin_t, fin_t2, fin_t3, up_same, up_ne, ne_eq, not_false_eq_true, AVal.bool.injEq, decide_eq_true_eq, decide_eq_false_iff_not, Int.ofNat_eq_natCast, Int.reduceNegSucc, Int.cast_ofNat_Int, reduceCtorEq, bin_lss, bin_leq, bin_gtr, bin_geq, bin_eql, bin_neq, bin_add, bin_sub, bin_mul, Bool.not_eq_true', Bool.not_eq_false', Bool.true_eq_false, Bool.false_eq_true, Nat.reduceEqDiff, ↓reduceIte, if_true, if_false, Nat.reduceAdd, Int.reduceEq, Int.reduceLT, Int.reduceLE, t0, t1, t2, hl']
      refine (awake_spec hN (by have := D6.next; omega) (G.ext hn D6)).mono ?_
      rintro v H7 ⟨rfl, E7⟩
      simp only [pf_min, undef_bool, str_len, str_eql, str_neq, conv_in, un_not, eq_self, decide_true, decide_false, Bool.not_true, Bool.not_false, argE_0, argE_1, argE_2, argE_3, argE_4, aw_skip, aw_reg, aw_seq, aw_cond, aw_block, aw_exit, aw_ret, inSeq_normal, inSeq_exit, inSeq_ret, inBlk_exit, inBlk_normal, inBlk_ret, OptK_some, OptH_some, OptS_some, kont_app, ar_nil, ar_guard, ar_mv, ar_pick, ar_new, ar_box, ar_build, ar_buildSl, ar_load, ar_store, ar_nilChk, ar_bin, ar_un, ar_conv, ar_convSB, ar_convBS, ar_mkFunc, ar_mkIface, ar_mkSlice, ar_sl, ar_slStr, ar_fieldA, ar_field, ar_idxA, ar_idxArr, ar_idx, ar_idxS, ar_extract, ar_append, ar_len, ar_call, ar_callv, callvP_func, List.nil_append, List.cons_append, List.append_nil, ar_pf, ar_hf, ar_slA, upO_some, upO_none, sX_t, sX_c, sX_f, sXs, sXO, sXP, fin_t, fin_t2, fin_t3, up_same, up_ne, ne_eq, not_false_eq_true, AVal.bool.injEq, decide_eq_true_eq, decide_eq_false_iff_not, Int.ofNat_eq_natCast, Int.reduceNegSucc, Int.cast_ofNat_Int, reduceCtorEq, bin_lss, bin_leq, bin_gtr, bin_geq, bin_eql, bin_neq, bin_add, bin_sub, bin_mul, Bool.not_eq_true', Bool.not_eq_false', Bool.true_eq_false, Bool.false_eq_true, Nat.reduceEqDiff, ↓reduceIte, if_true, if_false, Nat.reduceAdd, Int.reduceEq, Int.reduceLT, Int.reduceLE]
      exact ⟨by trivial, D6.trans (E7.less D6.next)⟩
    · have hl' : ¬ (2000 : Int) < (s.length : Int) := by omega
      simp only [pf_min, undef_bool, str_len, str_eql, str_neq, conv_in, un_not, eq_self, decide_true, decide_false, Bool.not_true, Bool.not_false, argE_0, argE_1, argE_2, argE_3, argE_4, aw_skip, aw_reg, aw_seq, aw_cond, aw_block, aw_exit, aw_ret, inSeq_normal, inSeq_exit, inSeq_ret, inBlk_exit, inBlk_normal, inBlk_ret, OptK_some, OptH_some, OptS_some, kont_app, ar_nil, ar_guard, ar_mv, ar_pick, ar_new, ar_box, ar_build, ar_buildSl, ar_load, ar_store, ar_nilChk, ar_bin, ar_un, ar_conv, ar_convSB, ar_convBS, ar_mkFunc, ar_mkIface, ar_mkSlice, ar_sl, ar_slStr, ar_fieldA, ar_field, ar_idxA, ar_idxArr, ar_idx, ar_idxS, ar_extract, ar_append, ar_len, ar_call, ar_callv, callvP_func, List.nil_append, List.cons_append, List.append_nil, ar_pf, ar_hf, ar_slA, upO_some, upO_none, sX_t, sX_c, sX_f, sXs, sXO, sXP, fin_t, fin_t2, fin_t3, up_same, up_ne, ne_eq, not_false_eq_true, AVal.bool.injEq, decide_eq_true_eq, decide_eq_false_iff_not, Int.ofNat_eq_natCast, Int.reduceNegSucc, Int.cast_ofNat_Int, reduceCtorEq, bin_lss, bin_leq, bin_gtr, bin_geq, bin_eql, bin_neq, bin_add, bin_sub, bin_mul, Bool.not_eq_true', Bool.not_eq_false', Bool.true_eq_false, Bool.false_eq_true, Nat.reduceEqDiff, ↓reduceIte, if_true, if_false, Nat.reduceAdd, Int.reduceEq, Int.reduceLT, Int.reduceLE, t0, t1, t2, hl']
      refine (number_spec (hN.no _ (by decide)) (hN.no _ (by decide)) (hN.no _ (by decide)) (hN.no _ (by decide)) (hN.no _ (by decide)) (hN.no _ (by decide)) (hN.no _ (by decide)) (hN.no _ (by decide)) (hN.no _ (by decide)) (by omega)).mono ?_
      rintro v H7 ⟨rfl, E7⟩
      have D7 := D6.trans (E7.less D6.next)
      have tt : ∃ (x : Int) (b : Bool), told (saysF s) = .tuple [.int .i64 x, .bool b] := by cases saysF s <;> exact ⟨_, _, rfl⟩
      obtain ⟨x, b, ht⟩ := tt
      rw [ht]
      simp only [pf_min, undef_bool, str_len, str_eql, str_neq, conv_in, un_not, eq_self, decide_true, decide_false, Bool.not_true, Bool.not_false, argE_0, argE_1, argE_2, argE_3, argE_4, aw_skip, aw_reg, aw_seq, aw_cond, aw_block, aw_exit, aw_ret, inSeq_normal, inSeq_exit, inSeq_ret, inBlk_exit, inBlk_normal, inBlk_ret, OptK_some, OptH_some, OptS_some, kont_app, ar_nil, ar_guard, ar_mv, ar_pick, ar_new, ar_box, ar_build, ar_buildSl, ar_load, ar_store, ar_nilChk, ar_bin, ar_un, ar_conv, ar_convSB, ar_convBS, ar_mkFunc, ar_mkIface, ar_mkSlice, ar_sl, ar_slStr, ar_fieldA, ar_field, ar_idxA, ar_idxArr, ar_idx, ar_idxS, ar_extract, ar_append, ar_len, ar_call, ar_callv, callvP_func, List.nil_append, List.cons_append, List.append_nil, ar_pf, ar_hf, ar_slA, upO_some, upO_none, sX_t, sX_c, sX_f, sXs, sXO, sXP, fin_t, fin_t2, fin_t3, up_same, up_ne, ne_eq, not_false_eq_true, AVal.bool.injEq, decide_eq_true_eq, decide_eq_false_iff_not, Int.ofNat_eq_natCast, Int.reduceNegSucc, Int.cast_ofNat_Int, reduceCtorEq, bin_lss, bin_leq, bin_gtr, bin_geq, bin_eql, bin_neq, bin_add, bin_sub, bin_mul, Bool.not_eq_true', Bool.not_eq_false', Bool.true_eq_false, Bool.false_eq_true, Nat.reduceEqDiff, ↓reduceIte, if_true, if_false, Nat.reduceAdd, Int.reduceEq, Int.reduceLT, Int.reduceLE, t0, t1, t2, ext_0, ext_1]
      refine (rnumber_spec (hN.no _ (by decide)) (hN.no _ (by decide)) (hN.no _ (by decide)) (by omega)).mono ?_
      rintro v H8 ⟨rfl, E8⟩
      have D8 := D7.trans (E8.less D7.next)
      rw [ht]
      simp only [pf_min, undef_bool, str_len, str_eql, str_neq, conv_in, un_not, eq_self, decide_true, decide_false, Bool.not_true, Bool.not_false, argE_0, argE_1, argE_2, argE_3, argE_4, aw_skip, aw_reg, aw_seq, aw_cond, aw_block, aw_exit, aw_ret, inSeq_normal, inSeq_exit, inSeq_ret, inBlk_exit, inBlk_normal, inBlk_ret, OptK_some, OptH_some, OptS_some, kont_app, ar_nil, ar_guard, ar_mv, ar_pick, ar_new, ar_box, ar_build, ar_buildSl, ar_load, ar_store, ar_nilChk, ar_bin, ar_un, ar_conv, ar_convSB, ar_convBS, ar_mkFunc, ar_mkIface, ar_mkSlice, ar_sl, ar_slStr, ar_fieldA, ar_field, ar_idxA, ar_idxArr, ar_idx, ar_idxS, ar_extract, ar_append, ar_len, ar_call, ar_callv, callvP_func, List.nil_append, List.cons_append, List.append_nil, ar_pf, ar_hf, ar_slA, upO_some, upO_none, sX_t, sX_c, sX_f, sXs, sXO, sXP, fin_t, fin_t2, fin_t3, up_same, up_ne, ne_eq, not_false_eq_true, AVal.bool.injEq, decide_eq_true_eq, decide_eq_false_iff_not, Int.ofNat_eq_natCast, Int.reduceNegSucc, Int.cast_ofNat_Int, reduceCtorEq, bin_lss, bin_leq, bin_gtr, bin_geq, bin_eql, bin_neq, bin_add, bin_sub, bin_mul, Bool.not_eq_true', Bool.not_eq_false', Bool.true_eq_false, Bool.false_eq_true, Nat.reduceEqDiff, ↓reduceIte, if_true, if_false, Nat.reduceAdd, Int.reduceEq, Int.reduceLT, Int.reduceLE, t0, t1, t2, ext_0, ext_1, eqv_bool]
      refine (awake_spec hN (by have := D8.next; omega) (G.ext hn D8)).mono ?_
      rintro v H9 ⟨rfl, E9⟩
      simp only [pf_min, undef_bool, str_len, str_eql, str_neq, conv_in, un_not, eq_self, decide_true, decide_false, Bool.not_true, Bool.not_false, argE_0, argE_1, argE_2, argE_3, argE_4, aw_skip, aw_reg, aw_seq, aw_cond, aw_block, aw_exit, aw_ret, inSeq_normal, inSeq_exit, inSeq_ret, inBlk_exit, inBlk_normal, inBlk_ret, OptK_some, OptH_some, OptS_some, kont_app, ar_nil, ar_guard, ar_mv, ar_pick, ar_new, ar_box, ar_build, ar_buildSl, ar_load, ar_store, ar_nilChk, ar_bin, ar_un, ar_conv, ar_convSB, ar_convBS, ar_mkFunc, ar_mkIface, ar_mkSlice, ar_sl, ar_slStr, ar_fieldA, ar_field, ar_idxA, ar_idxArr, ar_idx, ar_idxS, ar_extract, ar_append, ar_len, ar_call, ar_callv, callvP_func, List.nil_append, List.cons_append, List.append_nil, ar_pf, ar_hf, ar_slA, upO_some, upO_none, sX_t, sX_c, sX_f, sXs, sXO, sXP, fin_t, fin_t2, fin_t3, up_same, up_ne, ne_eq, not_false_eq_true, AVal.bool.injEq, decide_eq_true_eq, decide_eq_false_iff_not, Int.ofNat_eq_natCast, Int.reduceNegSucc, Int.cast_ofNat_Int, reduceCtorEq, bin_lss, bin_leq, bin_gtr, bin_geq, bin_eql, bin_neq, bin_add, bin_sub, bin_mul, Bool.not_eq_true', Bool.not_eq_false', Bool.true_eq_false, Bool.false_eq_true, Nat.reduceEqDiff, ↓reduceIte, if_true, if_false, Nat.reduceAdd, Int.reduceEq, Int.reduceLT, Int.reduceLE]
      exact ⟨by trivial, D8.trans (E9.less D8.next)⟩
  show wp _ (match c3.body with | .seq a (.seq b _) => ACode.seq a (.seq b (seq2 (seq2 c3.body))) | x => x) (fin c3.res _) _ _
  have hm : ∀ (T : Env) s, T 0 = .str s → T 1 = .int .i64 p → T 2 = .int .i64 n → wp (ACalls Tryd.prog N) (seq2 (seq2 c3.body)) (fin c3.res fun v H' => v = .bool true ∧ Ext H.next H H') T H := fun T s => main s T
  generalize seq2 (seq2 c3.body) = rest at *
  by_cases q1 : 2000 < s.length
  · have q1' : (2000 : Int) < (s.length : Int) := by omega
    by_cases q2 : s.length ≤ 16384
    · have q2' : (s.length : Int) ≤ 16384 := by omega
      have hsl := str_slH (s := s) (h := 2000) (by omega)
      simp only [Int.cast_ofNat_Int] at hsl
      simp only [c3, pf_min, undef_bool, str_len, str_eql, str_neq, conv_in, un_not, eq_self, decide_true, decide_false, Bool.not_true, Bool.not_false, argE_0, argE_1, argE_2, argE_3, argE_4, aw_skip, aw_reg, aw_seq, aw_cond, aw_block, aw_exit, aw_ret, inSeq_normal, inSeq_exit, inSeq_ret, inBlk_exit, inBlk_normal, inBlk_ret, OptK_some, OptH_some, OptS_some, kont_app, ar_nil, ar_guard, ar_mv, ar_pick, ar_new, ar_box, ar_build, ar_buildSl, ar_load, ar_store, ar_nilChk, ar_bin, ar_un, ar_conv, ar_convSB, ar_convBS, ar_mkFunc, ar_mkIface, ar_mkSlice, ar_sl, ar_slStr, ar_fieldA, ar_field, ar_idxA, ar_idxArr, ar_idx, ar_idxS, ar_extract, ar_append, ar_len, ar_call, ar_callv, callvP_func, List.nil_append, List.cons_append, List.append_nil, ar_pf, ar_hf, ar_slA, upO_some, upO_none, sX_t, sX_c, sX_f, sXs, sXO, sXP, fin_t, fin_t2, fin_t3, up_same, up_ne, ne_eq, not_false_eq_true, AVal.bool.injEq, decide_eq_true_eq, decide_eq_false_iff_not, Int.ofNat_eq_natCast, Int.reduceNegSucc, Int.cast_ofNat_Int, reduceCtorEq, bin_lss, bin_leq, bin_gtr, bin_geq, bin_eql, bin_neq, bin_add, bin_sub, bin_mul, Bool.not_eq_true', Bool.not_eq_false', Bool.true_eq_false, Bool.false_eq_true, Nat.reduceEqDiff, ↓reduceIte, if_true, if_false, Nat.reduceAdd, Int.reduceEq, Int.reduceLT, Int.reduceLE, q1', q2', hsl]
      refine hm _ (s.take 2000) ?_ ?_ ?_ <;> simp only [pf_min, undef_bool, str_len, str_eql, str_neq, conv_in, un_not, eq_self, decide_true, decide_false, Bool.not_true, Bool.not_false, argE_0, argE_1, argE_2, argE_3, argE_4, aw_skip, aw_reg, aw_seq, aw_cond, aw_block, aw_exit, aw_ret, inSeq_normal, inSeq_exit, inSeq_ret, inBlk_exit, inBlk_normal, inBlk_ret, OptK_some, OptH_some, OptS_some, kont_app, ar_nil, ar_guard, ar_mv, ar_pick, ar_new, ar_box, ar_build, ar_buildSl, ar_load, ar_store, ar_nilChk, ar_bin, ar_un, ar_conv, ar_convSB, ar_convBS, ar_mkFunc, ar_mkIface, ar_mkSlice, ar_sl, ar_slStr, ar_fieldA, ar_field, ar_idxA, ar_idxArr, ar_idx, ar_idxS, ar_extract, ar_append, ar_len, ar_call, ar_callv, callvP_func, List.nil_append, List.cons_append, List.append_nil, ar_pf, ar_hf, ar_slA, upO_some, upO_none, sX_t, sX_c, sX_f, sXs, sXO, sXP, fin_t, fin_t2, fin_t3, up_same, up_ne, ne_eq, not_false_eq_true, AVal.bool.injEq, decide_eq_true_eq, decide_eq_false_iff_not, Int.ofNat_eq_natCast, Int.reduceNegSucc, Int.cast_ofNat_Int, reduceCtorEq, bin_lss, bin_leq, bin_gtr, bin_geq, bin_eql, bin_neq, bin_add, bin_sub, bin_mul, Bool.not_eq_true', Bool.not_eq_false', Bool.true_eq_false, Bool.false_eq_true, Nat.reduceEqDiff, ↓reduceIte, if_true, if_false, Nat.reduceAdd, Int.reduceEq, Int.reduceLT, Int.reduceLE]
    · have q2' : ¬ (s.length : Int) ≤ 16384 := by omega
      simp only [c3, pf_min, undef_bool, str_len, str_eql, str_neq, conv_in, un_not, eq_self, decide_true, decide_false, Bool.not_true, Bool.not_false, argE_0, argE_1, argE_2, argE_3, argE_4, aw_skip, aw_reg, aw_seq, aw_cond, aw_block, aw_exit, aw_ret, inSeq_normal, inSeq_exit, inSeq_ret, inBlk_exit, inBlk_normal, inBlk_ret, OptK_some, OptH_some, OptS_some, kont_app, ar_nil, ar_guard, ar_mv, ar_pick, ar_new, ar_box, ar_build, ar_buildSl, ar_load, ar_store, ar_nilChk, ar_bin, ar_un, ar_conv, ar_convSB, ar_convBS, ar_mkFunc, ar_mkIface, ar_mkSlice, ar_sl, ar_slStr, ar_fieldA, ar_field, ar_idxA, ar_idxArr, ar_idx, ar_idxS, ar_extract, ar_append, ar_len, ar_call, ar_callv, callvP_func, List.nil_append, List.cons_append, List.append_nil, ar_pf, ar_hf, ar_slA, upO_some, upO_none, sX_t, sX_c, sX_f, sXs, sXO, sXP, fin_t, fin_t2, fin_t3, up_same, up_ne, ne_eq, not_false_eq_true, AVal.bool.injEq, decide_eq_true_eq, decide_eq_false_iff_not, Int.ofNat_eq_natCast, Int.reduceNegSucc, Int.cast_ofNat_Int, reduceCtorEq, bin_lss, bin_leq, bin_gtr, bin_geq, bin_eql, bin_neq, bin_add, bin_sub, bin_mul, Bool.not_eq_true', Bool.not_eq_false', Bool.true_eq_false, Bool.false_eq_true, Nat.reduceEqDiff, ↓reduceIte, if_true, if_false, Nat.reduceAdd, Int.reduceEq, Int.reduceLT, Int.reduceLE, q1', q2']
      refine hm _ s ?_ ?_ ?_ <;> simp only [pf_min, undef_bool, str_len, str_eql, str_neq, conv_in, un_not, eq_self, decide_true, decide_false, Bool.not_true, Bool.not_false, argE_0, argE_1, argE_2, argE_3, argE_4, aw_skip, aw_reg, aw_seq, aw_cond, aw_block, aw_exit, aw_ret, inSeq_normal, inSeq_exit, inSeq_ret, inBlk_exit, inBlk_normal, inBlk_ret, OptK_some, OptH_some, OptS_some, kont_app, ar_nil, ar_guard, ar_mv, ar_pick, ar_new, ar_box, ar_build, ar_buildSl, ar_load, ar_store, ar_nilChk, ar_bin, ar_un, ar_conv, ar_convSB, ar_convBS, ar_mkFunc, ar_mkIface, ar_mkSlice, ar_sl, ar_slStr, ar_fieldA, ar_field, ar_idxA, ar_idxArr, ar_idx, ar_idxS, ar_extract, ar_append, ar_len, ar_call, ar_callv, callvP_func, List.nil_append, List.cons_append, List.append_nil, ar_pf, ar_hf, ar_slA, upO_some, upO_none, sX_t, sX_c, sX_f, sXs, sXO, sXP, fin_t, fin_t2, fin_t3, up_same, up_ne, ne_eq, not_false_eq_true, AVal.bool.injEq, decide_eq_true_eq, decide_eq_false_iff_not, Int.ofNat_eq_natCast, Int.reduceNegSucc, Int.cast_ofNat_Int, reduceCtorEq, bin_lss, bin_leq, bin_gtr, bin_geq, bin_eql, bin_neq, bin_add, bin_sub, bin_mul, Bool.not_eq_true', Bool.not_eq_false', Bool.true_eq_false, Bool.false_eq_true, Nat.reduceEqDiff, ↓reduceIte, if_true, if_false, Nat.reduceAdd, Int.reduceEq, Int.reduceLT, Int.reduceLE]
  · have q1' : ¬ (2000 : Int) < (s.length : Int) := by omega
    simp only [c3, pf_min, undef_bool, str_len, str_eql, str_neq, conv_in, un_not, eq_self, decide_true, decide_false, Bool.not_true, Bool.not_false, argE_0, argE_1, argE_2, argE_3, argE_4, aw_skip, aw_reg, aw_seq, aw_cond, aw_block, aw_exit, aw_ret, inSeq_normal, inSeq_exit, inSeq_ret, inBlk_exit, inBlk_normal, inBlk_ret, OptK_some, OptH_some, OptS_some, kont_app, ar_nil, ar_guard, ar_mv, ar_pick, ar_new, ar_box, ar_build, ar_buildSl, ar_load, ar_store, ar_nilChk, ar_bin, ar_un, ar_conv, ar_convSB, ar_convBS, ar_mkFunc, ar_mkIface, ar_mkSlice, ar_sl, ar_slStr, ar_fieldA, ar_field, ar_idxA, ar_idxArr, ar_idx, ar_idxS, ar_extract, ar_append, ar_len, ar_call, ar_callv, callvP_func, List.nil_append, List.cons_append, List.append_nil, ar_pf, ar_hf, ar_slA, upO_some, upO_none, sX_t, sX_c, sX_f, sXs, sXO, sXP, fin_t, fin_t2, fin_t3, up_same, up_ne, ne_eq, not_false_eq_true, AVal.bool.injEq, decide_eq_true_eq, decide_eq_false_iff_not, Int.ofNat_eq_natCast, Int.reduceNegSucc, Int.cast_ofNat_Int, reduceCtorEq, bin_lss, bin_leq, bin_gtr, bin_geq, bin_eql, bin_neq, bin_add, bin_sub, bin_mul, Bool.not_eq_true', Bool.not_eq_false', Bool.true_eq_false, Bool.false_eq_true, Nat.reduceEqDiff, ↓reduceIte, if_true, if_false, Nat.reduceAdd, Int.reduceEq, Int.reduceLT, Int.reduceLE, q1']
    refine hm _ s ?_ ?_ ?_ <;> simp only [pf_min, undef_bool, str_len, str_eql, str_neq, conv_in, un_not, eq_self, decide_true, decide_false, Bool.not_true, Bool.not_false, argE_0, argE_1, argE_2, argE_3, argE_4, aw_skip, aw_reg, aw_seq, aw_cond, aw_block, aw_exit, aw_ret, inSeq_normal, inSeq_exit, inSeq_ret, inBlk_exit, inBlk_normal, inBlk_ret, OptK_some, OptH_some, OptS_some, kont_app, ar_nil, ar_guard, ar_mv, ar_pick, ar_new, ar_box, ar_build, ar_buildSl, ar_load, ar_store, ar_nilChk, ar_bin, ar_un, ar_conv, ar_convSB, ar_convBS, ar_mkFunc, ar_mkIface, ar_mkSlice, ar_sl, ar_slStr, ar_fieldA, ar_field, ar_idxA, ar_idxArr, ar_idx, ar_idxS, ar_extract, ar_append, ar_len, ar_call, ar_callv, callvP_func, List.nil_append, List.cons_append, List.append_nil, ar_pf, ar_hf, ar_slA, upO_some, upO_none, sX_t, sX_c, sX_f, sXs, sXO, sXP, fin_t, fin_t2, fin_t3, up_same, up_ne, ne_eq, not_false_eq_true, AVal.bool.injEq, decide_eq_true_eq, decide_eq_false_iff_not, Int.ofNat_eq_natCast, Int.reduceNegSucc, Int.cast_ofNat_Int, reduceCtorEq, bin_lss, bin_leq, bin_gtr, bin_geq, bin_eql, bin_neq, bin_add, bin_sub, bin_mul, Bool.not_eq_true', Bool.not_eq_false', Bool.true_eq_false, Bool.false_eq_true, Nat.reduceEqDiff, ↓reduceIte, if_true, if_false, Nat.reduceAdd, Int.reduceEq, Int.reduceLT, Int.reduceLE]
end Go.Proofs.Wo
/- Words, in plain Lean: what is said is read back; more digits behind the point say no less. -/
namespace Go.Proofs.Wo
open Go.Abs Go.Abs.S
set_option linter.unusedSimpArgs false
theorem asc_dig {l : List Nat} (h : ∀ d ∈ l, d ≤ 9) : ∀ c ∈ asc l, dig c = true := by
  intro c hc
  obtain ⟨d, hd, rfl⟩ := List.mem_map.1 hc
  have := h d hd
  have e : (UInt8.ofNat (48 + d)).toNat = 48 + d := by rw [UInt8.toNat_ofNat']; omega
  simp only [dig, e, Bool.and_eq_true, decide_eq_true_eq]; omega
theorem digs_asc {l : List Nat} (h : ∀ d ∈ l, d ≤ 9) : digs (asc l) = l := by
  simp only [digs, asc, List.map_map]
  conv => rhs; rw [← List.map_id l]
  apply List.map_congr_left
  intro d hd
  have := h d hd
  have e : (UInt8.ofNat (48 + d)).toNat = 48 + d := by rw [UInt8.toNat_ofNat']; omega
  simp only [Function.comp_apply, dv, e, id]; omega
theorem valF_digs (s : Bs) : valF s = valN (digs s) := by
  simp only [valF, valN, digs, List.foldl_map]
theorem take_all {p : UInt8 → Bool} {l r : Bs} (h : ∀ c ∈ l, p c = true) (hr : r = [] ∨ ∃ c t, r = c :: t ∧ p c = false) : (l ++ r).takeWhile p = l := by
  rw [List.takeWhile_append_of_pos h]
  rcases hr with rfl | ⟨c, t, rfl, hc⟩
  · simp
  · rw [List.takeWhile_cons_of_neg (by simp [hc])]; simp
theorem drop_all {p : UInt8 → Bool} {l r : Bs} (h : ∀ c ∈ l, p c = true) (hr : r = [] ∨ ∃ c t, r = c :: t ∧ p c = false) : (l ++ r).dropWhile p = r := by
  rw [List.dropWhile_append_of_pos h]
  rcases hr with rfl | ⟨c, t, rfl, hc⟩
  · simp
  · rw [List.dropWhile_cons_of_neg (by simp [hc])]
theorem dot_no : dig 46 = false := by decide
theorem dot_npt : npt 46 = false := by decide
theorem asc_cons {ds : List Nat} (hd : ∀ d ∈ ds, d ≤ 9) (hne : ds ≠ []) : ∃ c t, asc ds = c :: t ∧ dig c = true := by
  cases ds with
  | nil => exact absurd rfl hne
  | cons d ds => exact ⟨_, _, rfl, asc_dig hd _ (by simp [asc])⟩
theorem says_point {ds es : List Nat} (hd : ∀ d ∈ ds, d ≤ 9) (he : ∀ d ∈ es, d ≤ 9) (h1 : ds ≠ []) (h2 : es ≠ []) (hv : valN ds < 2147483648) :
    saysF (asc ds ++ 46 :: asc es) = some (valN ds * 2 ^ 32 + frac es) := by
  have hA := asc_dig hd
  have hB := asc_dig he
  have hr : (46 :: asc es : Bs) = [] ∨ ∃ c t, (46 :: asc es : Bs) = c :: t ∧ dig c = false := .inr ⟨46, asc es, rfl, dot_no⟩
  have hw : whole (asc ds ++ 46 :: asc es) = asc ds := take_all (fun c hc => dig_npt (hA c hc)) (.inr ⟨46, asc es, rfl, dot_npt⟩)
  have hb : behind (asc ds ++ 46 :: asc es) = asc es := by
    rw [behind, drop_all (fun c hc => dig_npt (hA c hc)) (.inr ⟨46, asc es, rfl, dot_npt⟩)]; rfl
  have hrun : runF dig (asc ds ++ 46 :: asc es) 0 = (asc ds).length := by rw [runF, List.drop_zero, take_all hA hr]; omega
  have hlen : (asc ds ++ 46 :: asc es).length = (asc ds).length + 1 + (asc es).length := by simp; omega
  have hdr : (asc ds ++ 46 :: asc es).drop ((asc ds).length + 1) = asc es := by simp [List.drop_append]
  have hrun2 : runF dig (asc ds ++ 46 :: asc es) ((asc ds).length + 1) = (asc ds ++ 46 :: asc es).length := by
    have := take_all (l := asc es) (r := []) hB (.inl rfl)
    rw [List.append_nil] at this
    rw [runF, hdr, this, hlen]
  have hat : (asc ds ++ 46 :: asc es)[(asc ds).length]? = some 46 := by simp
  have hdl : 0 < (asc ds).length := by rw [asc_len]; exact List.length_pos_iff.2 h1
  have hel : 0 < (asc es).length := by rw [asc_len]; exact List.length_pos_iff.2 h2
  have hnum : numF (asc ds ++ 46 :: asc es) 0 = (asc ds ++ 46 :: asc es).length := by
    rw [numF, hrun, if_neg (by rw [hat]; rintro (h | h); omega; exact h rfl), hrun2, if_pos (by omega)]
  have hnm : isNum (asc ds ++ 46 :: asc es) = true := by
    obtain ⟨c, t, hct, hcd⟩ := asc_cons hd h1
    unfold isNum
    rw [hnum, hct]
    simp [hcd]
  rw [saysF, hw, hb, valF_digs, digs_asc hd, digs_asc he, if_pos ⟨hnm, hv⟩]
theorem says_whole {ds : List Nat} (hd : ∀ d ∈ ds, d ≤ 9) (h1 : ds ≠ []) (hv : valN ds < 2147483648) : saysF (asc ds) = some (valN ds * 2 ^ 32) := by
  have hA := asc_dig hd
  have ha : ∀ {p : UInt8 → Bool}, (∀ c ∈ asc ds, p c = true) → (asc ds).takeWhile p = asc ds := fun h => by
    have := take_all (r := []) h (.inl rfl)
    rwa [List.append_nil] at this
  have hw : whole (asc ds) = asc ds := ha fun c hc => dig_npt (hA c hc)
  have hb : behind (asc ds) = [] := by
    have := drop_all (r := []) (fun c hc => dig_npt (hA c hc)) (.inl rfl)
    rw [List.append_nil] at this
    rw [behind, this]; rfl
  have hrun : runF dig (asc ds) 0 = (asc ds).length := by rw [runF, List.drop_zero, ha hA]; omega
  have hnum : numF (asc ds) 0 = (asc ds).length := by
    rw [numF, hrun, if_pos (.inr (by simp))]
  have hnm : isNum (asc ds) = true := by
    obtain ⟨c, t, hct, hcd⟩ := asc_cons hd h1
    unfold isNum
    rw [hnum, hct]
    simp [hcd]
  rw [saysF, hw, hb, valF_digs, digs_asc hd, if_pos ⟨hnm, hv⟩]
  have : frac (digs []) = 0 := by decide
  rw [this, Nat.add_zero]
theorem fracD_dig (k : Nat) : ∀ r, r < 4294967296 → ∀ d ∈ fracD k r, d ≤ 9 := by
  induction k with
  | zero => intro r _ d h; simp [fracD] at h
  | succ k ih =>
    intro r hr d h
    rw [fracD] at h
    split at h
    · simp at h
    · rcases List.mem_cons.1 h with rfl | h
      · omega
      · exact ih _ (by omega) d h
theorem fracD_val (k : Nat) : ∀ r, k ≤ 32 → r < 4294967296 → 2 ^ (32 - k) ∣ r → valN (fracD k r) * 4294967296 = r * 10 ^ (fracD k r).length := by
  induction k with
  | zero =>
    intro r _ hr hd
    obtain ⟨c, hc⟩ := hd
    have : c = 0 := by
      rcases Nat.eq_zero_or_pos c with h | h
      · exact h
      · exfalso
        have : 2 ^ (32 - 0) * 1 ≤ 2 ^ (32 - 0) * c := Nat.mul_le_mul_left _ h
        simp only [Nat.sub_zero] at this hc
        omega
    subst this
    simp [fracD, hc, valN]
  | succ k ih =>
    intro r hk hr hd
    by_cases h0 : r = 0
    · subst h0; simp [fracD, valN]
    · obtain ⟨k', hk', hf, hd'⟩ := frac_step hk hr hd h0
      obtain rfl : k = k' := by omega
      have h1 := ih (r * 10 % 4294967296) (by omega) (by omega) hd'
      rw [hf, valN_cons, List.length_cons, Nat.pow_succ, Nat.add_mul, h1]
      generalize 10 ^ (fracD k (r * 10 % 4294967296)).length = p
      have h2 := Nat.div_add_mod (r * 10) 4294967296
      generalize r * 10 / 4294967296 = q at *
      generalize r * 10 % 4294967296 = t at *
      have e1 : q * p * 4294967296 = 4294967296 * q * p := by rw [Nat.mul_comm (q * p), ← Nat.mul_assoc]
      have e2 : r * (p * 10) = r * 10 * p := by rw [Nat.mul_comm p, ← Nat.mul_assoc]
      rw [e1, e2, ← h2, Nat.add_mul]
theorem frac_fracD {r : Nat} (hr : r < 4294967296) : frac (fracD 32 r) = r := by
  have h := fracD_val 32 r (Nat.le_refl _) hr (by simp)
  have hp : 0 < 10 ^ (fracD 32 r).length := Nat.pos_of_ne_zero (by simp)
  rw [frac, Nat.mul_comm, show (2 : Nat) ^ 32 = 4294967296 by rfl, h, Nat.mul_div_cancel _ hp]
theorem decD_ne (n : Nat) : decD n ≠ [] := fun h => asc_ne n (by rw [h]; rfl)
theorem numeral_nat (m : Nat) : numeralF (m : Int) = asc (decD (m / 4294967296)) ++ tailF (m % 4294967296) := by
  rw [numeralF, if_neg (by omega)]; rfl
/-- what is said of a number is read back -/
theorem said_read {m : Nat} (hm : m < 9223372036854775808) : saysF (numeralF (m : Int)) = some m := by
  have hv : valN (decD (m / 4294967296)) < 2147483648 := by rw [decD_val]; omega
  have hdm := Nat.div_add_mod m 4294967296
  rw [numeral_nat]
  by_cases hr : m % 4294967296 = 0
  · rw [tailF, if_pos hr, List.append_nil, says_whole (decD_dig _) (decD_ne _) hv, decD_val]
    congr 1; omega
  · have hr' : m % 4294967296 < 4294967296 := by omega
    have hne : fracD 32 (m % 4294967296) ≠ [] := by rw [fracD, if_neg hr]; simp
    rw [tailF, if_neg hr, says_point (decD_dig _) (fracD_dig 32 _ hr') (decD_ne _) hne hv, decD_val, frac_fracD hr']
    congr 1; omega
/-- more digits behind the point say no less -/
theorem frac_le (l m : List Nat) : frac l ≤ frac (l ++ m) := by
  unfold frac
  have hp : 0 < 10 ^ m.length := Nat.pos_of_ne_zero (by simp)
  rw [valN_append, List.length_append, Nat.pow_add, ← Nat.mul_div_mul_right (2 ^ 32 * valN l) (10 ^ l.length) hp]
  refine Nat.div_le_div_right ?_
  rw [Nat.mul_add, Nat.mul_assoc]
  omega
theorem numeral_whole (w : Nat) : numeralF ((w * 4294967296 : Nat) : Int) = asc (decD w) := by
  rw [numeral_nat, Nat.mul_div_cancel _ (by omega), Nat.mul_mod_left, tailF, if_pos rfl, List.append_nil]
end Go.Proofs.Wo
/- Words: what is said is read back; more digits say no less: the statement's contract. -/
namespace Go.Proofs.Wo
open Go.Abs Go.Abs.S
set_option linter.unusedSimpArgs false
variable {N : ANat}
theorem and_max (n : Int) : ∃ m : Nat, m < 9223372036854775808 ∧ aBin .and (.int .i64 n) (.int .i64 9223372036854775807) = some (.int .i64 (m : Int)) := by
  have hlt : (BitVec.ofInt IntKind.i64.bits n &&& BitVec.ofInt IntKind.i64.bits 9223372036854775807).toNat < 9223372036854775808 := by
    rw [BitVec.toNat_and]
    exact Nat.lt_of_le_of_lt Nat.and_le_right (by decide)
  refine ⟨_, hlt, ?_⟩
  simp only [aBin, isShift, cond_false, if_true, aIntF_eq, aInt]
  rw [wrapI (by omega)]
/-- digits out of bytes -/
def modD (s : Bs) : List Nat := s.map fun b => b.toNat % 10
theorem modD_len (s : Bs) : (modD s).length = s.length := by simp [modD]
theorem modD_le (s : Bs) : ∀ d ∈ modD s, d ≤ 9 := by
  intro d hd
  obtain ⟨b, _, rfl⟩ := List.mem_map.1 hd
  omega
theorem modD_next {s : Bs} {i : Nat} {b : UInt8} (h : s[i]? = some b) : (modD s).take (i + 1) = (modD s).take i ++ [b.toNat % 10] := by
  rw [List.take_add_one]
  simp [modD, h]
theorem take_40 {l : List Nat} {i : Nat} (h1 : i ≤ l.length) (h2 : i ≤ 40) (h : ¬ (i < l.length ∧ i < 40)) : l.take i = l.take 40 := by
  by_cases hl : l.length ≤ 40
  · rw [List.take_of_length_le (by omega), List.take_of_length_le hl]
  · have : i = 40 := by omega
    rw [this]
theorem rem10 (b : UInt8) : aBin .rem (.int .u8 (b.toNat : Int)) (.int .u8 10) = some (.int .u8 ((b.toNat % 10 : Nat) : Int)) := by
  rw [bin_rem _ _ _ (by omega)]; rfl
theorem add48 (d : Nat) (h : d < 10) : IntKind.u8.wrap (48 + (d : Int)) = ((48 + d : Nat) : Int) := by
  rw [wrapU8 (by omega) (by omega)]; omega
theorem numbers_spec (hN : NWo N) {n : Int} {w : Nat} (hw : w < 4294967296) {A B : AVal} {xs ys : Bs} {H : AHeap} (ca : Cel H.next H A (byts xs)) (cb : Cel H.next H B (byts ys)) (hA1 : A.one = true) (hB1 : B.one = true)
    (hn : 1 < H.next) (G : Glo H 1 powL) :
    ACalls Tryd.prog N 4 [.int .i64 n, .int .u32 (w : Int), .agg [A, B]] H fun v H' => v = .bool true ∧ Ext H.next H H' := by
  refine acalls_ofN (hN.no _ (by decide)) za4 rfl ?_
  have num : ∀ {s : Bs} {H : AHeap}, s.length ≤ 4611686018427387904 → ACalls Tryd.prog N 12 [.str s] H fun v H' => v = told (saysF s) ∧ Ext H.next H H' := fun hs =>
    number_spec (hN.no _ (by decide)) (hN.no _ (by decide)) (hN.no _ (by decide)) (hN.no _ (by decide)) (hN.no _ (by decide)) (hN.no _ (by decide)) (hN.no _ (by decide)) (hN.no _ (by decide)) (hN.no _ (by decide)) hs
  obtain ⟨H1, m1, r1, n1, k1⟩ := row_newL H [A, B] (n := 2) rfl
  have E1 : Ext H.next H H1 := Ext.of_new n1 k1 (Nat.le_refl _)
  have ia := arr_idx (b := H.next) (n := 2) (i := 0) (by omega) .i64
  have ib := arr_idx (b := H.next) (n := 2) (i := 1) (by omega) .i64
  have la := row_load r1 (n := 2) rfl (i := 0) (x := A) rfl
  have lb := row_load r1 (n := 2) rfl (i := 1) (x := B) rfl
  obtain ⟨m, hm, em⟩ := and_max n
  simp only [Int.cast_ofNat_Int] at ia ib
  simp only [c4, pf_min, undef_bool, str_len, str_eql, str_neq, conv_in, un_not, eq_self, decide_true, decide_false, Bool.not_true, Bool.not_false, argE_0, argE_1, argE_2, argE_3, argE_4, aw_skip, aw_reg, aw_seq, aw_cond, aw_block, aw_exit, aw_ret, inSeq_normal, inSeq_exit, inSeq_ret, inBlk_exit, inBlk_normal, inBlk_ret, OptK_some, OptH_some, OptS_some, kont_app, ar_nil, ar_guard, ar_mv, ar_pick, ar_new, ar_box, ar_build, ar_buildSl, ar_load, ar_store, ar_nilChk, ar_bin, ar_un, ar_conv, ar_convSB, ar_convBS, ar_mkFunc, ar_mkIface, ar_mkSlice, ar_sl, ar_slStr, ar_fieldA, ar_field, ar_idxA, ar_idxArr, ar_idx, ar_idxS, ar_extract, ar_append, ar_len, ar_call, ar_callv, callvP_func, List.nil_append, List.cons_append, List.append_nil, ar_pf, ar_hf, ar_slA, upO_some, upO_none, sX_t, sX_c, sX_f, sXs, sXO, sXP, fin_t, fin_t2, fin_t3, up_same, up_ne, ne_eq, not_false_eq_true, AVal.bool.injEq, decide_eq_true_eq, decide_eq_false_iff_not, Int.ofNat_eq_natCast, Int.reduceNegSucc, Int.cast_ofNat_Int, reduceCtorEq, bin_lss, bin_leq, bin_gtr, bin_geq, bin_eql, bin_neq, bin_add, bin_sub, bin_mul, Bool.not_eq_true', Bool.not_eq_false', Bool.true_eq_false, Bool.false_eq_true, Nat.reduceEqDiff, ↓reduceIte, if_true, if_false, Nat.reduceAdd, Int.reduceEq, Int.reduceLT, Int.reduceLE, cells_agg, m1, ia, ib, la, lb, em]
  refine (said_spec hN.str (hN.no _ (by decide)) (by omega) (by omega) (by omega) (G.ext hn E1)).mono ?_
  rintro v H2 ⟨rfl, E2⟩
  have D2 := E1.trans (E2.less E1.next)
  have hl1 : (numeralF (m : Int)).length ≤ 100 := by
    rw [numeral_nat, List.length_append, asc_len]
    have h1 := decD_len 9 (m / 4294967296) (by omega)
    have h2 : (tailF (m % 4294967296)).length ≤ 33 := by
      unfold tailF
      split
      · simp
      · have := fracD_len 32 (m % 4294967296)
        simp [asc]; omega
    omega
  simp only [pf_min, undef_bool, str_len, str_eql, str_neq, conv_in, un_not, eq_self, decide_true, decide_false, Bool.not_true, Bool.not_false, argE_0, argE_1, argE_2, argE_3, argE_4, aw_skip, aw_reg, aw_seq, aw_cond, aw_block, aw_exit, aw_ret, inSeq_normal, inSeq_exit, inSeq_ret, inBlk_exit, inBlk_normal, inBlk_ret, OptK_some, OptH_some, OptS_some, kont_app, ar_nil, ar_guard, ar_mv, ar_pick, ar_new, ar_box, ar_build, ar_buildSl, ar_load, ar_store, ar_nilChk, ar_bin, ar_un, ar_conv, ar_convSB, ar_convBS, ar_mkFunc, ar_mkIface, ar_mkSlice, ar_sl, ar_slStr, ar_fieldA, ar_field, ar_idxA, ar_idxArr, ar_idx, ar_idxS, ar_extract, ar_append, ar_len, ar_call, ar_callv, callvP_func, List.nil_append, List.cons_append, List.append_nil, ar_pf, ar_hf, ar_slA, upO_some, upO_none, sX_t, sX_c, sX_f, sXs, sXO, sXP, fin_t, fin_t2, fin_t3, up_same, up_ne, ne_eq, not_false_eq_true, AVal.bool.injEq, decide_eq_true_eq, decide_eq_false_iff_not, Int.ofNat_eq_natCast, Int.reduceNegSucc, Int.cast_ofNat_Int, reduceCtorEq, bin_lss, bin_leq, bin_gtr, bin_geq, bin_eql, bin_neq, bin_add, bin_sub, bin_mul, Bool.not_eq_true', Bool.not_eq_false', Bool.true_eq_false, Bool.false_eq_true, Nat.reduceEqDiff, ↓reduceIte, if_true, if_false, Nat.reduceAdd, Int.reduceEq, Int.reduceLT, Int.reduceLE]
  refine (num (by omega)).mono ?_
  rintro v H3 ⟨rfl, E3⟩
  have D3 := D2.trans (E3.less D2.next)
  have q1 := shrN .u32 .u64 w (b := 1) (by decide)
  simp only [Int.cast_ofNat_Int] at q1
  have q2 : IntKind.i64.wrap ((w / 2 ^ 1 : Nat) : Int) = ((w / 2 ^ 1 : Nat) : Int) := wrap64 (by omega) (by omega)
  have q3 := bin_shlN (k' := .u64) (a := w / 2 ^ 1) (b := 32) (by omega) (by omega)
  simp only [Int.cast_ofNat_Int] at q3
  have hW : w / 2 ^ 1 < 2147483648 := by omega
  rw [said_read hm]
  simp only [told, pf_min, undef_bool, str_len, str_eql, str_neq, conv_in, un_not, eq_self, decide_true, decide_false, Bool.not_true, Bool.not_false, argE_0, argE_1, argE_2, argE_3, argE_4, aw_skip, aw_reg, aw_seq, aw_cond, aw_block, aw_exit, aw_ret, inSeq_normal, inSeq_exit, inSeq_ret, inBlk_exit, inBlk_normal, inBlk_ret, OptK_some, OptH_some, OptS_some, kont_app, ar_nil, ar_guard, ar_mv, ar_pick, ar_new, ar_box, ar_build, ar_buildSl, ar_load, ar_store, ar_nilChk, ar_bin, ar_un, ar_conv, ar_convSB, ar_convBS, ar_mkFunc, ar_mkIface, ar_mkSlice, ar_sl, ar_slStr, ar_fieldA, ar_field, ar_idxA, ar_idxArr, ar_idx, ar_idxS, ar_extract, ar_append, ar_len, ar_call, ar_callv, callvP_func, List.nil_append, List.cons_append, List.append_nil, ar_pf, ar_hf, ar_slA, upO_some, upO_none, sX_t, sX_c, sX_f, sXs, sXO, sXP, fin_t, fin_t2, fin_t3, up_same, up_ne, ne_eq, not_false_eq_true, AVal.bool.injEq, decide_eq_true_eq, decide_eq_false_iff_not, Int.ofNat_eq_natCast, Int.reduceNegSucc, Int.cast_ofNat_Int, reduceCtorEq, bin_lss, bin_leq, bin_gtr, bin_geq, bin_eql, bin_neq, bin_add, bin_sub, bin_mul, Bool.not_eq_true', Bool.not_eq_false', Bool.true_eq_false, Bool.false_eq_true, Nat.reduceEqDiff, ↓reduceIte, if_true, if_false, Nat.reduceAdd, Int.reduceEq, Int.reduceLT, Int.reduceLE, ext_0, ext_1, q1, q2, q3]
  generalize hWd : w / 2 ^ 1 = W at *
  refine (said_spec hN.str (hN.no _ (by decide)) (by omega) (by omega) (by have := D3.next; omega) (G.ext hn D3)).mono ?_
  rintro v H4 ⟨rfl, E4⟩
  have D4 := D3.trans (E4.less D3.next)
  rw [show W * 2 ^ 32 = W * 4294967296 by rfl, numeral_whole]
  have hlw : (asc (decD W)).length ≤ 10 := by rw [asc_len]; exact decD_len 9 W (by omega)
  have hadd := str_add (x := asc (decD W)) (y := [46]) (by simp; omega)
  simp only [pf_min, undef_bool, str_len, str_eql, str_neq, conv_in, un_not, eq_self, decide_true, decide_false, Bool.not_true, Bool.not_false, argE_0, argE_1, argE_2, argE_3, argE_4, aw_skip, aw_reg, aw_seq, aw_cond, aw_exit, aw_ret, inSeq_normal, inSeq_exit, inSeq_ret, inBlk_exit, inBlk_normal, inBlk_ret, OptK_some, OptH_some, OptS_some, kont_app, ar_nil, ar_guard, ar_mv, ar_pick, ar_new, ar_box, ar_build, ar_buildSl, ar_load, ar_store, ar_nilChk, ar_bin, ar_un, ar_conv, ar_convSB, ar_convBS, ar_mkFunc, ar_mkIface, ar_mkSlice, ar_sl, ar_slStr, ar_fieldA, ar_field, ar_idxA, ar_idxArr, ar_idx, ar_idxS, ar_extract, ar_append, ar_len, ar_call, ar_callv, callvP_func, List.nil_append, List.cons_append, List.append_nil, ar_pf, ar_hf, ar_slA, upO_some, upO_none, sX_t, sX_c, sX_f, sXs, sXO, sXP, fin_t, fin_t2, fin_t3, up_same, up_ne, ne_eq, not_false_eq_true, AVal.bool.injEq, decide_eq_true_eq, decide_eq_false_iff_not, Int.ofNat_eq_natCast, Int.reduceNegSucc, Int.cast_ofNat_Int, reduceCtorEq, bin_lss, bin_leq, bin_gtr, bin_geq, bin_eql, bin_neq, bin_add, bin_sub, bin_mul, Bool.not_eq_true', Bool.not_eq_false', Bool.true_eq_false, Bool.false_eq_true, Nat.reduceEqDiff, ↓reduceIte, if_true, if_false, Nat.reduceAdd, Int.reduceEq, Int.reduceLT, Int.reduceLE, hadd]
  rw [aw_block]
  have hML : ∀ i, ((modD xs).take i).length ≤ i := fun i => by simp; omega
  refine aw_cut (fun (T : Env) H' => T 1 = .int .u32 (w : Int) ∧ T 7 = A ∧ T 8 = B ∧ T 11 = .str (asc (decD W) ++ 46 :: asc ((modD xs).take 40)) ∧ Ext H.next H H') (calls_mono _ _) ?_ ?_
  · refine aw_loop (fun q (T : Env) H' => ∃ i : Nat, i ≤ xs.length ∧ i ≤ 40 ∧ q = 40 - i ∧ T 1 = .int .u32 (w : Int) ∧ T 7 = A ∧ T 8 = B ∧ T 11 = .str (asc (decD W) ++ 46 :: asc ((modD xs).take i)) ∧ T 12 = .int .i64 (i : Int) ∧ Ext H.next H H') 40
      ⟨0, Nat.zero_le _, by omega, rfl, by simp only [pf_min, undef_bool, str_len, str_eql, str_neq, conv_in, un_not, eq_self, decide_true, decide_false, Bool.not_true, Bool.not_false, argE_0, argE_1, argE_2, argE_3, argE_4, aw_skip, aw_reg, aw_seq, aw_cond, aw_block, aw_exit, aw_ret, inSeq_normal, inSeq_exit, inSeq_ret, inBlk_exit, inBlk_normal, inBlk_ret, OptK_some, OptH_some, OptS_some, kont_app, ar_nil, ar_guard, ar_mv, ar_pick, ar_new, ar_box, ar_build, ar_buildSl, ar_load, ar_store, ar_nilChk, ar_bin, ar_un, ar_conv, ar_convSB, ar_convBS, ar_mkFunc, ar_mkIface, ar_mkSlice, ar_sl, ar_slStr, ar_fieldA, ar_field, ar_idxA, ar_idxArr, ar_idx, ar_idxS, ar_extract, ar_append, ar_len, ar_call, ar_callv, callvP_func, List.nil_append, List.cons_append, List.append_nil, ar_pf, ar_hf, ar_slA, upO_some, upO_none, sX_t, sX_c, sX_f, sXs, sXO, sXP, fin_t, fin_t2, fin_t3, up_same, up_ne, ne_eq, not_false_eq_true, AVal.bool.injEq, decide_eq_true_eq, decide_eq_false_iff_not, Int.ofNat_eq_natCast, Int.reduceNegSucc, Int.cast_ofNat_Int, reduceCtorEq, bin_lss, bin_leq, bin_gtr, bin_geq, bin_eql, bin_neq, bin_add, bin_sub, bin_mul, Bool.not_eq_true', Bool.not_eq_false', Bool.true_eq_false, Bool.false_eq_true, Nat.reduceEqDiff, ↓reduceIte, if_true, if_false, Nat.reduceAdd, Int.reduceEq, Int.reduceLT, Int.reduceLE], by simp only [pf_min, undef_bool, str_len, str_eql, str_neq, conv_in, un_not, eq_self, decide_true, decide_false, Bool.not_true, Bool.not_false, argE_0, argE_1, argE_2, argE_3, argE_4, aw_skip, aw_reg, aw_seq, aw_cond, aw_block, aw_exit, aw_ret, inSeq_normal, inSeq_exit, inSeq_ret, inBlk_exit, inBlk_normal, inBlk_ret, OptK_some, OptH_some, OptS_some, kont_app, ar_nil, ar_guard, ar_mv, ar_pick, ar_new, ar_box, ar_build, ar_buildSl, ar_load, ar_store, ar_nilChk, ar_bin, ar_un, ar_conv, ar_convSB, ar_convBS, ar_mkFunc, ar_mkIface, ar_mkSlice, ar_sl, ar_slStr, ar_fieldA, ar_field, ar_idxA, ar_idxArr, ar_idx, ar_idxS, ar_extract, ar_append, ar_len, ar_call, ar_callv, callvP_func, List.nil_append, List.cons_append, List.append_nil, ar_pf, ar_hf, ar_slA, upO_some, upO_none, sX_t, sX_c, sX_f, sXs, sXO, sXP, fin_t, fin_t2, fin_t3, up_same, up_ne, ne_eq, not_false_eq_true, AVal.bool.injEq, decide_eq_true_eq, decide_eq_false_iff_not, Int.ofNat_eq_natCast, Int.reduceNegSucc, Int.cast_ofNat_Int, reduceCtorEq, bin_lss, bin_leq, bin_gtr, bin_geq, bin_eql, bin_neq, bin_add, bin_sub, bin_mul, Bool.not_eq_true', Bool.not_eq_false', Bool.true_eq_false, Bool.false_eq_true, Nat.reduceEqDiff, ↓reduceIte, if_true, if_false, Nat.reduceAdd, Int.reduceEq, Int.reduceLT, Int.reduceLE], by simp only [pf_min, undef_bool, str_len, str_eql, str_neq, conv_in, un_not, eq_self, decide_true, decide_false, Bool.not_true, Bool.not_false, argE_0, argE_1, argE_2, argE_3, argE_4, aw_skip, aw_reg, aw_seq, aw_cond, aw_block, aw_exit, aw_ret, inSeq_normal, inSeq_exit, inSeq_ret, inBlk_exit, inBlk_normal, inBlk_ret, OptK_some, OptH_some, OptS_some, kont_app, ar_nil, ar_guard, ar_mv, ar_pick, ar_new, ar_box, ar_build, ar_buildSl, ar_load, ar_store, ar_nilChk, ar_bin, ar_un, ar_conv, ar_convSB, ar_convBS, ar_mkFunc, ar_mkIface, ar_mkSlice, ar_sl, ar_slStr, ar_fieldA, ar_field, ar_idxA, ar_idxArr, ar_idx, ar_idxS, ar_extract, ar_append, ar_len, ar_call, ar_callv, callvP_func, List.nil_append, List.cons_append, List.append_nil, ar_pf, ar_hf, ar_slA, upO_some, upO_none, sX_t, sX_c, sX_f, sXs, sXO, sXP, fin_t, fin_t2, fin_t3, up_same, up_ne, ne_eq, not_false_eq_true, AVal.bool.injEq, decide_eq_true_eq, decide_eq_false_iff_not, Int.ofNat_eq_natCast, Int.reduceNegSucc, Int.cast_ofNat_Int, reduceCtorEq, bin_lss, bin_leq, bin_gtr, bin_geq, bin_eql, bin_neq, bin_add, bin_sub, bin_mul, Bool.not_eq_true', Bool.not_eq_false', Bool.true_eq_false, Bool.false_eq_true, Nat.reduceEqDiff, ↓reduceIte, if_true, if_false, Nat.reduceAdd, Int.reduceEq, Int.reduceLT, Int.reduceLE], by simp only [pf_min, undef_bool, str_len, str_eql, str_neq, conv_in, un_not, eq_self, decide_true, decide_false, Bool.not_true, Bool.not_false, argE_0, argE_1, argE_2, argE_3, argE_4, aw_skip, aw_reg, aw_seq, aw_cond, aw_block, aw_exit, aw_ret, inSeq_normal, inSeq_exit, inSeq_ret, inBlk_exit, inBlk_normal, inBlk_ret, OptK_some, OptH_some, OptS_some, kont_app, ar_nil, ar_guard, ar_mv, ar_pick, ar_new, ar_box, ar_build, ar_buildSl, ar_load, ar_store, ar_nilChk, ar_bin, ar_un, ar_conv, ar_convSB, ar_convBS, ar_mkFunc, ar_mkIface, ar_mkSlice, ar_sl, ar_slStr, ar_fieldA, ar_field, ar_idxA, ar_idxArr, ar_idx, ar_idxS, ar_extract, ar_append, ar_len, ar_call, ar_callv, callvP_func, List.nil_append, List.cons_append, List.append_nil, ar_pf, ar_hf, ar_slA, upO_some, upO_none, sX_t, sX_c, sX_f, sXs, sXO, sXP, fin_t, fin_t2, fin_t3, up_same, up_ne, ne_eq, not_false_eq_true, AVal.bool.injEq, decide_eq_true_eq, decide_eq_false_iff_not, Int.ofNat_eq_natCast, Int.reduceNegSucc, Int.cast_ofNat_Int, reduceCtorEq, bin_lss, bin_leq, bin_gtr, bin_geq, bin_eql, bin_neq, bin_add, bin_sub, bin_mul, Bool.not_eq_true', Bool.not_eq_false', Bool.true_eq_false, Bool.false_eq_true, Nat.reduceEqDiff, ↓reduceIte, if_true, if_false, Nat.reduceAdd, Int.reduceEq, Int.reduceLT, Int.reduceLE, List.take_zero]; rfl, by simp only [pf_min, undef_bool, str_len, str_eql, str_neq, conv_in, un_not, eq_self, decide_true, decide_false, Bool.not_true, Bool.not_false, argE_0, argE_1, argE_2, argE_3, argE_4, aw_skip, aw_reg, aw_seq, aw_cond, aw_block, aw_exit, aw_ret, inSeq_normal, inSeq_exit, inSeq_ret, inBlk_exit, inBlk_normal, inBlk_ret, OptK_some, OptH_some, OptS_some, kont_app, ar_nil, ar_guard, ar_mv, ar_pick, ar_new, ar_box, ar_build, ar_buildSl, ar_load, ar_store, ar_nilChk, ar_bin, ar_un, ar_conv, ar_convSB, ar_convBS, ar_mkFunc, ar_mkIface, ar_mkSlice, ar_sl, ar_slStr, ar_fieldA, ar_field, ar_idxA, ar_idxArr, ar_idx, ar_idxS, ar_extract, ar_append, ar_len, ar_call, ar_callv, callvP_func, List.nil_append, List.cons_append, List.append_nil, ar_pf, ar_hf, ar_slA, upO_some, upO_none, sX_t, sX_c, sX_f, sXs, sXO, sXP, fin_t, fin_t2, fin_t3, up_same, up_ne, ne_eq, not_false_eq_true, AVal.bool.injEq, decide_eq_true_eq, decide_eq_false_iff_not, Int.ofNat_eq_natCast, Int.reduceNegSucc, Int.cast_ofNat_Int, reduceCtorEq, bin_lss, bin_leq, bin_gtr, bin_geq, bin_eql, bin_neq, bin_add, bin_sub, bin_mul, Bool.not_eq_true', Bool.not_eq_false', Bool.true_eq_false, Bool.false_eq_true, Nat.reduceEqDiff, ↓reduceIte, if_true, if_false, Nat.reduceAdd, Int.reduceEq, Int.reduceLT, Int.reduceLE]; try rfl, D4⟩ ?_
    rintro q T K ⟨i, hi, hi2, rfl, g1, g7, g8, g11, g12, D⟩
    have ca' := ca.ext D
    by_cases c1 : i < xs.length
    · have c1' : (i : Int) < (xs.length : Int) := by omega
      have hl := ca'.len
      rw [byts_len] at hl
      by_cases c2 : i < 40
      · have c2' : (i : Int) < 40 := by omega
        obtain ⟨b, hb⟩ := isSome_of_lt c1
        have e1 := ca'.idx .i64 (i := i) (by rw [byts_len]; exact c1)
        have e2 := ca'.load (i := i) (byts_get hb)
        have hd : b.toNat % 10 < 10 := by omega
        have hadd := str_add (x := asc (decD W) ++ 46 :: asc ((modD xs).take i)) (y := [UInt8.ofNat (48 + b.toNat % 10)]) (by have := hML i; simp [asc] at this hlw ⊢; omega)
        simp only [pf_min, undef_bool, str_len, str_eql, str_neq, conv_in, un_not, eq_self, decide_true, decide_false, Bool.not_true, Bool.not_false, argE_0, argE_1, argE_2, argE_3, argE_4, aw_skip, aw_reg, aw_seq, aw_cond, aw_block, aw_exit, aw_ret, inSeq_normal, inSeq_exit, inSeq_ret, inBlk_exit, inBlk_normal, inBlk_ret, OptK_some, OptH_some, OptS_some, kont_app, ar_nil, ar_guard, ar_mv, ar_pick, ar_new, ar_box, ar_build, ar_buildSl, ar_load, ar_store, ar_nilChk, ar_bin, ar_un, ar_conv, ar_convSB, ar_convBS, ar_mkFunc, ar_mkIface, ar_mkSlice, ar_sl, ar_slStr, ar_fieldA, ar_field, ar_idxA, ar_idxArr, ar_idx, ar_idxS, ar_extract, ar_append, ar_len, ar_call, ar_callv, callvP_func, List.nil_append, List.cons_append, List.append_nil, ar_pf, ar_hf, ar_slA, upO_some, upO_none, sX_t, sX_c, sX_f, sXs, sXO, sXP, fin_t, fin_t2, fin_t3, up_same, up_ne, ne_eq, not_false_eq_true, AVal.bool.injEq, decide_eq_true_eq, decide_eq_false_iff_not, Int.ofNat_eq_natCast, Int.reduceNegSucc, Int.cast_ofNat_Int, reduceCtorEq, bin_lss, bin_leq, bin_gtr, bin_geq, bin_eql, bin_neq, bin_add, bin_sub, bin_mul, Bool.not_eq_true', Bool.not_eq_false', Bool.true_eq_false, Bool.false_eq_true, Nat.reduceEqDiff, ↓reduceIte, if_true, if_false, Nat.reduceAdd, Int.reduceEq, Int.reduceLT, Int.reduceLE, g1, g7, g8, g11, g12, hl, c1', c2', e1, e2, rem10, add48 _ hd, build1 _ _ (x := .int .u8 ((48 + b.toNat % 10 : Nat) : Int)) rfl, bs_one, hadd, wrap1 i (by omega)]
        refine ⟨_, by omega, i + 1, by omega, by omega, rfl, by trivial, by trivial, by trivial, ?_, rfl, D.push D.next _⟩
        rw [modD_next hb, asc_append]; simp [asc]
      · have c2' : ¬ (i : Int) < 40 := by omega
        simp only [pf_min, undef_bool, str_len, str_eql, str_neq, conv_in, un_not, eq_self, decide_true, decide_false, Bool.not_true, Bool.not_false, argE_0, argE_1, argE_2, argE_3, argE_4, aw_skip, aw_reg, aw_seq, aw_cond, aw_block, aw_exit, aw_ret, inSeq_normal, inSeq_exit, inSeq_ret, inBlk_exit, inBlk_normal, inBlk_ret, OptK_some, OptH_some, OptS_some, kont_app, ar_nil, ar_guard, ar_mv, ar_pick, ar_new, ar_box, ar_build, ar_buildSl, ar_load, ar_store, ar_nilChk, ar_bin, ar_un, ar_conv, ar_convSB, ar_convBS, ar_mkFunc, ar_mkIface, ar_mkSlice, ar_sl, ar_slStr, ar_fieldA, ar_field, ar_idxA, ar_idxArr, ar_idx, ar_idxS, ar_extract, ar_append, ar_len, ar_call, ar_callv, callvP_func, List.nil_append, List.cons_append, List.append_nil, ar_pf, ar_hf, ar_slA, upO_some, upO_none, sX_t, sX_c, sX_f, sXs, sXO, sXP, fin_t, fin_t2, fin_t3, up_same, up_ne, ne_eq, not_false_eq_true, AVal.bool.injEq, decide_eq_true_eq, decide_eq_false_iff_not, Int.ofNat_eq_natCast, Int.reduceNegSucc, Int.cast_ofNat_Int, reduceCtorEq, bin_lss, bin_leq, bin_gtr, bin_geq, bin_eql, bin_neq, bin_add, bin_sub, bin_mul, Bool.not_eq_true', Bool.not_eq_false', Bool.true_eq_false, Bool.false_eq_true, Nat.reduceEqDiff, ↓reduceIte, if_true, if_false, Nat.reduceAdd, Int.reduceEq, Int.reduceLT, Int.reduceLE, g1, g7, g8, g11, g12, hl, c1', c2']
        exact ⟨by trivial, by trivial, by trivial, by rw [take_40 (by rw [modD_len]; exact hi) hi2 (by omega)], D⟩
    · have c1' : ¬ (i : Int) < (xs.length : Int) := by omega
      have hl := ca'.len
      rw [byts_len] at hl
      simp only [pf_min, undef_bool, str_len, str_eql, str_neq, conv_in, un_not, eq_self, decide_true, decide_false, Bool.not_true, Bool.not_false, argE_0, argE_1, argE_2, argE_3, argE_4, aw_skip, aw_reg, aw_seq, aw_cond, aw_block, aw_exit, aw_ret, inSeq_normal, inSeq_exit, inSeq_ret, inBlk_exit, inBlk_normal, inBlk_ret, OptK_some, OptH_some, OptS_some, kont_app, ar_nil, ar_guard, ar_mv, ar_pick, ar_new, ar_box, ar_build, ar_buildSl, ar_load, ar_store, ar_nilChk, ar_bin, ar_un, ar_conv, ar_convSB, ar_convBS, ar_mkFunc, ar_mkIface, ar_mkSlice, ar_sl, ar_slStr, ar_fieldA, ar_field, ar_idxA, ar_idxArr, ar_idx, ar_idxS, ar_extract, ar_append, ar_len, ar_call, ar_callv, callvP_func, List.nil_append, List.cons_append, List.append_nil, ar_pf, ar_hf, ar_slA, upO_some, upO_none, sX_t, sX_c, sX_f, sXs, sXO, sXP, fin_t, fin_t2, fin_t3, up_same, up_ne, ne_eq, not_false_eq_true, AVal.bool.injEq, decide_eq_true_eq, decide_eq_false_iff_not, Int.ofNat_eq_natCast, Int.reduceNegSucc, Int.cast_ofNat_Int, reduceCtorEq, bin_lss, bin_leq, bin_gtr, bin_geq, bin_eql, bin_neq, bin_add, bin_sub, bin_mul, Bool.not_eq_true', Bool.not_eq_false', Bool.true_eq_false, Bool.false_eq_true, Nat.reduceEqDiff, ↓reduceIte, if_true, if_false, Nat.reduceAdd, Int.reduceEq, Int.reduceLT, Int.reduceLE, g1, g7, g8, g11, g12, hl, c1']
      exact ⟨by trivial, by trivial, by trivial, by rw [take_40 (by rw [modD_len]; exact hi) hi2 (by rw [modD_len]; omega)], D⟩
  clear E1 E2 E3 E4 D2 D3 D4 r1 n1 k1 ia ib la lb hadd
  rintro T K ⟨g1, g7, g8, g11, D⟩
  -- the digits, one at the least
  have hE : ∃ E : List Nat, E ≠ [] ∧ (∀ d ∈ E, d ≤ 9) ∧ E.length ≤ 41 ∧ (if xs.length = 0 then asc (decD W) ++ 46 :: asc ((modD xs).take 40) ++ [48] else asc (decD W) ++ 46 :: asc ((modD xs).take 40)) = asc (decD W) ++ 46 :: asc E := by
    by_cases h0 : xs.length = 0
    · have : xs = [] := List.eq_nil_of_length_eq_zero h0
      subst this
      exact ⟨[0], by simp, by simp, by simp, by rw [if_pos h0]; simp [modD, asc]⟩
    · refine ⟨(modD xs).take 40, ?_, fun d hd => modD_le xs d (List.mem_of_mem_take hd), by have := hML 40; omega, by rw [if_neg h0]⟩
      intro h
      have := congrArg List.length h
      rw [List.length_take, modD_len] at this
      simp only [List.length_nil] at this
      omega
  obtain ⟨E, hE1, hE2, hE3, hE4⟩ := hE
  have ca' := ca.ext D
  have hl := ca'.len
  rw [byts_len] at hl
  have hls : (asc (decD W) ++ 46 :: asc E).length ≤ 60 := by simp [asc_len]; rw [asc_len] at hlw; omega
  have second : ∀ {T : Env}, T 1 = .int .u32 (w : Int) → T 8 = B → T 11 = .str (asc (decD W) ++ 46 :: asc E) → wp (ACalls Tryd.prog N) (seq2 (seq2 (seq2 (seq2 (seq2 (seq2 (seq2 c4.body))))))) (fin c4.res fun v H' => v = .bool true ∧ Ext H.next H H') T K := by
    intro T g1 g8 g11
    simp only [seq2, c4, pf_min, undef_bool, str_len, str_eql, str_neq, conv_in, un_not, eq_self, decide_true, decide_false, Bool.not_true, Bool.not_false, argE_0, argE_1, argE_2, argE_3, argE_4, aw_skip, aw_reg, aw_seq, aw_cond, aw_exit, aw_ret, inSeq_normal, inSeq_exit, inSeq_ret, inBlk_exit, inBlk_normal, inBlk_ret, OptK_some, OptH_some, OptS_some, kont_app, ar_nil, ar_guard, ar_mv, ar_pick, ar_new, ar_box, ar_build, ar_buildSl, ar_load, ar_store, ar_nilChk, ar_bin, ar_un, ar_conv, ar_convSB, ar_convBS, ar_mkFunc, ar_mkIface, ar_mkSlice, ar_sl, ar_slStr, ar_fieldA, ar_field, ar_idxA, ar_idxArr, ar_idx, ar_idxS, ar_extract, ar_append, ar_len, ar_call, ar_callv, callvP_func, List.nil_append, List.cons_append, List.append_nil, ar_pf, ar_hf, ar_slA, upO_some, upO_none, sX_t, sX_c, sX_f, sXs, sXO, sXP, fin_t, fin_t2, fin_t3, up_same, up_ne, ne_eq, not_false_eq_true, AVal.bool.injEq, decide_eq_true_eq, decide_eq_false_iff_not, Int.ofNat_eq_natCast, Int.reduceNegSucc, Int.cast_ofNat_Int, reduceCtorEq, bin_lss, bin_leq, bin_gtr, bin_geq, bin_eql, bin_neq, bin_add, bin_sub, bin_mul, Bool.not_eq_true', Bool.not_eq_false', Bool.true_eq_false, Bool.false_eq_true, Nat.reduceEqDiff, ↓reduceIte, if_true, if_false, Nat.reduceAdd, Int.reduceEq, Int.reduceLT, Int.reduceLE, g1, g8, g11]
    rw [aw_block]
    refine aw_cut (fun (T : Env) H' => T 1 = .int .u32 (w : Int) ∧ T 11 = .str (asc (decD W) ++ 46 :: asc E) ∧ T 13 = .str (asc (decD W) ++ 46 :: asc (E ++ (modD ys).take 40)) ∧ Ext H.next H H') (calls_mono _ _) ?_ ?_
    · refine aw_loop (fun q (T : Env) H' => ∃ i : Nat, i ≤ ys.length ∧ i ≤ 40 ∧ q = 40 - i ∧ T 1 = .int .u32 (w : Int) ∧ T 8 = B ∧ T 11 = .str (asc (decD W) ++ 46 :: asc E) ∧ T 13 = .str (asc (decD W) ++ 46 :: asc (E ++ (modD ys).take i)) ∧ T 14 = .int .i64 (i : Int) ∧ Ext H.next H H') 40
        ⟨0, Nat.zero_le _, by omega, rfl, by simp only [pf_min, undef_bool, str_len, str_eql, str_neq, conv_in, un_not, eq_self, decide_true, decide_false, Bool.not_true, Bool.not_false, argE_0, argE_1, argE_2, argE_3, argE_4, aw_skip, aw_reg, aw_seq, aw_cond, aw_block, aw_exit, aw_ret, inSeq_normal, inSeq_exit, inSeq_ret, inBlk_exit, inBlk_normal, inBlk_ret, OptK_some, OptH_some, OptS_some, kont_app, ar_nil, ar_guard, ar_mv, ar_pick, ar_new, ar_box, ar_build, ar_buildSl, ar_load, ar_store, ar_nilChk, ar_bin, ar_un, ar_conv, ar_convSB, ar_convBS, ar_mkFunc, ar_mkIface, ar_mkSlice, ar_sl, ar_slStr, ar_fieldA, ar_field, ar_idxA, ar_idxArr, ar_idx, ar_idxS, ar_extract, ar_append, ar_len, ar_call, ar_callv, callvP_func, List.nil_append, List.cons_append, List.append_nil, ar_pf, ar_hf, ar_slA, upO_some, upO_none, sX_t, sX_c, sX_f, sXs, sXO, sXP, fin_t, fin_t2, fin_t3, up_same, up_ne, ne_eq, not_false_eq_true, AVal.bool.injEq, decide_eq_true_eq, decide_eq_false_iff_not, Int.ofNat_eq_natCast, Int.reduceNegSucc, Int.cast_ofNat_Int, reduceCtorEq, bin_lss, bin_leq, bin_gtr, bin_geq, bin_eql, bin_neq, bin_add, bin_sub, bin_mul, Bool.not_eq_true', Bool.not_eq_false', Bool.true_eq_false, Bool.false_eq_true, Nat.reduceEqDiff, ↓reduceIte, if_true, if_false, Nat.reduceAdd, Int.reduceEq, Int.reduceLT, Int.reduceLE, g1], by simp only [pf_min, undef_bool, str_len, str_eql, str_neq, conv_in, un_not, eq_self, decide_true, decide_false, Bool.not_true, Bool.not_false, argE_0, argE_1, argE_2, argE_3, argE_4, aw_skip, aw_reg, aw_seq, aw_cond, aw_block, aw_exit, aw_ret, inSeq_normal, inSeq_exit, inSeq_ret, inBlk_exit, inBlk_normal, inBlk_ret, OptK_some, OptH_some, OptS_some, kont_app, ar_nil, ar_guard, ar_mv, ar_pick, ar_new, ar_box, ar_build, ar_buildSl, ar_load, ar_store, ar_nilChk, ar_bin, ar_un, ar_conv, ar_convSB, ar_convBS, ar_mkFunc, ar_mkIface, ar_mkSlice, ar_sl, ar_slStr, ar_fieldA, ar_field, ar_idxA, ar_idxArr, ar_idx, ar_idxS, ar_extract, ar_append, ar_len, ar_call, ar_callv, callvP_func, List.nil_append, List.cons_append, List.append_nil, ar_pf, ar_hf, ar_slA, upO_some, upO_none, sX_t, sX_c, sX_f, sXs, sXO, sXP, fin_t, fin_t2, fin_t3, up_same, up_ne, ne_eq, not_false_eq_true, AVal.bool.injEq, decide_eq_true_eq, decide_eq_false_iff_not, Int.ofNat_eq_natCast, Int.reduceNegSucc, Int.cast_ofNat_Int, reduceCtorEq, bin_lss, bin_leq, bin_gtr, bin_geq, bin_eql, bin_neq, bin_add, bin_sub, bin_mul, Bool.not_eq_true', Bool.not_eq_false', Bool.true_eq_false, Bool.false_eq_true, Nat.reduceEqDiff, ↓reduceIte, if_true, if_false, Nat.reduceAdd, Int.reduceEq, Int.reduceLT, Int.reduceLE, g8], by simp only [pf_min, undef_bool, str_len, str_eql, str_neq, conv_in, un_not, eq_self, decide_true, decide_false, Bool.not_true, Bool.not_false, argE_0, argE_1, argE_2, argE_3, argE_4, aw_skip, aw_reg, aw_seq, aw_cond, aw_block, aw_exit, aw_ret, inSeq_normal, inSeq_exit, inSeq_ret, inBlk_exit, inBlk_normal, inBlk_ret, OptK_some, OptH_some, OptS_some, kont_app, ar_nil, ar_guard, ar_mv, ar_pick, ar_new, ar_box, ar_build, ar_buildSl, ar_load, ar_store, ar_nilChk, ar_bin, ar_un, ar_conv, ar_convSB, ar_convBS, ar_mkFunc, ar_mkIface, ar_mkSlice, ar_sl, ar_slStr, ar_fieldA, ar_field, ar_idxA, ar_idxArr, ar_idx, ar_idxS, ar_extract, ar_append, ar_len, ar_call, ar_callv, callvP_func, List.nil_append, List.cons_append, List.append_nil, ar_pf, ar_hf, ar_slA, upO_some, upO_none, sX_t, sX_c, sX_f, sXs, sXO, sXP, fin_t, fin_t2, fin_t3, up_same, up_ne, ne_eq, not_false_eq_true, AVal.bool.injEq, decide_eq_true_eq, decide_eq_false_iff_not, Int.ofNat_eq_natCast, Int.reduceNegSucc, Int.cast_ofNat_Int, reduceCtorEq, bin_lss, bin_leq, bin_gtr, bin_geq, bin_eql, bin_neq, bin_add, bin_sub, bin_mul, Bool.not_eq_true', Bool.not_eq_false', Bool.true_eq_false, Bool.false_eq_true, Nat.reduceEqDiff, ↓reduceIte, if_true, if_false, Nat.reduceAdd, Int.reduceEq, Int.reduceLT, Int.reduceLE, g11], by simp only [pf_min, undef_bool, str_len, str_eql, str_neq, conv_in, un_not, eq_self, decide_true, decide_false, Bool.not_true, Bool.not_false, argE_0, argE_1, argE_2, argE_3, argE_4, aw_skip, aw_reg, aw_seq, aw_cond, aw_block, aw_exit, aw_ret, inSeq_normal, inSeq_exit, inSeq_ret, inBlk_exit, inBlk_normal, inBlk_ret, OptK_some, OptH_some, OptS_some, kont_app, ar_nil, ar_guard, ar_mv, ar_pick, ar_new, ar_box, ar_build, ar_buildSl, ar_load, ar_store, ar_nilChk, ar_bin, ar_un, ar_conv, ar_convSB, ar_convBS, ar_mkFunc, ar_mkIface, ar_mkSlice, ar_sl, ar_slStr, ar_fieldA, ar_field, ar_idxA, ar_idxArr, ar_idx, ar_idxS, ar_extract, ar_append, ar_len, ar_call, ar_callv, callvP_func, List.nil_append, List.cons_append, List.append_nil, ar_pf, ar_hf, ar_slA, upO_some, upO_none, sX_t, sX_c, sX_f, sXs, sXO, sXP, fin_t, fin_t2, fin_t3, up_same, up_ne, ne_eq, not_false_eq_true, AVal.bool.injEq, decide_eq_true_eq, decide_eq_false_iff_not, Int.ofNat_eq_natCast, Int.reduceNegSucc, Int.cast_ofNat_Int, reduceCtorEq, bin_lss, bin_leq, bin_gtr, bin_geq, bin_eql, bin_neq, bin_add, bin_sub, bin_mul, Bool.not_eq_true', Bool.not_eq_false', Bool.true_eq_false, Bool.false_eq_true, Nat.reduceEqDiff, ↓reduceIte, if_true, if_false, Nat.reduceAdd, Int.reduceEq, Int.reduceLT, Int.reduceLE, List.take_zero], by simp only [pf_min, undef_bool, str_len, str_eql, str_neq, conv_in, un_not, eq_self, decide_true, decide_false, Bool.not_true, Bool.not_false, argE_0, argE_1, argE_2, argE_3, argE_4, aw_skip, aw_reg, aw_seq, aw_cond, aw_block, aw_exit, aw_ret, inSeq_normal, inSeq_exit, inSeq_ret, inBlk_exit, inBlk_normal, inBlk_ret, OptK_some, OptH_some, OptS_some, kont_app, ar_nil, ar_guard, ar_mv, ar_pick, ar_new, ar_box, ar_build, ar_buildSl, ar_load, ar_store, ar_nilChk, ar_bin, ar_un, ar_conv, ar_convSB, ar_convBS, ar_mkFunc, ar_mkIface, ar_mkSlice, ar_sl, ar_slStr, ar_fieldA, ar_field, ar_idxA, ar_idxArr, ar_idx, ar_idxS, ar_extract, ar_append, ar_len, ar_call, ar_callv, callvP_func, List.nil_append, List.cons_append, List.append_nil, ar_pf, ar_hf, ar_slA, upO_some, upO_none, sX_t, sX_c, sX_f, sXs, sXO, sXP, fin_t, fin_t2, fin_t3, up_same, up_ne, ne_eq, not_false_eq_true, AVal.bool.injEq, decide_eq_true_eq, decide_eq_false_iff_not, Int.ofNat_eq_natCast, Int.reduceNegSucc, Int.cast_ofNat_Int, reduceCtorEq, bin_lss, bin_leq, bin_gtr, bin_geq, bin_eql, bin_neq, bin_add, bin_sub, bin_mul, Bool.not_eq_true', Bool.not_eq_false', Bool.true_eq_false, Bool.false_eq_true, Nat.reduceEqDiff, ↓reduceIte, if_true, if_false, Nat.reduceAdd, Int.reduceEq, Int.reduceLT, Int.reduceLE]; try rfl, D⟩ ?_
      clear D ca' hl g1 g8 g11
      rintro q T K ⟨i, hi, hi2, rfl, g1, g8, g11, g13, g14, D⟩
      have cb' := cb.ext D
      have hl := cb'.len
      rw [byts_len] at hl
      by_cases c1 : i < ys.length
      · have c1' : (i : Int) < (ys.length : Int) := by omega
        by_cases c2 : i < 40
        · have c2' : (i : Int) < 40 := by omega
          obtain ⟨b, hb⟩ := isSome_of_lt c1
          have e1 := cb'.idx .i64 (i := i) (by rw [byts_len]; exact c1)
          have e2 := cb'.load (i := i) (byts_get hb)
          have hd : b.toNat % 10 < 10 := by omega
          have hadd := str_add (x := asc (decD W) ++ 46 :: asc (E ++ (modD ys).take i)) (y := [UInt8.ofNat (48 + b.toNat % 10)]) (by simp [asc_len, asc_append]; rw [asc_len] at hlw; omega)
          simp only [pf_min, undef_bool, str_len, str_eql, str_neq, conv_in, un_not, eq_self, decide_true, decide_false, Bool.not_true, Bool.not_false, argE_0, argE_1, argE_2, argE_3, argE_4, aw_skip, aw_reg, aw_seq, aw_cond, aw_block, aw_exit, aw_ret, inSeq_normal, inSeq_exit, inSeq_ret, inBlk_exit, inBlk_normal, inBlk_ret, OptK_some, OptH_some, OptS_some, kont_app, ar_nil, ar_guard, ar_mv, ar_pick, ar_new, ar_box, ar_build, ar_buildSl, ar_load, ar_store, ar_nilChk, ar_bin, ar_un, ar_conv, ar_convSB, ar_convBS, ar_mkFunc, ar_mkIface, ar_mkSlice, ar_sl, ar_slStr, ar_fieldA, ar_field, ar_idxA, ar_idxArr, ar_idx, ar_idxS, ar_extract, ar_append, ar_len, ar_call, ar_callv, callvP_func, List.nil_append, List.cons_append, List.append_nil, ar_pf, ar_hf, ar_slA, upO_some, upO_none, sX_t, sX_c, sX_f, sXs, sXO, sXP, fin_t, fin_t2, fin_t3, up_same, up_ne, ne_eq, not_false_eq_true, AVal.bool.injEq, decide_eq_true_eq, decide_eq_false_iff_not, Int.ofNat_eq_natCast, Int.reduceNegSucc, Int.cast_ofNat_Int, reduceCtorEq, bin_lss, bin_leq, bin_gtr, bin_geq, bin_eql, bin_neq, bin_add, bin_sub, bin_mul, Bool.not_eq_true', Bool.not_eq_false', Bool.true_eq_false, Bool.false_eq_true, Nat.reduceEqDiff, ↓reduceIte, if_true, if_false, Nat.reduceAdd, Int.reduceEq, Int.reduceLT, Int.reduceLE, g1, g8, g11, g13, g14, hl, c1', c2', e1, e2, rem10, add48 _ hd, build1 _ _ (x := .int .u8 ((48 + b.toNat % 10 : Nat) : Int)) rfl, bs_one, hadd, wrap1 i (by omega)]
          refine ⟨_, by omega, i + 1, by omega, by omega, rfl, by trivial, by trivial, by trivial, ?_, rfl, D.push D.next _⟩
          rw [modD_next hb]; simp [asc]
        · have c2' : ¬ (i : Int) < 40 := by omega
          simp only [pf_min, undef_bool, str_len, str_eql, str_neq, conv_in, un_not, eq_self, decide_true, decide_false, Bool.not_true, Bool.not_false, argE_0, argE_1, argE_2, argE_3, argE_4, aw_skip, aw_reg, aw_seq, aw_cond, aw_block, aw_exit, aw_ret, inSeq_normal, inSeq_exit, inSeq_ret, inBlk_exit, inBlk_normal, inBlk_ret, OptK_some, OptH_some, OptS_some, kont_app, ar_nil, ar_guard, ar_mv, ar_pick, ar_new, ar_box, ar_build, ar_buildSl, ar_load, ar_store, ar_nilChk, ar_bin, ar_un, ar_conv, ar_convSB, ar_convBS, ar_mkFunc, ar_mkIface, ar_mkSlice, ar_sl, ar_slStr, ar_fieldA, ar_field, ar_idxA, ar_idxArr, ar_idx, ar_idxS, ar_extract, ar_append, ar_len, ar_call, ar_callv, callvP_func, List.nil_append, List.cons_append, List.append_nil, ar_pf, ar_hf, ar_slA, upO_some, upO_none, sX_t, sX_c, sX_f, sXs, sXO, sXP, fin_t, fin_t2, fin_t3, up_same, up_ne, ne_eq, not_false_eq_true, AVal.bool.injEq, decide_eq_true_eq, decide_eq_false_iff_not, Int.ofNat_eq_natCast, Int.reduceNegSucc, Int.cast_ofNat_Int, reduceCtorEq, bin_lss, bin_leq, bin_gtr, bin_geq, bin_eql, bin_neq, bin_add, bin_sub, bin_mul, Bool.not_eq_true', Bool.not_eq_false', Bool.true_eq_false, Bool.false_eq_true, Nat.reduceEqDiff, ↓reduceIte, if_true, if_false, Nat.reduceAdd, Int.reduceEq, Int.reduceLT, Int.reduceLE, g1, g8, g11, g13, g14, hl, c1', c2']
          exact ⟨by trivial, by trivial, by rw [take_40 (by rw [modD_len]; exact hi) hi2 (by omega)], D⟩
      · have c1' : ¬ (i : Int) < (ys.length : Int) := by omega
        simp only [pf_min, undef_bool, str_len, str_eql, str_neq, conv_in, un_not, eq_self, decide_true, decide_false, Bool.not_true, Bool.not_false, argE_0, argE_1, argE_2, argE_3, argE_4, aw_skip, aw_reg, aw_seq, aw_cond, aw_block, aw_exit, aw_ret, inSeq_normal, inSeq_exit, inSeq_ret, inBlk_exit, inBlk_normal, inBlk_ret, OptK_some, OptH_some, OptS_some, kont_app, ar_nil, ar_guard, ar_mv, ar_pick, ar_new, ar_box, ar_build, ar_buildSl, ar_load, ar_store, ar_nilChk, ar_bin, ar_un, ar_conv, ar_convSB, ar_convBS, ar_mkFunc, ar_mkIface, ar_mkSlice, ar_sl, ar_slStr, ar_fieldA, ar_field, ar_idxA, ar_idxArr, ar_idx, ar_idxS, ar_extract, ar_append, ar_len, ar_call, ar_callv, callvP_func, List.nil_append, List.cons_append, List.append_nil, ar_pf, ar_hf, ar_slA, upO_some, upO_none, sX_t, sX_c, sX_f, sXs, sXO, sXP, fin_t, fin_t2, fin_t3, up_same, up_ne, ne_eq, not_false_eq_true, AVal.bool.injEq, decide_eq_true_eq, decide_eq_false_iff_not, Int.ofNat_eq_natCast, Int.reduceNegSucc, Int.cast_ofNat_Int, reduceCtorEq, bin_lss, bin_leq, bin_gtr, bin_geq, bin_eql, bin_neq, bin_add, bin_sub, bin_mul, Bool.not_eq_true', Bool.not_eq_false', Bool.true_eq_false, Bool.false_eq_true, Nat.reduceEqDiff, ↓reduceIte, if_true, if_false, Nat.reduceAdd, Int.reduceEq, Int.reduceLT, Int.reduceLE, g1, g8, g11, g13, g14, hl, c1']
        exact ⟨by trivial, by trivial, by rw [take_40 (by rw [modD_len]; exact hi) hi2 (by rw [modD_len]; omega)], D⟩
    clear D ca' hl g1 g8 g11 T K
    rintro T K ⟨g1, g11, g13, D⟩
    have hM : ∀ d ∈ E ++ (modD ys).take 40, d ≤ 9 := fun d hd => by
      rcases List.mem_append.1 hd with h | h
      · exact hE2 d h
      · exact modD_le ys d (List.mem_of_mem_take h)
    have hv : valN (decD W) < 2147483648 := by rw [decD_val]; exact hW
    have s1 := says_point (decD_dig W) hE2 (decD_ne W) hE1 hv
    have s2 := says_point (es := E ++ (modD ys).take 40) (decD_dig W) hM (decD_ne W) (by intro h; exact hE1 (List.append_eq_nil_iff.1 h).1) hv
    rw [decD_val] at s1 s2
    have f1 := frac_lt hE2
    have f2 := frac_lt hM
    have f3 := frac_le E ((modD ys).take 40)
    have hls2 : (asc (decD W) ++ 46 :: asc (E ++ (modD ys).take 40)).length ≤ 120 := by
      simp [asc_len]; rw [asc_len] at hlw; omega
    simp only [pf_min, undef_bool, str_len, str_eql, str_neq, conv_in, un_not, eq_self, decide_true, decide_false, Bool.not_true, Bool.not_false, argE_0, argE_1, argE_2, argE_3, argE_4, aw_skip, aw_reg, aw_seq, aw_cond, aw_block, aw_exit, aw_ret, inSeq_normal, inSeq_exit, inSeq_ret, inBlk_exit, inBlk_normal, inBlk_ret, OptK_some, OptH_some, OptS_some, kont_app, ar_nil, ar_guard, ar_mv, ar_pick, ar_new, ar_box, ar_build, ar_buildSl, ar_load, ar_store, ar_nilChk, ar_bin, ar_un, ar_conv, ar_convSB, ar_convBS, ar_mkFunc, ar_mkIface, ar_mkSlice, ar_sl, ar_slStr, ar_fieldA, ar_field, ar_idxA, ar_idxArr, ar_idx, ar_idxS, ar_extract, ar_append, ar_len, ar_call, ar_callv, callvP_func, List.nil_append, List.cons_append, List.append_nil, ar_pf, ar_hf, ar_slA, upO_some, upO_none, sX_t, sX_c, sX_f, sXs, sXO, sXP, fin_t, fin_t2, fin_t3, up_same, up_ne, ne_eq, not_false_eq_true, AVal.bool.injEq, decide_eq_true_eq, decide_eq_false_iff_not, Int.ofNat_eq_natCast, Int.reduceNegSucc, Int.cast_ofNat_Int, reduceCtorEq, bin_lss, bin_leq, bin_gtr, bin_geq, bin_eql, bin_neq, bin_add, bin_sub, bin_mul, Bool.not_eq_true', Bool.not_eq_false', Bool.true_eq_false, Bool.false_eq_true, Nat.reduceEqDiff, ↓reduceIte, if_true, if_false, Nat.reduceAdd, Int.reduceEq, Int.reduceLT, Int.reduceLE, g1, g11, g13]
    refine (num (by omega)).mono ?_
    rintro v K1 ⟨rfl, E1⟩
    have D1 := D.trans (E1.less D.next)
    rw [s1]
    simp only [told, pf_min, undef_bool, str_len, str_eql, str_neq, conv_in, un_not, eq_self, decide_true, decide_false, Bool.not_true, Bool.not_false, argE_0, argE_1, argE_2, argE_3, argE_4, aw_skip, aw_reg, aw_seq, aw_cond, aw_block, aw_exit, aw_ret, inSeq_normal, inSeq_exit, inSeq_ret, inBlk_exit, inBlk_normal, inBlk_ret, OptK_some, OptH_some, OptS_some, kont_app, ar_nil, ar_guard, ar_mv, ar_pick, ar_new, ar_box, ar_build, ar_buildSl, ar_load, ar_store, ar_nilChk, ar_bin, ar_un, ar_conv, ar_convSB, ar_convBS, ar_mkFunc, ar_mkIface, ar_mkSlice, ar_sl, ar_slStr, ar_fieldA, ar_field, ar_idxA, ar_idxArr, ar_idx, ar_idxS, ar_extract, ar_append, ar_len, ar_call, ar_callv, callvP_func, List.nil_append, List.cons_append, List.append_nil, ar_pf, ar_hf, ar_slA, upO_some, upO_none, sX_t, sX_c, sX_f, sXs, sXO, sXP, fin_t, fin_t2, fin_t3, up_same, up_ne, ne_eq, not_false_eq_true, AVal.bool.injEq, decide_eq_true_eq, decide_eq_false_iff_not, Int.ofNat_eq_natCast, Int.reduceNegSucc, Int.cast_ofNat_Int, reduceCtorEq, bin_lss, bin_leq, bin_gtr, bin_geq, bin_eql, bin_neq, bin_add, bin_sub, bin_mul, Bool.not_eq_true', Bool.not_eq_false', Bool.true_eq_false, Bool.false_eq_true, Nat.reduceEqDiff, ↓reduceIte, if_true, if_false, Nat.reduceAdd, Int.reduceEq, Int.reduceLT, Int.reduceLE, g1, g11, g13, ext_0, ext_1]
    refine (num (by omega)).mono ?_
    rintro v K2 ⟨rfl, E2⟩
    have D2 := D1.trans (E2.less D1.next)
    rw [s2]
    generalize frac (E ++ (modD ys).take 40) = y at *
    generalize frac E = x at *
    have hle : ((W * 2 ^ 32 + x : Nat) : Int) ≤ ((W * 2 ^ 32 + y : Nat) : Int) := by omega
    have t1 := shrN .i64 .u64 (W * 2 ^ 32 + x) (b := 32) (by decide)
    have t2 := shrN .i64 .u64 (W * 2 ^ 32 + y) (b := 32) (by decide)
    have t3 : (W * 2 ^ 32 + x) / 2 ^ 32 = W := by omega
    have t4 : (W * 2 ^ 32 + y) / 2 ^ 32 = W := by omega
    rw [t3] at t1
    rw [t4] at t2
    have q1 := shrN .u32 .u64 w (b := 1) (by decide)
    rw [hWd] at q1
    have q2 : IntKind.i64.wrap (W : Int) = (W : Int) := wrap64 (by omega) (by omega)
    simp only [Int.cast_ofNat_Int] at q1 t1 t2
    simp only [told, pf_min, undef_bool, str_len, str_eql, str_neq, conv_in, un_not, eq_self, decide_true, decide_false, Bool.not_true, Bool.not_false, argE_0, argE_1, argE_2, argE_3, argE_4, aw_skip, aw_reg, aw_seq, aw_cond, aw_block, aw_exit, aw_ret, inSeq_normal, inSeq_exit, inSeq_ret, inBlk_exit, inBlk_normal, inBlk_ret, OptK_some, OptH_some, OptS_some, kont_app, ar_nil, ar_guard, ar_mv, ar_pick, ar_new, ar_box, ar_build, ar_buildSl, ar_load, ar_store, ar_nilChk, ar_bin, ar_un, ar_conv, ar_convSB, ar_convBS, ar_mkFunc, ar_mkIface, ar_mkSlice, ar_sl, ar_slStr, ar_fieldA, ar_field, ar_idxA, ar_idxArr, ar_idx, ar_idxS, ar_extract, ar_append, ar_len, ar_call, ar_callv, callvP_func, List.nil_append, List.cons_append, List.append_nil, ar_pf, ar_hf, ar_slA, upO_some, upO_none, sX_t, sX_c, sX_f, sXs, sXO, sXP, fin_t, fin_t2, fin_t3, up_same, up_ne, ne_eq, not_false_eq_true, AVal.bool.injEq, decide_eq_true_eq, decide_eq_false_iff_not, Int.ofNat_eq_natCast, Int.reduceNegSucc, Int.cast_ofNat_Int, reduceCtorEq, bin_lss, bin_leq, bin_gtr, bin_geq, bin_eql, bin_neq, bin_add, bin_sub, bin_mul, Bool.not_eq_true', Bool.not_eq_false', Bool.true_eq_false, Bool.false_eq_true, Nat.reduceEqDiff, ↓reduceIte, if_true, if_false, Nat.reduceAdd, Int.reduceEq, Int.reduceLT, Int.reduceLE, g1, g11, g13, ext_0, ext_1, hle, t1, t2, q1, q2]
    refine (awake_spec hN (by have := D2.next; omega) (G.ext hn D2)).mono ?_
    rintro v K3 ⟨rfl, E3⟩
    simp only [pf_min, undef_bool, str_len, str_eql, str_neq, conv_in, un_not, eq_self, decide_true, decide_false, Bool.not_true, Bool.not_false, argE_0, argE_1, argE_2, argE_3, argE_4, aw_skip, aw_reg, aw_seq, aw_cond, aw_block, aw_exit, aw_ret, inSeq_normal, inSeq_exit, inSeq_ret, inBlk_exit, inBlk_normal, inBlk_ret, OptK_some, OptH_some, OptS_some, kont_app, ar_nil, ar_guard, ar_mv, ar_pick, ar_new, ar_box, ar_build, ar_buildSl, ar_load, ar_store, ar_nilChk, ar_bin, ar_un, ar_conv, ar_convSB, ar_convBS, ar_mkFunc, ar_mkIface, ar_mkSlice, ar_sl, ar_slStr, ar_fieldA, ar_field, ar_idxA, ar_idxArr, ar_idx, ar_idxS, ar_extract, ar_append, ar_len, ar_call, ar_callv, callvP_func, List.nil_append, List.cons_append, List.append_nil, ar_pf, ar_hf, ar_slA, upO_some, upO_none, sX_t, sX_c, sX_f, sXs, sXO, sXP, fin_t, fin_t2, fin_t3, up_same, up_ne, ne_eq, not_false_eq_true, AVal.bool.injEq, decide_eq_true_eq, decide_eq_false_iff_not, Int.ofNat_eq_natCast, Int.reduceNegSucc, Int.cast_ofNat_Int, reduceCtorEq, bin_lss, bin_leq, bin_gtr, bin_geq, bin_eql, bin_neq, bin_add, bin_sub, bin_mul, Bool.not_eq_true', Bool.not_eq_false', Bool.true_eq_false, Bool.false_eq_true, Nat.reduceEqDiff, ↓reduceIte, if_true, if_false, Nat.reduceAdd, Int.reduceEq, Int.reduceLT, Int.reduceLE]
    exact ⟨by trivial, D2.trans (E3.less D2.next)⟩
  show wp _ (match seq2 (seq2 (seq2 (seq2 (seq2 (seq2 c4.body))))) with | .seq a _ => ACode.seq a (seq2 (seq2 (seq2 (seq2 (seq2 (seq2 (seq2 c4.body))))))) | x => x) _ _ _
  have sec : ∀ {T : Env}, T 1 = .int .u32 (w : Int) → T 8 = B → T 11 = .str (asc (decD W) ++ 46 :: asc E) → wp (ACalls Tryd.prog N) (seq2 (seq2 (seq2 (seq2 (seq2 (seq2 (seq2 c4.body))))))) (fin c4.res fun v H' => v = .bool true ∧ Ext H.next H H') T K := second
  clear second
  generalize seq2 (seq2 (seq2 (seq2 (seq2 (seq2 (seq2 c4.body)))))) = rest at *
  by_cases h0 : xs.length = 0
  · have h0' : (xs.length : Int) = 0 := by omega
    rw [if_pos h0] at hE4
    have hadd := str_add (x := asc (decD W) ++ 46 :: asc ((modD xs).take 40)) (y := [48]) (by have := hML 40; simp [asc_len]; rw [asc_len] at hlw; omega)
    simp only [seq2, c4, pf_min, undef_bool, str_len, str_eql, str_neq, conv_in, un_not, eq_self, decide_true, decide_false, Bool.not_true, Bool.not_false, argE_0, argE_1, argE_2, argE_3, argE_4, aw_skip, aw_reg, aw_seq, aw_cond, aw_block, aw_exit, aw_ret, inSeq_normal, inSeq_exit, inSeq_ret, inBlk_exit, inBlk_normal, inBlk_ret, OptK_some, OptH_some, OptS_some, kont_app, ar_nil, ar_guard, ar_mv, ar_pick, ar_new, ar_box, ar_build, ar_buildSl, ar_load, ar_store, ar_nilChk, ar_bin, ar_un, ar_conv, ar_convSB, ar_convBS, ar_mkFunc, ar_mkIface, ar_mkSlice, ar_sl, ar_slStr, ar_fieldA, ar_field, ar_idxA, ar_idxArr, ar_idx, ar_idxS, ar_extract, ar_append, ar_len, ar_call, ar_callv, callvP_func, List.nil_append, List.cons_append, List.append_nil, ar_pf, ar_hf, ar_slA, upO_some, upO_none, sX_t, sX_c, sX_f, sXs, sXO, sXP, fin_t, fin_t2, fin_t3, up_same, up_ne, ne_eq, not_false_eq_true, AVal.bool.injEq, decide_eq_true_eq, decide_eq_false_iff_not, Int.ofNat_eq_natCast, Int.reduceNegSucc, Int.cast_ofNat_Int, reduceCtorEq, bin_lss, bin_leq, bin_gtr, bin_geq, bin_eql, bin_neq, bin_add, bin_sub, bin_mul, Bool.not_eq_true', Bool.not_eq_false', Bool.true_eq_false, Bool.false_eq_true, Nat.reduceEqDiff, ↓reduceIte, if_true, if_false, Nat.reduceAdd, Int.reduceEq, Int.reduceLT, Int.reduceLE, g1, g7, g8, g11, hl, h0', hadd]
    refine sec ?_ ?_ ?_ <;> simp only [pf_min, undef_bool, str_len, str_eql, str_neq, conv_in, un_not, eq_self, decide_true, decide_false, Bool.not_true, Bool.not_false, argE_0, argE_1, argE_2, argE_3, argE_4, aw_skip, aw_reg, aw_seq, aw_cond, aw_block, aw_exit, aw_ret, inSeq_normal, inSeq_exit, inSeq_ret, inBlk_exit, inBlk_normal, inBlk_ret, OptK_some, OptH_some, OptS_some, kont_app, ar_nil, ar_guard, ar_mv, ar_pick, ar_new, ar_box, ar_build, ar_buildSl, ar_load, ar_store, ar_nilChk, ar_bin, ar_un, ar_conv, ar_convSB, ar_convBS, ar_mkFunc, ar_mkIface, ar_mkSlice, ar_sl, ar_slStr, ar_fieldA, ar_field, ar_idxA, ar_idxArr, ar_idx, ar_idxS, ar_extract, ar_append, ar_len, ar_call, ar_callv, callvP_func, List.nil_append, List.cons_append, List.append_nil, ar_pf, ar_hf, ar_slA, upO_some, upO_none, sX_t, sX_c, sX_f, sXs, sXO, sXP, fin_t, fin_t2, fin_t3, up_same, up_ne, ne_eq, not_false_eq_true, AVal.bool.injEq, decide_eq_true_eq, decide_eq_false_iff_not, Int.ofNat_eq_natCast, Int.reduceNegSucc, Int.cast_ofNat_Int, reduceCtorEq, bin_lss, bin_leq, bin_gtr, bin_geq, bin_eql, bin_neq, bin_add, bin_sub, bin_mul, Bool.not_eq_true', Bool.not_eq_false', Bool.true_eq_false, Bool.false_eq_true, Nat.reduceEqDiff, ↓reduceIte, if_true, if_false, Nat.reduceAdd, Int.reduceEq, Int.reduceLT, Int.reduceLE, g1, g8, hE4]
  · have h0' : ¬ (xs.length : Int) = 0 := by omega
    rw [if_neg h0] at hE4
    simp only [seq2, c4, pf_min, undef_bool, str_len, str_eql, str_neq, conv_in, un_not, eq_self, decide_true, decide_false, Bool.not_true, Bool.not_false, argE_0, argE_1, argE_2, argE_3, argE_4, aw_skip, aw_reg, aw_seq, aw_cond, aw_block, aw_exit, aw_ret, inSeq_normal, inSeq_exit, inSeq_ret, inBlk_exit, inBlk_normal, inBlk_ret, OptK_some, OptH_some, OptS_some, kont_app, ar_nil, ar_guard, ar_mv, ar_pick, ar_new, ar_box, ar_build, ar_buildSl, ar_load, ar_store, ar_nilChk, ar_bin, ar_un, ar_conv, ar_convSB, ar_convBS, ar_mkFunc, ar_mkIface, ar_mkSlice, ar_sl, ar_slStr, ar_fieldA, ar_field, ar_idxA, ar_idxArr, ar_idx, ar_idxS, ar_extract, ar_append, ar_len, ar_call, ar_callv, callvP_func, List.nil_append, List.cons_append, List.append_nil, ar_pf, ar_hf, ar_slA, upO_some, upO_none, sX_t, sX_c, sX_f, sXs, sXO, sXP, fin_t, fin_t2, fin_t3, up_same, up_ne, ne_eq, not_false_eq_true, AVal.bool.injEq, decide_eq_true_eq, decide_eq_false_iff_not, Int.ofNat_eq_natCast, Int.reduceNegSucc, Int.cast_ofNat_Int, reduceCtorEq, bin_lss, bin_leq, bin_gtr, bin_geq, bin_eql, bin_neq, bin_add, bin_sub, bin_mul, Bool.not_eq_true', Bool.not_eq_false', Bool.true_eq_false, Bool.false_eq_true, Nat.reduceEqDiff, ↓reduceIte, if_true, if_false, Nat.reduceAdd, Int.reduceEq, Int.reduceLT, Int.reduceLE, g1, g7, g8, g11, hl, h0']
    refine sec ?_ ?_ ?_ <;> simp only [pf_min, undef_bool, str_len, str_eql, str_neq, conv_in, un_not, eq_self, decide_true, decide_false, Bool.not_true, Bool.not_false, argE_0, argE_1, argE_2, argE_3, argE_4, aw_skip, aw_reg, aw_seq, aw_cond, aw_block, aw_exit, aw_ret, inSeq_normal, inSeq_exit, inSeq_ret, inBlk_exit, inBlk_normal, inBlk_ret, OptK_some, OptH_some, OptS_some, kont_app, ar_nil, ar_guard, ar_mv, ar_pick, ar_new, ar_box, ar_build, ar_buildSl, ar_load, ar_store, ar_nilChk, ar_bin, ar_un, ar_conv, ar_convSB, ar_convBS, ar_mkFunc, ar_mkIface, ar_mkSlice, ar_sl, ar_slStr, ar_fieldA, ar_field, ar_idxA, ar_idxArr, ar_idx, ar_idxS, ar_extract, ar_append, ar_len, ar_call, ar_callv, callvP_func, List.nil_append, List.cons_append, List.append_nil, ar_pf, ar_hf, ar_slA, upO_some, upO_none, sX_t, sX_c, sX_f, sXs, sXO, sXP, fin_t, fin_t2, fin_t3, up_same, up_ne, ne_eq, not_false_eq_true, AVal.bool.injEq, decide_eq_true_eq, decide_eq_false_iff_not, Int.ofNat_eq_natCast, Int.reduceNegSucc, Int.cast_ofNat_Int, reduceCtorEq, bin_lss, bin_leq, bin_gtr, bin_geq, bin_eql, bin_neq, bin_add, bin_sub, bin_mul, Bool.not_eq_true', Bool.not_eq_false', Bool.true_eq_false, Bool.false_eq_true, Nat.reduceEqDiff, ↓reduceIte, if_true, if_false, Nat.reduceAdd, Int.reduceEq, Int.reduceLT, Int.reduceLE, g1, g8, g11, hE4]
end Go.Proofs.Wo
/-
  DERIVED: THE SHELF's CONTRACTS AT THIS DUMP, IN PLAIN WORDS (tools/lay-plain.mjs out of 'XxWCl.lean', which tools/lay-shelf.mjs wrote): THE SAME DECLARATIONS UNDER THE SAME NAMES: 'import', 'namespace', 'open', 'def', 'theorem' AND NOTHING ELSE: no command of the shelf's: FOR A HAND-IN. Each laying: the table of numbers ('.._ren') and one theorem, a field a fact of the dump's own or the kernel's comparison; each contract: ONE APPLICATION.
-/
namespace Go.Proofs
open Go.Shelf
def Tryd.laysM316_ren : Go.Shelf.Ren := ⟨fun | 316 => 50 | n => n, fun | 9 => 9 | 3 => 3 | 4 => 4 | 37 => 36 | 0 => 0 | 127 => 109 | 5 => 5 | n => n, fun | n => n⟩
theorem Tryd.laysM316 : Go.Proofs.LaysM.n316 Tryd.prog Tryd.laysM316_ren := {
  mixed := by kernel_rfl
  f316 := Tryd.func50.trans (congrArg some (by kernel_rfl))
  t0 := Tryd.underlying0
  a0 := Tryd.isAgg0
  z0 := Tryd.sizeOf0
  v0 := Tryd.zeroValue0
  t3 := Tryd.underlying3
  a3 := Tryd.isAgg3
  z3 := Tryd.sizeOf3
  v3 := Tryd.zeroValue3
  t4 := Tryd.underlying4
  a4 := Tryd.isAgg4
  z4 := Tryd.sizeOf4
  v4 := Tryd.zeroValue4
  t9 := Tryd.underlying9
  a9 := Tryd.isAgg9
  z9 := Tryd.sizeOf9
  v9 := Tryd.zeroValue9
  t37 := Tryd.underlying36
  a37 := Tryd.isAgg36
  z37 := Tryd.sizeOf36
  v37 := Tryd.zeroValue36
  t127 := Tryd.underlying109
  a127 := Tryd.isAgg109
  z127 := Tryd.sizeOf109
  v127 := Tryd.zeroValue109
  t5 := Tryd.underlying5
  a5 := Tryd.isAgg5
  z5 := Tryd.sizeOf5
  v5 := Tryd.zeroValue5
  i0 := by kernel_rfl
  i3 := by kernel_rfl
  i4 := by kernel_rfl
  i5 := by kernel_rfl
  i9 := by kernel_rfl
  i37 := by kernel_rfl
  i127 := by kernel_rfl }
open Go.RowKit in
/-- internal/stringslite.Clone -/
theorem Tryd.stringslite_Clone (s : ByteArray) (w : World) (hlim : s.size ≤ 281474976710656) :
    Calls Tryd.prog 50 #[.string s] w fun e w' => e = .returned (.string s) ∧ Below w.heap.size w w' := Any.stringslite_Clone Tryd.laysM316 s w hlim
end Go.Proofs
/- The copy of a text, given to the machine. Plain Lean. -/
namespace Go.Proofs.Wo
open Go.Abs Go.Abs.S
def aClone (H : AHeap) : List AVal → Option (AVal × AHeap)
  | [.str s] => bif Nat.ble s.length 281474976710656 then some (.str s, H) else none
  | _ => none
def nat : ANat := ⟨fun f => Nat.beq f 50, fun f args H => bif Nat.beq f 50 then aClone H args else none⟩
theorem nat_ok : NatOK Tryd.prog nat := by
  refine ⟨fun f h => ?_, fun f args H v H' hr Prot w0 ρ w vs R hv => ?_⟩
  · obtain rfl : f = 50 := Nat.eq_of_beq_eq_true h
    kernel_rfl
  · show Calls Tryd.prog f vs w _
    have hr2 : (bif Nat.beq f 50 then aClone H args else none) = some (v, H') := hr
    cases hb : Nat.beq f 50 with
    | false => rw [hb] at hr2; simp at hr2
    | true =>
      obtain rfl : f = 50 := Nat.eq_of_beq_eq_true hb
      rw [hb, cond_true] at hr2
      unfold aClone at hr2
      split at hr2 <;> first | (simp at hr2; done) | skip
      rename_i s
      cases hl : Nat.ble s.length 281474976710656 with
      | false => rw [hl] at hr2; simp at hr2
      | true =>
        rw [hl] at hr2
        simp only [cond_true, Option.some.injEq, Prod.mk.injEq] at hr2
        obtain ⟨rfl, rfl⟩ := hr2
        simp only [VRels, VRel] at hv
        obtain ⟨v1, r1, e1, rfl, rfl⟩ := hv
        have hvs : vs = #[.string (strOf s)] := Array.toList_inj.1 (by simpa using e1)
        subst hvs
        have hsz : (strOf s).size = s.length := by simp [strOf, ByteArray.size]
        have := Nat.le_of_ble_eq_true hl
        exact (Tryd.stringslite_Clone (strOf s) w (by rw [hsz]; exact this)).mono fun e w' ⟨he, hk⟩ => ⟨ρ, _, Pl.le_refl _, he, R.keep hk, by simp only [VRel]⟩
theorem nat_wo : NWo nat := by
  refine ⟨fun f h => ?_, rfl, fun s H hs => ?_⟩
  · show Nat.beq f 50 = false
    rw [beq_dec]; exact decide_eq_false h
  · show (bif Nat.beq 50 50 then aClone H [.str s] else none) = _
    have : Nat.beq 50 50 = true := rfl
    rw [this, cond_true]
    simp only [aClone, Nat.ble_eq_true_of_le hs, cond_true]
end Go.Proofs.Wo
/- A law that returns true and turns nothing that was there: its row's post holds, whatever its arguments are. -/
namespace Go.Abs
open Go.ChangeShapes Go.WideShapes Go.ChangeAt Go.RowKit
section
variable {H : Type} {enc : TypeId × Value → H} {P : Program}
theorem trodAll_below {W W' : World} {base : Nat} {sp : Nat → Bool} {held : Bool} (hb : Below W.heap.size W W') : ∀ {ts : List TypeId} {vs : List Value} {ds : List (DataW H)} {ps : List MemPlace},
    DataW.TrodAll enc P W base sp held ts vs ds ps → DataW.TrodAll enc P W' base sp held ts vs ds ps
  | [], [], [], _, h => h
  | _ :: _, _ :: _, _ :: _, _, ⟨p, q, ⟨n, h1⟩, h2, e⟩ => by
    refine ⟨p, q, ⟨n, DataW.trod_carry n _ _ _ h1 fun x hx => hb.same (DataW.trod_lt n _ _ _ h1 x hx)⟩, trodAll_below hb h2, e⟩
theorem trodVars_below {W W' : World} {sp : Nat → Bool} {gs : List (DataW H)} {q : List MemPlace} (h : DataW.TrodVars enc P W sp [] gs q) : DataW.TrodVars enc P W' sp [] gs q := by
  obtain ⟨rfl, rfl⟩ := trodVars_none h
  exact h
theorem law_post {f : Func} {s : ChangeSpec} {apart : Bool} {W W' : World} {args : Array Value} {ds gs : List (DataW H)} {before : List MemPlace} {tb : TypeId}
    (hl : laidOutB P = true) (hm : mapsRowed P = true)
    (hz : ((List.range P.types.size).all fun t => match P.underlying t with | some (.slice e) => decide (0 < P.cellsOf e) | _ => true) = true)
    (hts : (f.params.toList.all fun t => decide (t < P.types.size)) = true) (hv : s.vars = [])
    (hW : DataW.Whole enc P f.params.toList s.vars apart W args.toList ds gs before)
    (hfn : s.fn H (ds ++ gs) = { results := [.lit (.bool true)], args := ds }) (hr : f.resultTypes = #[tb]) (ht : P.underlying tb = some .bool) (hb : Below W.heap.size W W') :
    s.post enc P f apart true false false W args (.bool true) W' := by
  have hlt : ∀ p ∈ before, p.block < W.heap.size := fun p hp => hW.lt p hp
  have hW0 := hW
  obtain ⟨p, q, hA, hV, rfl, hfz, hnd⟩ := hW
  rw [hv] at hV
  obtain ⟨rfl, rfl⟩ := trodVars_none hV
  have hT : ∀ t ∈ f.params.toList, t < P.types.size := fun t ht => by simpa using List.all_eq_true.1 hts t ht
  refine ⟨ds, [], p ++ [], [], p, [], hW0, ?_, ?_, ?_, World.keptBut_mono (fun x hx => ⟨hx, by simpa using hx⟩) (hb.frame (· ∈ p ++ [])), fun h => by simp at h⟩
  · rw [hfn, hr]
    exact trodAll_cons_mk (shut_bool ht _) trodAll_mk0
  · rw [hfn]
    refine trodAll_below hb (DataW.TrodAll.respare (kids_rows hl hm) (slices_full_of P hz) hT hA fun x hx => ?_)
    simpa using hlt x (by simpa using hx)
  · rw [hfn, hv]
    exact trodVars_below (W := W) hV
end
end Go.Abs
/- Words: what the row's premise on package-level variables gives; a start that meets it. Plain Lean. -/
namespace Go.Proofs.YtdodomcjoekpbaaDoor
open Go.ChangeShapes Go.WideShapes Go.RowKit
open Go.Abs Go.Abs.S Go.Proofs.Wo
theorem own : ownKnob Tryd.prog.godebug = none := by kernel_rfl
/-- an array of whole numbers that reads as it should holds them -/
theorem ints_of_trod {H : Type} {enc : TypeId × Value → H} {P : Program} {w : World} {base : Nat} {spare : Nat → Bool} {held : Bool} {fuel n : Nat} {t e : TypeId} {k : IntKind} {cs : List Value} {p : List MemPlace} {l : List Int}
    (ht : P.underlying t = some (.array n e)) (he : P.underlying e = some (.int k)) (hc : P.cellsOf e = 1) (hct : P.cellsOf t = n)
    (h : DataW.trod enc P w base spare held fuel t cs = some (.agg (l.map fun x => .lit (.int k x)), p)) : cs = l.map (.int k) := by
  obtain ⟨xs, m, _, hx, hl, hn, hi⟩ := DataW.trod_array ht h
  simp only [Prod.mk.injEq, DataW.agg.injEq] at hx
  have hll : l.length = n := by
    have := congrArg List.length hx.1
    simp at this; omega
  apply List.ext_getElem?
  intro i
  by_cases hlt : i < n
  · have h1 := hi i hlt
    rw [hc, Nat.mul_one] at h1
    have hxi : ∃ x, xs[i]? = some x := ⟨xs[i]'(by omega), List.getElem?_eq_getElem _⟩
    obtain ⟨x, hxi⟩ := hxi
    rw [hxi] at h1
    obtain ⟨y, hy, hyx, _⟩ := DataW.trod_int he h1
    have hli : l[i]? = some (l[i]'(by omega)) := List.getElem?_eq_getElem _
    have h2 := congrArg (·[i]?) hx.1
    simp only [List.getElem?_map, hxi, hli, Option.map_some, Option.some.injEq, hyx] at h2
    simp only [DataW.lit.injEq, Lit.int.injEq, true_and] at h2
    have h3 : cs[i]? = some (.int k y) := by
      have := congrArg (·[0]?) hy
      simpa [List.getElem?_take, List.getElem?_drop] using this
    rw [h3, List.getElem?_map, hli, ← h2]
    rfl
  · rw [List.getElem?_eq_none (by omega), List.getElem?_eq_none (by simp; omega)]
theorem var_row {P : Program} {w : World} {n : String} {g : Nat} {cs : Array Value} (hg : P.globalNamed n = some g) (h : w.var? P n = some cs) : ∃ e fz, w.heap[g]? = some (.cells cs e fz) := by
  simp only [World.var?, hg, Option.bind_some] at h
  split at h
  · rename_i C e fz hC
    simp only [Option.some.injEq] at h
    subst h
    exact ⟨_, _, hC⟩
  · simp at h
abbrev laidL : List (String × DataW Unit) := Rows.wordsTellRow.laid
theorem glo_of_laid {W : World} (h : laidMetH Tryd.prog laidL W) : Glo (heapW W) 1 powL ∧ 1 < (heapW W).next := by
  have h' : laidMet Tryd.prog laidL W := h
  obtain ⟨ps, hl, _, _⟩ := h'
  obtain ⟨_, _, _, _, _, _, _, _, _, _, hl, _⟩ := hl
  obtain ⟨_, _, _, _, _, _, _, _, _, _, hl, _⟩ := hl
  obtain ⟨g, t, cs, f, p, q, hg, ht, hv, htr, _, _⟩ := hl
  have e1 : some 1 = some g := Eq.trans (by kernel_rfl) hg
  simp only [Option.some.injEq] at e1
  subst e1
  have e2 : some 126 = some t := Eq.trans (by kernel_rfl) ht
  simp only [Option.some.injEq] at e2
  subst e2
  have hcs := ints_of_trod (l := (List.range 20).map fun i => ((10 ^ i : Nat) : Int)) Tryd.underlying126 (k := .u64) Tryd.underlying58 (by kernel_rfl) (by kernel_rfl) htr
  obtain ⟨e, fz, hrow⟩ := var_row hg hv
  refine ⟨?_, (Array.getElem?_eq_some_iff.1 hrow).1⟩
  unfold Glo
  rw [heapW_get]
  unfold objW
  simp only [hrow, hcs]
  rfl
end Go.Proofs.YtdodomcjoekpbaaDoor
/- Symbolic runs of the abstract machine, part 13: bytes that came in, out of the world; pairs of such. Plain Lean. -/
namespace Go.Abs.S
open Go.Abs Go.WideShapes Go.ChangeShapes
variable {H : Type} {enc : TypeId × Value → H}
theorem byte_wf {n : Int} (h : (Lit.int .u8 n).wf = true) : ((UInt8.ofNat n.toNat).toNat : Int) = n := by
  simp [Lit.wf, IntKind.min, IntKind.max, IntKind.signed, IntKind.bits] at h
  rw [UInt8.toNat_ofNat']
  omega
theorem arg_bytes {P : Program} {W : World} {base : Nat} {t e : TypeId} {v : Value} {d : DataW H} {p : List MemPlace} (ht : P.underlying t = some (.slice e)) (he : P.underlying e = some (.int .u8)) (hc : P.cellsOf e = 1)
    (hok : Value.okWide P W .any base t v) (h : DataW.Trod enc P W 0 (fun _ => true) true t v d p) :
    ∃ l : List UInt8, ArgS (heapW W).next (heapW W) (absW W v) (byts l) ∧ ((d = .nil ∧ l = []) ∨ ∃ el sp, d = .slice el sp ∧ el.length = l.length) ∧ (absW W v).one = true ∧ l.length ≤ maxLen := by
  obtain ⟨oa, len, cap, rfl⟩ := okWide_slice ht hok
  obtain ⟨fuel, hf⟩ := h
  rw [cells_slice _ rfl] at hf
  rcases open_ints ht he hc hf with ⟨h1, h2⟩ | ⟨a, len', cap', zs, h1, _, h3, h4, h5, h6, h7, h8⟩
  · simp only [List.cons.injEq, Value.slice.injEq, and_true] at h1
    obtain ⟨rfl, rfl, rfl⟩ := h1
    simp only [Prod.mk.injEq] at h2
    exact ⟨[], .inl ⟨by simp [absW, nilS], rfl⟩, .inl ⟨h2.1, rfl⟩, by simp [absW, AVal.one], by simp⟩
  · simp only [List.cons.injEq, Value.slice.injEq, and_true] at h1
    obtain ⟨rfl, rfl, rfl⟩ := h1
    simp only [if_true] at h5
    obtain ⟨q1, q2, n, q3, q4⟩ := okWide_room ht hok
    obtain ⟨c, off, spot⟩ := a
    simp only at q1 q3 q4
    subst q1
    simp only [Prod.mk.injEq] at h6
    have hlt : ((zs.take len).map fun n : Int => UInt8.ofNat n.toNat).length = len := by simp; omega
    have hcell : ∀ i, i < len → W.cell? ⟨c, off + i, none⟩ = some (.int .u8 (zs.getD i 0)) := fun i hi => by
      have := h7 i (by omega)
      rwa [add_none] at this
    have hb : off + len ≤ n := by
      by_cases h0 : len = 0
      · omega
      · obtain ⟨C, e', fz, g1, g2, _⟩ := objW_some q3
        have := hcell (len - 1) (by omega)
        rw [cell?_of g1] at this
        have := (Array.getElem?_eq_some_iff.1 this).1
        omega
    refine ⟨(zs.take len).map fun n : Int => UInt8.ofNat n.toNat, .inr ⟨⟨c, n, off⟩, cap, ?_, by rw [byts_len, hlt]; exact q2, ?_, ?_⟩, .inr ⟨_, _, h6.1, by simp [lits]⟩, ?_, by rw [hlt]; omega⟩
    · rw [byts_len, hlt]
      simp only [absW, q2, if_true, q3]
    · obtain ⟨C, e', fz, g1, _, _⟩ := objW_some q3
      exact (Array.getElem?_eq_some_iff.1 g1).1
    · rw [byts_len, hlt]
      refine rd_world q3 hb (by rw [byts_len, hlt]) fun i hi => ⟨_, hcell i hi, ?_⟩
      simp only [absW]
      have hz : i < zs.length := by omega
      have hw := h8 zs[i] (List.getElem_mem hz)
      have hg : ((zs.take len).map fun n : Int => UInt8.ofNat n.toNat)[i]? = some (UInt8.ofNat zs[i].toNat) := by
        rw [List.getElem?_map, List.getElem?_take_of_lt hi, List.getElem?_eq_getElem hz]; rfl
      rw [byts_get hg, byte_wf hw]
      simp [List.getD, hz]
    · simp only [absW, q2, if_true, q3, AVal.one]
/-- two of a kind -/
theorem pair_cells {P : Program} {W : World} {r : Reach} {base : Nat} {t e u : TypeId} {v : Value} {d : DataW H} {p : List MemPlace} (ha : P.underlying t = some (.array 2 e)) (hc : P.cellsOf t = 2) (hce : P.cellsOf e = 1) (hts : P.cellTypes P.depth t = some [u, u])
    (h : Value.okWide P W r base t v) (hd : DataW.Trod enc P W 0 (fun _ => true) true t v d p) :
    ∃ x y d1 p1 d2 p2, v = .agg #[x, y] ∧ Cell.okWide P W r base u x ∧ Cell.okWide P W r base u y ∧ (∃ n, DataW.trod enc P W 0 (fun _ => true) true n e [x] = some (d1, p1)) ∧ (∃ n, DataW.trod enc P W 0 (fun _ => true) true n e [y] = some (d2, p2)) := by
  simp only [Value.okWide, ha] at h
  obtain ⟨cs, rfl, hs, ts, h1, _, h2⟩ := h
  rw [hts] at h1
  simp only [Option.some.injEq] at h1
  subst h1
  rw [hc] at hs
  obtain ⟨fuel, hf⟩ := hd
  obtain ⟨xs, m, _, hx, hl, hn, hi⟩ := DataW.trod_array ha hf
  obtain ⟨x, y, rfl⟩ : ∃ x y, cs = #[x, y] := by
    refine ⟨cs[0]'(by omega), cs[1]'(by omega), ?_⟩
    apply Array.ext
    · simp [hs]
    · intro i h1 h2
      match i with
      | 0 => rfl
      | 1 => rfl
      | n + 2 => omega
  obtain ⟨u0, a1, a2⟩ := h2 0 x rfl
  obtain ⟨u1, b1, b2⟩ := h2 1 y rfl
  have a1 : some u = some u0 := a1
  have b1 : some u = some u1 := b1
  simp only [Option.some.injEq] at a1 b1
  subst a1
  subst b1
  have i0 := hi 0 (by omega)
  have i1 := hi 1 (by omega)
  rw [hce] at i0 i1
  have x0 : ∃ z, xs[0]? = some z := ⟨xs[0]'(by omega), List.getElem?_eq_getElem _⟩
  have x1 : ∃ z, xs[1]? = some z := ⟨xs[1]'(by omega), List.getElem?_eq_getElem _⟩
  obtain ⟨z0, x0⟩ := x0
  obtain ⟨z1, x1⟩ := x1
  rw [x0] at i0
  rw [x1] at i1
  have e0 : (List.drop (0 * 1) (Value.agg #[x, y]).cells.toList).take 1 = [x] := rfl
  have e1 : (List.drop (1 * 1) (Value.agg #[x, y]).cells.toList).take 1 = [y] := rfl
  rw [e0] at i0
  rw [e1] at i1
  exact ⟨x, y, z0.1, z0.2, z1.1, z1.2, rfl, a2, b2, ⟨m, i0⟩, ⟨m, i1⟩⟩
end Go.Abs.S
