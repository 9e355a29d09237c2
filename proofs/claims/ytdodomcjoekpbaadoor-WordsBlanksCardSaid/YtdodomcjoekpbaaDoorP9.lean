/- Part of a proof (W7 W8 W9); no condition. -/
import Derived.Test.YtdodomcjoekpbaaDoorP8
set_option linter.unusedSimpArgs false
set_option linter.unusedVariables false
/- Words: the document's own: what a text says as a number. -/
namespace Go.Proofs.Wo
open Go.Abs Go.Abs.S
set_option linter.unusedSimpArgs false
variable {N : ANat}
def l64 (l : List Nat) : List AVal := l.map fun n : Nat => .int .i64 (n : Int)
theorem l64_len (l : List Nat) : (l64 l).length = l.length := by simp [l64]
theorem l64_get {l : List Nat} {i : Nat} {n : Nat} (h : l[i]? = some n) : (l64 l)[i]? = some (.int .i64 (n : Int)) := by simp [l64, h]
theorem l64_set (l : List Nat) (i n : Nat) : l64 (l.set i n) = (l64 l).set i (.int .i64 (n : Int)) := by simp [l64]
theorem App_store {n : Nat} {H : AHeap} {s : AVal} {l : List AVal} (h : App n H s l) {i : Nat} (hi : i < l.length) {x : AVal} (hx : x.one = true) :
    ∃ H', oStore 1 H (cellP s i) x = some H' ∧ App n H' s (l.set i x) ∧ Ext n H H' := by
  rcases h with ⟨_, rfl⟩ | ⟨b, low, rfl, h2, h3, h4, h5⟩
  · simp at hi
  · refine ⟨H.set b (.cells (l.set i x) l.length false), ?_, .inr ⟨b, l.length, by simp, h2, h3, by rw [AHeap.get_set, if_pos rfl], by simp⟩, (Ext.refl n H).set h2 _⟩
    simp only [cellP, Nat.mul_one, Nat.zero_add]
    exact wr_whole h4 h5 hi hx
theorem isNum_iff (s : Bs) : isNum s = true ↔ numF s 0 = s.length ∧ s.length ≠ 0 := by
  cases s with
  | nil => simp [isNum]
  | cons c r =>
    simp only [isNum, Bool.and_eq_true, decide_eq_true_eq]
    constructor
    · rintro ⟨_, h⟩; exact ⟨h, by simp⟩
    · rintro ⟨h, _⟩
      refine ⟨?_, h⟩
      cases hd : dig c with
      | true => rfl
      | false =>
        have e : runF dig (c :: r) 0 = 0 := runF_no (c := c) rfl hd
        unfold numF at h
        rw [e, if_pos (.inl rfl)] at h
        simp at h
theorem whole_at {s : Bs} {i : Nat} {c : UInt8} (hi : i < (whole s).length) (hc : s[i]? = some c) : (whole s)[i]? = some c ∧ npt c = true := by
  have h : (whole s)[i]? = some c := by
    rw [whole_eq, List.getElem?_take_of_lt hi, hc]
  refine ⟨h, ?_⟩
  have := List.all_takeWhile (p := npt) (l := s)
  exact List.all_eq_true.1 this _ (List.mem_of_getElem? h)
theorem whole_end {s : Bs} {c : UInt8} (hc : s[(whole s).length]? = some c) : c.toNat = 46 := by
  rw [whole_run] at hc
  have := runF_out hc
  simpa [npt] using this
theorem bits_lt {l : List Nat} (h : ∀ d ∈ l, d ≤ 9) {n : Nat} (hn : n < 2147483648) (k : Nat) : (bits l n k).1 < 2 ^ (31 + k) := by
  have h1 := bits_val l n k
  have h2 := valN_lt h
  have h3 : n * 10 ^ l.length + valN l < 2147483648 * 10 ^ l.length := by
    have : n * 10 ^ l.length + 10 ^ l.length ≤ 2147483648 * 10 ^ l.length := by
      rw [← Nat.succ_mul]; exact Nat.mul_le_mul_right _ hn
    omega
  have hp : 0 < 10 ^ l.length := Nat.pos_of_ne_zero (by simp)
  have h4 : (bits l n k).1 * 10 ^ l.length < 2 ^ (31 + k) * 10 ^ l.length := by
    calc (bits l n k).1 * 10 ^ l.length ≤ 2 ^ k * (n * 10 ^ l.length + valN l) := by omega
      _ < 2 ^ k * (2147483648 * 10 ^ l.length) := Nat.mul_lt_mul_of_pos_left h3 (Nat.pos_of_ne_zero (by simp))
      _ = 2 ^ (31 + k) * 10 ^ l.length := by rw [← Nat.mul_assoc, Nat.pow_add, Nat.mul_comm (2 ^ k)]
  exact Nat.lt_of_mul_lt_mul_right h4
theorem rnumber_spec (h13 : N.is 13 = false) (h36 : N.is 36 = false) (h54 : N.is 54 = false)
    {H : AHeap} {s : Bs} (hs : s.length ≤ 1099511627776) : ACalls Tryd.prog N 13 [.str s] H fun v H' => v = told (saysF s) ∧ Ext H.next H H' := by
  refine acalls_ofN h13 za13 rfl ?_
  simp only [c13, pf_min, undef_bool, str_len, str_eql, str_neq, conv_in, un_not, eq_self, decide_true, decide_false, Bool.not_true, Bool.not_false, argE_0, argE_1, argE_2, argE_3, argE_4, aw_skip, aw_reg, aw_seq, aw_cond, aw_block, aw_exit, aw_ret, inSeq_normal, inSeq_exit, inSeq_ret, inBlk_exit, inBlk_normal, inBlk_ret, OptK_some, OptH_some, OptS_some, kont_app, ar_nil, ar_guard, ar_mv, ar_pick, ar_new, ar_box, ar_build, ar_buildSl, ar_load, ar_store, ar_nilChk, ar_bin, ar_un, ar_conv, ar_convSB, ar_convBS, ar_mkFunc, ar_mkIface, ar_mkSlice, ar_sl, ar_slStr, ar_fieldA, ar_field, ar_idxA, ar_idxArr, ar_idx, ar_idxS, ar_extract, ar_append, ar_len, ar_call, ar_callv, callvP_func, List.nil_append, List.cons_append, List.append_nil, ar_pf, ar_hf, ar_slA, upO_some, upO_none, sX_t, sX_c, sX_f, sXs, sXO, sXP, fin_t, fin_t2, fin_t3, up_same, up_ne, ne_eq, not_false_eq_true, AVal.bool.injEq, decide_eq_true_eq, decide_eq_false_iff_not, Int.ofNat_eq_natCast, Int.reduceNegSucc, Int.cast_ofNat_Int, reduceCtorEq, bin_lss, bin_leq, bin_gtr, bin_geq, bin_eql, bin_neq, bin_add, bin_sub, bin_mul, Bool.not_eq_true', Bool.not_eq_false', Bool.true_eq_false, Bool.false_eq_true, Nat.reduceEqDiff, ↓reduceIte, if_true, if_false, Nat.reduceAdd, Int.reduceEq, Int.reduceLT, Int.reduceLE]
  refine (rnumeral_spec h36 h54 (Nat.zero_le _) (by omega)).mono ?_
  rintro v _ ⟨rfl, rfl⟩
  have hle := numF_le (s := s) (Nat.zero_le _)
  by_cases hn : numF s 0 = s.length
  · have hn' : ((numF s 0 - 0 : Nat) : Int) = (s.length : Int) := by omega
    by_cases h0 : s.length = 0
    · have h0' : (s.length : Int) = 0 := by omega
      have e : saysF s = none := by
        unfold saysF
        rw [if_neg (by rw [isNum_iff]; rintro ⟨⟨_, h⟩, _⟩; exact h h0)]
      rw [e]
      simp only [pf_min, undef_bool, str_len, str_eql, str_neq, conv_in, un_not, eq_self, decide_true, decide_false, Bool.not_true, Bool.not_false, argE_0, argE_1, argE_2, argE_3, argE_4, aw_skip, aw_reg, aw_seq, aw_cond, aw_block, aw_exit, aw_ret, inSeq_normal, inSeq_exit, inSeq_ret, inBlk_exit, inBlk_normal, inBlk_ret, OptK_some, OptH_some, OptS_some, kont_app, ar_nil, ar_guard, ar_mv, ar_pick, ar_new, ar_box, ar_build, ar_buildSl, ar_load, ar_store, ar_nilChk, ar_bin, ar_un, ar_conv, ar_convSB, ar_convBS, ar_mkFunc, ar_mkIface, ar_mkSlice, ar_sl, ar_slStr, ar_fieldA, ar_field, ar_idxA, ar_idxArr, ar_idx, ar_idxS, ar_extract, ar_append, ar_len, ar_call, ar_callv, callvP_func, List.nil_append, List.cons_append, List.append_nil, ar_pf, ar_hf, ar_slA, upO_some, upO_none, sX_t, sX_c, sX_f, sXs, sXO, sXP, fin_t, fin_t2, fin_t3, up_same, up_ne, ne_eq, not_false_eq_true, AVal.bool.injEq, decide_eq_true_eq, decide_eq_false_iff_not, Int.ofNat_eq_natCast, Int.reduceNegSucc, Int.cast_ofNat_Int, reduceCtorEq, bin_lss, bin_leq, bin_gtr, bin_geq, bin_eql, bin_neq, bin_add, bin_sub, bin_mul, Bool.not_eq_true', Bool.not_eq_false', Bool.true_eq_false, Bool.false_eq_true, Nat.reduceEqDiff, ↓reduceIte, if_true, if_false, Nat.reduceAdd, Int.reduceEq, Int.reduceLT, Int.reduceLE, hn', h0']
      exact ⟨by trivial, Ext.refl _ _⟩
    have h0' : ¬ (s.length : Int) = 0 := by omega
    have hnum : isNum s = true := (isNum_iff s).2 ⟨hn, h0⟩
    obtain ⟨hw, hb⟩ := num_digs hnum
    simp only [pf_min, undef_bool, str_len, str_eql, str_neq, conv_in, un_not, eq_self, decide_true, decide_false, Bool.not_true, Bool.not_false, argE_0, argE_1, argE_2, argE_3, argE_4, aw_skip, aw_reg, aw_seq, aw_cond, aw_block, aw_exit, aw_ret, inSeq_normal, inSeq_exit, inSeq_ret, inBlk_exit, inBlk_normal, inBlk_ret, OptK_some, OptH_some, OptS_some, kont_app, ar_nil, ar_guard, ar_mv, ar_pick, ar_new, ar_box, ar_build, ar_buildSl, ar_load, ar_store, ar_nilChk, ar_bin, ar_un, ar_conv, ar_convSB, ar_convBS, ar_mkFunc, ar_mkIface, ar_mkSlice, ar_sl, ar_slStr, ar_fieldA, ar_field, ar_idxA, ar_idxArr, ar_idx, ar_idxS, ar_extract, ar_append, ar_len, ar_call, ar_callv, callvP_func, List.nil_append, List.cons_append, List.append_nil, ar_pf, ar_hf, ar_slA, upO_some, upO_none, sX_t, sX_c, sX_f, sXs, sXO, sXP, fin_t, fin_t2, fin_t3, up_same, up_ne, ne_eq, not_false_eq_true, AVal.bool.injEq, decide_eq_true_eq, decide_eq_false_iff_not, Int.ofNat_eq_natCast, Int.reduceNegSucc, Int.cast_ofNat_Int, reduceCtorEq, bin_lss, bin_leq, bin_gtr, bin_geq, bin_eql, bin_neq, bin_add, bin_sub, bin_mul, Bool.not_eq_true', Bool.not_eq_false', Bool.true_eq_false, Bool.false_eq_true, Nat.reduceEqDiff, ↓reduceIte, if_true, if_false, Nat.reduceAdd, Int.reduceEq, Int.reduceLT, Int.reduceLE, hn', h0']
    have hwl := whole_le s
    have hbl : (behind s).length = s.length - ((whole s).length + 1) := by rw [behind_eq]; simp
    have hsay : saysF s = if valF (whole s) < 2147483648 then some (valF (whole s) * 2 ^ 32 + frac (digs (behind s))) else none := by simp [saysF, hnum]
    rw [hsay]
    refine aw_cut (fun (T : Env) H' => T 0 = .str s ∧ T 5 = .int .i64 ((whole s).length : Int) ∧ T 4 = .int .i64 (valF (whole s) : Int) ∧ valF (whole s) < 2147483648 ∧ H = H') (calls_mono _ _) ?_ ?_
    · refine aw_loop (fun q (T : Env) H' => ∃ i : Nat, i ≤ (whole s).length ∧ q = (whole s).length - i ∧ T 0 = .str s ∧ T 4 = .int .i64 (valF ((whole s).take i) : Int) ∧ valF ((whole s).take i) < 2147483648 ∧ T 5 = .int .i64 (i : Int) ∧ H = H') (whole s).length
        ⟨0, Nat.zero_le _, rfl, rfl, rfl, by simp [valF], rfl, rfl⟩ ?_
      rintro q T _ ⟨i, hi, rfl, g0, g4, hv, g5, rfl⟩
      by_cases hlt : i < (whole s).length
      · have hlt' : (i : Int) < (s.length : Int) := by omega
        obtain ⟨c, hc⟩ := isSome_of_lt (l := s) (i := i) (by omega)
        obtain ⟨hcw, hnp⟩ := whole_at hlt hc
        have hdc := hw c (List.mem_of_getElem? hcw)
        have hnp' : ¬ (c.toNat : Int) = 46 := by simp [npt] at hnp; omega
        have hdv : (c.toNat : Int) - 48 = ((dv c : Nat) : Int) := by simp [dig] at hdc; unfold dv; omega
        have hd9 : dv c ≤ 9 := by simp [dig] at hdc; unfold dv; omega
        have hw1 : IntKind.u8.wrap ((dv c : Nat) : Int) = ((dv c : Nat) : Int) := wrapU8 (by omega) (by omega)
        have hw2 : IntKind.i64.wrap ((dv c : Nat) : Int) = ((dv c : Nat) : Int) := wrap64 (by omega) (by omega)
        have hw3 : IntKind.i64.wrap ((valF ((whole s).take i) : Int) * 10) = ((valF ((whole s).take i) * 10 : Nat) : Int) := by rw [wrap64 (by omega) (by omega)]; omega
        have hw4 : IntKind.i64.wrap (((valF ((whole s).take i) * 10 : Nat) : Int) + ((dv c : Nat) : Int)) = ((valF ((whole s).take (i + 1)) : Nat) : Int) := by
          rw [wrap64 (by omega) (by omega), List.take_add_one, hcw, Option.toList_some, val_snoc]; omega
        simp only [pf_min, undef_bool, str_len, str_eql, str_neq, conv_in, un_not, eq_self, decide_true, decide_false, Bool.not_true, Bool.not_false, argE_0, argE_1, argE_2, argE_3, argE_4, aw_skip, aw_reg, aw_seq, aw_cond, aw_block, aw_exit, aw_ret, inSeq_normal, inSeq_exit, inSeq_ret, inBlk_exit, inBlk_normal, inBlk_ret, OptK_some, OptH_some, OptS_some, kont_app, ar_nil, ar_guard, ar_mv, ar_pick, ar_new, ar_box, ar_build, ar_buildSl, ar_load, ar_store, ar_nilChk, ar_bin, ar_un, ar_conv, ar_convSB, ar_convBS, ar_mkFunc, ar_mkIface, ar_mkSlice, ar_sl, ar_slStr, ar_fieldA, ar_field, ar_idxA, ar_idxArr, ar_idx, ar_idxS, ar_extract, ar_append, ar_len, ar_call, ar_callv, callvP_func, List.nil_append, List.cons_append, List.append_nil, ar_pf, ar_hf, ar_slA, upO_some, upO_none, sX_t, sX_c, sX_f, sXs, sXO, sXP, fin_t, fin_t2, fin_t3, up_same, up_ne, ne_eq, not_false_eq_true, AVal.bool.injEq, decide_eq_true_eq, decide_eq_false_iff_not, Int.ofNat_eq_natCast, Int.reduceNegSucc, Int.cast_ofNat_Int, reduceCtorEq, bin_lss, bin_leq, bin_gtr, bin_geq, bin_eql, bin_neq, bin_add, bin_sub, bin_mul, Bool.not_eq_true', Bool.not_eq_false', Bool.true_eq_false, Bool.false_eq_true, Nat.reduceEqDiff, ↓reduceIte, if_true, if_false, Nat.reduceAdd, Int.reduceEq, Int.reduceLT, Int.reduceLE, g0, g4, g5, hlt', str_idx hc, hnp', hdv, hw1, hw2, hw3, hw4]
        by_cases hbig : valF ((whole s).take (i + 1)) < 2147483648
        · have hbig' : ¬ (2147483648 : Int) ≤ ((valF ((whole s).take (i + 1)) : Nat) : Int) := by omega
          simp only [pf_min, undef_bool, str_len, str_eql, str_neq, conv_in, un_not, eq_self, decide_true, decide_false, Bool.not_true, Bool.not_false, argE_0, argE_1, argE_2, argE_3, argE_4, aw_skip, aw_reg, aw_seq, aw_cond, aw_block, aw_exit, aw_ret, inSeq_normal, inSeq_exit, inSeq_ret, inBlk_exit, inBlk_normal, inBlk_ret, OptK_some, OptH_some, OptS_some, kont_app, ar_nil, ar_guard, ar_mv, ar_pick, ar_new, ar_box, ar_build, ar_buildSl, ar_load, ar_store, ar_nilChk, ar_bin, ar_un, ar_conv, ar_convSB, ar_convBS, ar_mkFunc, ar_mkIface, ar_mkSlice, ar_sl, ar_slStr, ar_fieldA, ar_field, ar_idxA, ar_idxArr, ar_idx, ar_idxS, ar_extract, ar_append, ar_len, ar_call, ar_callv, callvP_func, List.nil_append, List.cons_append, List.append_nil, ar_pf, ar_hf, ar_slA, upO_some, upO_none, sX_t, sX_c, sX_f, sXs, sXO, sXP, fin_t, fin_t2, fin_t3, up_same, up_ne, ne_eq, not_false_eq_true, AVal.bool.injEq, decide_eq_true_eq, decide_eq_false_iff_not, Int.ofNat_eq_natCast, Int.reduceNegSucc, Int.cast_ofNat_Int, reduceCtorEq, bin_lss, bin_leq, bin_gtr, bin_geq, bin_eql, bin_neq, bin_add, bin_sub, bin_mul, Bool.not_eq_true', Bool.not_eq_false', Bool.true_eq_false, Bool.false_eq_true, Nat.reduceEqDiff, ↓reduceIte, if_true, if_false, Nat.reduceAdd, Int.reduceEq, Int.reduceLT, Int.reduceLE, g0, g4, g5, hbig', wrap1 i (by omega)]
          exact ⟨_, by omega, i + 1, by omega, rfl, by trivial, rfl, hbig, rfl, by trivial⟩
        · have hbig' : (2147483648 : Int) ≤ ((valF ((whole s).take (i + 1)) : Nat) : Int) := by omega
          have := val_take_le (whole s) (i + 1)
          simp only [pf_min, undef_bool, str_len, str_eql, str_neq, conv_in, un_not, eq_self, decide_true, decide_false, Bool.not_true, Bool.not_false, argE_0, argE_1, argE_2, argE_3, argE_4, aw_skip, aw_reg, aw_seq, aw_cond, aw_block, aw_exit, aw_ret, inSeq_normal, inSeq_exit, inSeq_ret, inBlk_exit, inBlk_normal, inBlk_ret, OptK_some, OptH_some, OptS_some, kont_app, ar_nil, ar_guard, ar_mv, ar_pick, ar_new, ar_box, ar_build, ar_buildSl, ar_load, ar_store, ar_nilChk, ar_bin, ar_un, ar_conv, ar_convSB, ar_convBS, ar_mkFunc, ar_mkIface, ar_mkSlice, ar_sl, ar_slStr, ar_fieldA, ar_field, ar_idxA, ar_idxArr, ar_idx, ar_idxS, ar_extract, ar_append, ar_len, ar_call, ar_callv, callvP_func, List.nil_append, List.cons_append, List.append_nil, ar_pf, ar_hf, ar_slA, upO_some, upO_none, sX_t, sX_c, sX_f, sXs, sXO, sXP, fin_t, fin_t2, fin_t3, up_same, up_ne, ne_eq, not_false_eq_true, AVal.bool.injEq, decide_eq_true_eq, decide_eq_false_iff_not, Int.ofNat_eq_natCast, Int.reduceNegSucc, Int.cast_ofNat_Int, reduceCtorEq, bin_lss, bin_leq, bin_gtr, bin_geq, bin_eql, bin_neq, bin_add, bin_sub, bin_mul, Bool.not_eq_true', Bool.not_eq_false', Bool.true_eq_false, Bool.false_eq_true, Nat.reduceEqDiff, ↓reduceIte, if_true, if_false, Nat.reduceAdd, Int.reduceEq, Int.reduceLT, Int.reduceLE, g0, g4, g5, hbig']
          exact ⟨by rw [if_neg (by omega)]; rfl, Ext.refl _ _⟩
      · obtain rfl : i = (whole s).length := by omega
        rw [List.take_length] at g4 hv
        by_cases hlt2 : (whole s).length < s.length
        · have hlt' : ((whole s).length : Int) < (s.length : Int) := by omega
          obtain ⟨c, hc⟩ := isSome_of_lt hlt2
          have h46 : (c.toNat : Int) = 46 := by have := whole_end hc; omega
          simp only [pf_min, undef_bool, str_len, str_eql, str_neq, conv_in, un_not, eq_self, decide_true, decide_false, Bool.not_true, Bool.not_false, argE_0, argE_1, argE_2, argE_3, argE_4, aw_skip, aw_reg, aw_seq, aw_cond, aw_block, aw_exit, aw_ret, inSeq_normal, inSeq_exit, inSeq_ret, inBlk_exit, inBlk_normal, inBlk_ret, OptK_some, OptH_some, OptS_some, kont_app, ar_nil, ar_guard, ar_mv, ar_pick, ar_new, ar_box, ar_build, ar_buildSl, ar_load, ar_store, ar_nilChk, ar_bin, ar_un, ar_conv, ar_convSB, ar_convBS, ar_mkFunc, ar_mkIface, ar_mkSlice, ar_sl, ar_slStr, ar_fieldA, ar_field, ar_idxA, ar_idxArr, ar_idx, ar_idxS, ar_extract, ar_append, ar_len, ar_call, ar_callv, callvP_func, List.nil_append, List.cons_append, List.append_nil, ar_pf, ar_hf, ar_slA, upO_some, upO_none, sX_t, sX_c, sX_f, sXs, sXO, sXP, fin_t, fin_t2, fin_t3, up_same, up_ne, ne_eq, not_false_eq_true, AVal.bool.injEq, decide_eq_true_eq, decide_eq_false_iff_not, Int.ofNat_eq_natCast, Int.reduceNegSucc, Int.cast_ofNat_Int, reduceCtorEq, bin_lss, bin_leq, bin_gtr, bin_geq, bin_eql, bin_neq, bin_add, bin_sub, bin_mul, Bool.not_eq_true', Bool.not_eq_false', Bool.true_eq_false, Bool.false_eq_true, Nat.reduceEqDiff, ↓reduceIte, if_true, if_false, Nat.reduceAdd, Int.reduceEq, Int.reduceLT, Int.reduceLE, g0, g4, g5, hlt', str_idx hc, h46]
          exact ⟨by trivial, by trivial, by trivial, hv, by trivial⟩
        · have hlt' : ¬ ((whole s).length : Int) < (s.length : Int) := by omega
          simp only [pf_min, undef_bool, str_len, str_eql, str_neq, conv_in, un_not, eq_self, decide_true, decide_false, Bool.not_true, Bool.not_false, argE_0, argE_1, argE_2, argE_3, argE_4, aw_skip, aw_reg, aw_seq, aw_cond, aw_block, aw_exit, aw_ret, inSeq_normal, inSeq_exit, inSeq_ret, inBlk_exit, inBlk_normal, inBlk_ret, OptK_some, OptH_some, OptS_some, kont_app, ar_nil, ar_guard, ar_mv, ar_pick, ar_new, ar_box, ar_build, ar_buildSl, ar_load, ar_store, ar_nilChk, ar_bin, ar_un, ar_conv, ar_convSB, ar_convBS, ar_mkFunc, ar_mkIface, ar_mkSlice, ar_sl, ar_slStr, ar_fieldA, ar_field, ar_idxA, ar_idxArr, ar_idx, ar_idxS, ar_extract, ar_append, ar_len, ar_call, ar_callv, callvP_func, List.nil_append, List.cons_append, List.append_nil, ar_pf, ar_hf, ar_slA, upO_some, upO_none, sX_t, sX_c, sX_f, sXs, sXO, sXP, fin_t, fin_t2, fin_t3, up_same, up_ne, ne_eq, not_false_eq_true, AVal.bool.injEq, decide_eq_true_eq, decide_eq_false_iff_not, Int.ofNat_eq_natCast, Int.reduceNegSucc, Int.cast_ofNat_Int, reduceCtorEq, bin_lss, bin_leq, bin_gtr, bin_geq, bin_eql, bin_neq, bin_add, bin_sub, bin_mul, Bool.not_eq_true', Bool.not_eq_false', Bool.true_eq_false, Bool.false_eq_true, Nat.reduceEqDiff, ↓reduceIte, if_true, if_false, Nat.reduceAdd, Int.reduceEq, Int.reduceLT, Int.reduceLE, g0, g4, g5, hlt']
          exact ⟨by trivial, by trivial, by trivial, hv, by trivial⟩
    rintro T _ ⟨g0, g5, g4, hv, rfl⟩
    rw [if_pos hv]
    have hget : ∀ m, (behind s)[m]? = s[(whole s).length + 1 + m]? := fun m => by rw [behind_eq, List.getElem?_drop]
    generalize valF (whole s) = w at *
    generalize (whole s).length = e at *
    generalize behind s = t at *
    simp only [pf_min, undef_bool, str_len, str_eql, str_neq, conv_in, un_not, eq_self, decide_true, decide_false, Bool.not_true, Bool.not_false, argE_0, argE_1, argE_2, argE_3, argE_4, aw_skip, aw_reg, aw_seq, aw_cond, aw_block, aw_exit, aw_ret, inSeq_normal, inSeq_exit, inSeq_ret, inBlk_exit, inBlk_normal, inBlk_ret, OptK_some, OptH_some, OptS_some, kont_app, ar_nil, ar_guard, ar_mv, ar_pick, ar_new, ar_box, ar_build, ar_buildSl, ar_load, ar_store, ar_nilChk, ar_bin, ar_un, ar_conv, ar_convSB, ar_convBS, ar_mkFunc, ar_mkIface, ar_mkSlice, ar_sl, ar_slStr, ar_fieldA, ar_field, ar_idxA, ar_idxArr, ar_idx, ar_idxS, ar_extract, ar_append, ar_len, ar_call, ar_callv, callvP_func, List.nil_append, List.cons_append, List.append_nil, ar_pf, ar_hf, ar_slA, upO_some, upO_none, sX_t, sX_c, sX_f, sXs, sXO, sXP, fin_t, fin_t2, fin_t3, up_same, up_ne, ne_eq, not_false_eq_true, AVal.bool.injEq, decide_eq_true_eq, decide_eq_false_iff_not, Int.ofNat_eq_natCast, Int.reduceNegSucc, Int.cast_ofNat_Int, reduceCtorEq, bin_lss, bin_leq, bin_gtr, bin_geq, bin_eql, bin_neq, bin_add, bin_sub, bin_mul, Bool.not_eq_true', Bool.not_eq_false', Bool.true_eq_false, Bool.false_eq_true, Nat.reduceEqDiff, ↓reduceIte, if_true, if_false, Nat.reduceAdd, Int.reduceEq, Int.reduceLT, Int.reduceLE, g0, g4, g5, wrap1 e (by omega)]
    refine aw_cut (fun (T : Env) H' => T 4 = .int .i64 (w : Int) ∧ App H.next H' (T 6) (l64 (digs t)) ∧ Ext H.next H H') (calls_mono _ _) ?_ ?_
    · refine aw_loop (fun q (T : Env) H' => ∃ m : Nat, m ≤ t.length ∧ q = t.length - m ∧ T 0 = .str s ∧ T 4 = .int .i64 (w : Int) ∧ T 7 = .int .i64 ((e + 1 + m : Nat) : Int) ∧ App H.next H' (T 6) (l64 (digs (t.take m))) ∧ Ext H.next H H') t.length
        ⟨0, Nat.zero_le _, rfl, by simp only [pf_min, undef_bool, str_len, str_eql, str_neq, conv_in, un_not, eq_self, decide_true, decide_false, Bool.not_true, Bool.not_false, argE_0, argE_1, argE_2, argE_3, argE_4, aw_skip, aw_reg, aw_seq, aw_cond, aw_block, aw_exit, aw_ret, inSeq_normal, inSeq_exit, inSeq_ret, inBlk_exit, inBlk_normal, inBlk_ret, OptK_some, OptH_some, OptS_some, kont_app, ar_nil, ar_guard, ar_mv, ar_pick, ar_new, ar_box, ar_build, ar_buildSl, ar_load, ar_store, ar_nilChk, ar_bin, ar_un, ar_conv, ar_convSB, ar_convBS, ar_mkFunc, ar_mkIface, ar_mkSlice, ar_sl, ar_slStr, ar_fieldA, ar_field, ar_idxA, ar_idxArr, ar_idx, ar_idxS, ar_extract, ar_append, ar_len, ar_call, ar_callv, callvP_func, List.nil_append, List.cons_append, List.append_nil, ar_pf, ar_hf, ar_slA, upO_some, upO_none, sX_t, sX_c, sX_f, sXs, sXO, sXP, fin_t, fin_t2, fin_t3, up_same, up_ne, ne_eq, not_false_eq_true, AVal.bool.injEq, decide_eq_true_eq, decide_eq_false_iff_not, Int.ofNat_eq_natCast, Int.reduceNegSucc, Int.cast_ofNat_Int, reduceCtorEq, bin_lss, bin_leq, bin_gtr, bin_geq, bin_eql, bin_neq, bin_add, bin_sub, bin_mul, Bool.not_eq_true', Bool.not_eq_false', Bool.true_eq_false, Bool.false_eq_true, Nat.reduceEqDiff, ↓reduceIte, if_true, if_false, Nat.reduceAdd, Int.reduceEq, Int.reduceLT, Int.reduceLE, g0], by simp only [pf_min, undef_bool, str_len, str_eql, str_neq, conv_in, un_not, eq_self, decide_true, decide_false, Bool.not_true, Bool.not_false, argE_0, argE_1, argE_2, argE_3, argE_4, aw_skip, aw_reg, aw_seq, aw_cond, aw_block, aw_exit, aw_ret, inSeq_normal, inSeq_exit, inSeq_ret, inBlk_exit, inBlk_normal, inBlk_ret, OptK_some, OptH_some, OptS_some, kont_app, ar_nil, ar_guard, ar_mv, ar_pick, ar_new, ar_box, ar_build, ar_buildSl, ar_load, ar_store, ar_nilChk, ar_bin, ar_un, ar_conv, ar_convSB, ar_convBS, ar_mkFunc, ar_mkIface, ar_mkSlice, ar_sl, ar_slStr, ar_fieldA, ar_field, ar_idxA, ar_idxArr, ar_idx, ar_idxS, ar_extract, ar_append, ar_len, ar_call, ar_callv, callvP_func, List.nil_append, List.cons_append, List.append_nil, ar_pf, ar_hf, ar_slA, upO_some, upO_none, sX_t, sX_c, sX_f, sXs, sXO, sXP, fin_t, fin_t2, fin_t3, up_same, up_ne, ne_eq, not_false_eq_true, AVal.bool.injEq, decide_eq_true_eq, decide_eq_false_iff_not, Int.ofNat_eq_natCast, Int.reduceNegSucc, Int.cast_ofNat_Int, reduceCtorEq, bin_lss, bin_leq, bin_gtr, bin_geq, bin_eql, bin_neq, bin_add, bin_sub, bin_mul, Bool.not_eq_true', Bool.not_eq_false', Bool.true_eq_false, Bool.false_eq_true, Nat.reduceEqDiff, ↓reduceIte, if_true, if_false, Nat.reduceAdd, Int.reduceEq, Int.reduceLT, Int.reduceLE, g4], by simp only [pf_min, undef_bool, str_len, str_eql, str_neq, conv_in, un_not, eq_self, decide_true, decide_false, Bool.not_true, Bool.not_false, argE_0, argE_1, argE_2, argE_3, argE_4, aw_skip, aw_reg, aw_seq, aw_cond, aw_block, aw_exit, aw_ret, inSeq_normal, inSeq_exit, inSeq_ret, inBlk_exit, inBlk_normal, inBlk_ret, OptK_some, OptH_some, OptS_some, kont_app, ar_nil, ar_guard, ar_mv, ar_pick, ar_new, ar_box, ar_build, ar_buildSl, ar_load, ar_store, ar_nilChk, ar_bin, ar_un, ar_conv, ar_convSB, ar_convBS, ar_mkFunc, ar_mkIface, ar_mkSlice, ar_sl, ar_slStr, ar_fieldA, ar_field, ar_idxA, ar_idxArr, ar_idx, ar_idxS, ar_extract, ar_append, ar_len, ar_call, ar_callv, callvP_func, List.nil_append, List.cons_append, List.append_nil, ar_pf, ar_hf, ar_slA, upO_some, upO_none, sX_t, sX_c, sX_f, sXs, sXO, sXP, fin_t, fin_t2, fin_t3, up_same, up_ne, ne_eq, not_false_eq_true, AVal.bool.injEq, decide_eq_true_eq, decide_eq_false_iff_not, Int.ofNat_eq_natCast, Int.reduceNegSucc, Int.cast_ofNat_Int, reduceCtorEq, bin_lss, bin_leq, bin_gtr, bin_geq, bin_eql, bin_neq, bin_add, bin_sub, bin_mul, Bool.not_eq_true', Bool.not_eq_false', Bool.true_eq_false, Bool.false_eq_true, Nat.reduceEqDiff, ↓reduceIte, if_true, if_false, Nat.reduceAdd, Int.reduceEq, Int.reduceLT, Int.reduceLE]; try rfl, by simp only [pf_min, undef_bool, str_len, str_eql, str_neq, conv_in, un_not, eq_self, decide_true, decide_false, Bool.not_true, Bool.not_false, argE_0, argE_1, argE_2, argE_3, argE_4, aw_skip, aw_reg, aw_seq, aw_cond, aw_block, aw_exit, aw_ret, inSeq_normal, inSeq_exit, inSeq_ret, inBlk_exit, inBlk_normal, inBlk_ret, OptK_some, OptH_some, OptS_some, kont_app, ar_nil, ar_guard, ar_mv, ar_pick, ar_new, ar_box, ar_build, ar_buildSl, ar_load, ar_store, ar_nilChk, ar_bin, ar_un, ar_conv, ar_convSB, ar_convBS, ar_mkFunc, ar_mkIface, ar_mkSlice, ar_sl, ar_slStr, ar_fieldA, ar_field, ar_idxA, ar_idxArr, ar_idx, ar_idxS, ar_extract, ar_append, ar_len, ar_call, ar_callv, callvP_func, List.nil_append, List.cons_append, List.append_nil, ar_pf, ar_hf, ar_slA, upO_some, upO_none, sX_t, sX_c, sX_f, sXs, sXO, sXP, fin_t, fin_t2, fin_t3, up_same, up_ne, ne_eq, not_false_eq_true, AVal.bool.injEq, decide_eq_true_eq, decide_eq_false_iff_not, Int.ofNat_eq_natCast, Int.reduceNegSucc, Int.cast_ofNat_Int, reduceCtorEq, bin_lss, bin_leq, bin_gtr, bin_geq, bin_eql, bin_neq, bin_add, bin_sub, bin_mul, Bool.not_eq_true', Bool.not_eq_false', Bool.true_eq_false, Bool.false_eq_true, Nat.reduceEqDiff, ↓reduceIte, if_true, if_false, Nat.reduceAdd, Int.reduceEq, Int.reduceLT, Int.reduceLE]; exact App.nil _ _, Ext.refl _ _⟩ ?_
      clear g0 g4 g5
      rintro q T H1 ⟨m, hm, rfl, g0, g4, g7, hA, hE⟩
      by_cases hlt : m < t.length
      · have hlt' : ((e + 1 + m : Nat) : Int) < (s.length : Int) := by omega
        obtain ⟨c, hc⟩ := isSome_of_lt hlt
        have hcs := (hget m).symm.trans hc
        have hdc := hb c (List.mem_of_getElem? hc)
        have hdv : (c.toNat : Int) - 48 = ((dv c : Nat) : Int) := by simp [dig] at hdc; unfold dv; omega
        have hd9 : dv c ≤ 9 := by simp [dig] at hdc; unfold dv; omega
        have hw1 : IntKind.u8.wrap ((dv c : Nat) : Int) = ((dv c : Nat) : Int) := wrapU8 (by omega) (by omega)
        have hw2 : IntKind.i64.wrap ((dv c : Nat) : Int) = ((dv c : Nat) : Int) := wrap64 (by omega) (by omega)
        obtain ⟨s', H2, e1, e2, e3⟩ := hA.push (bytes := 8) (by have := hE.next; omega) (x := .int .i64 ((dv c : Nat) : Int)) rfl (by simp [l64, digs]; omega) (by omega)
        simp only [pf_min, undef_bool, str_len, str_eql, str_neq, conv_in, un_not, eq_self, decide_true, decide_false, Bool.not_true, Bool.not_false, argE_0, argE_1, argE_2, argE_3, argE_4, aw_skip, aw_reg, aw_seq, aw_cond, aw_block, aw_exit, aw_ret, inSeq_normal, inSeq_exit, inSeq_ret, inBlk_exit, inBlk_normal, inBlk_ret, OptK_some, OptH_some, OptS_some, kont_app, ar_nil, ar_guard, ar_mv, ar_pick, ar_new, ar_box, ar_build, ar_buildSl, ar_load, ar_store, ar_nilChk, ar_bin, ar_un, ar_conv, ar_convSB, ar_convBS, ar_mkFunc, ar_mkIface, ar_mkSlice, ar_sl, ar_slStr, ar_fieldA, ar_field, ar_idxA, ar_idxArr, ar_idx, ar_idxS, ar_extract, ar_append, ar_len, ar_call, ar_callv, callvP_func, List.nil_append, List.cons_append, List.append_nil, ar_pf, ar_hf, ar_slA, upO_some, upO_none, sX_t, sX_c, sX_f, sXs, sXO, sXP, fin_t, fin_t2, fin_t3, up_same, up_ne, ne_eq, not_false_eq_true, AVal.bool.injEq, decide_eq_true_eq, decide_eq_false_iff_not, Int.ofNat_eq_natCast, Int.reduceNegSucc, Int.cast_ofNat_Int, reduceCtorEq, bin_lss, bin_leq, bin_gtr, bin_geq, bin_eql, bin_neq, bin_add, bin_sub, bin_mul, Bool.not_eq_true', Bool.not_eq_false', Bool.true_eq_false, Bool.false_eq_true, Nat.reduceEqDiff, ↓reduceIte, if_true, if_false, Nat.reduceAdd, Int.reduceEq, Int.reduceLT, Int.reduceLE, g0, g4, g7, hlt', str_idx hcs, hdv, hw1, hw2, build1 _ _ (x := .int .i64 ((dv c : Nat) : Int)) rfl, e1, wrap1 (e + 1 + m) (by omega)]
        refine ⟨_, by omega, m + 1, by omega, rfl, by trivial, by trivial, rfl, ?_, hE.trans e3⟩
        rw [List.take_add_one, hc]
        simpa [digs, l64] using e2
      · obtain rfl : m = t.length := by omega
        have hlt' : ¬ ((e + 1 + t.length : Nat) : Int) < (s.length : Int) := by omega
        rw [List.take_length] at hA
        simp only [pf_min, undef_bool, str_len, str_eql, str_neq, conv_in, un_not, eq_self, decide_true, decide_false, Bool.not_true, Bool.not_false, argE_0, argE_1, argE_2, argE_3, argE_4, aw_skip, aw_reg, aw_seq, aw_cond, aw_block, aw_exit, aw_ret, inSeq_normal, inSeq_exit, inSeq_ret, inBlk_exit, inBlk_normal, inBlk_ret, OptK_some, OptH_some, OptS_some, kont_app, ar_nil, ar_guard, ar_mv, ar_pick, ar_new, ar_box, ar_build, ar_buildSl, ar_load, ar_store, ar_nilChk, ar_bin, ar_un, ar_conv, ar_convSB, ar_convBS, ar_mkFunc, ar_mkIface, ar_mkSlice, ar_sl, ar_slStr, ar_fieldA, ar_field, ar_idxA, ar_idxArr, ar_idx, ar_idxS, ar_extract, ar_append, ar_len, ar_call, ar_callv, callvP_func, List.nil_append, List.cons_append, List.append_nil, ar_pf, ar_hf, ar_slA, upO_some, upO_none, sX_t, sX_c, sX_f, sXs, sXO, sXP, fin_t, fin_t2, fin_t3, up_same, up_ne, ne_eq, not_false_eq_true, AVal.bool.injEq, decide_eq_true_eq, decide_eq_false_iff_not, Int.ofNat_eq_natCast, Int.reduceNegSucc, Int.cast_ofNat_Int, reduceCtorEq, bin_lss, bin_leq, bin_gtr, bin_geq, bin_eql, bin_neq, bin_add, bin_sub, bin_mul, Bool.not_eq_true', Bool.not_eq_false', Bool.true_eq_false, Bool.false_eq_true, Nat.reduceEqDiff, ↓reduceIte, if_true, if_false, Nat.reduceAdd, Int.reduceEq, Int.reduceLT, Int.reduceLE, g0, g4, g7, hlt']
        exact ⟨by trivial, hA, hE⟩
    clear g0 g4 g5
    rintro T H1 ⟨g4, hA, hE⟩
    have hd9 := digs_le hb
    have htl : (digs t).length ≤ 1099511627776 := by simp [digs]; omega
    generalize digs t = l at *
    simp only [pf_min, undef_bool, str_len, str_eql, str_neq, conv_in, un_not, eq_self, decide_true, decide_false, Bool.not_true, Bool.not_false, argE_0, argE_1, argE_2, argE_3, argE_4, aw_skip, aw_reg, aw_seq, aw_cond, aw_block, aw_exit, aw_ret, inSeq_normal, inSeq_exit, inSeq_ret, inBlk_exit, inBlk_normal, inBlk_ret, OptK_some, OptH_some, OptS_some, kont_app, ar_nil, ar_guard, ar_mv, ar_pick, ar_new, ar_box, ar_build, ar_buildSl, ar_load, ar_store, ar_nilChk, ar_bin, ar_un, ar_conv, ar_convSB, ar_convBS, ar_mkFunc, ar_mkIface, ar_mkSlice, ar_sl, ar_slStr, ar_fieldA, ar_field, ar_idxA, ar_idxArr, ar_idx, ar_idxS, ar_extract, ar_append, ar_len, ar_call, ar_callv, callvP_func, List.nil_append, List.cons_append, List.append_nil, ar_pf, ar_hf, ar_slA, upO_some, upO_none, sX_t, sX_c, sX_f, sXs, sXO, sXP, fin_t, fin_t2, fin_t3, up_same, up_ne, ne_eq, not_false_eq_true, AVal.bool.injEq, decide_eq_true_eq, decide_eq_false_iff_not, Int.ofNat_eq_natCast, Int.reduceNegSucc, Int.cast_ofNat_Int, reduceCtorEq, bin_lss, bin_leq, bin_gtr, bin_geq, bin_eql, bin_neq, bin_add, bin_sub, bin_mul, Bool.not_eq_true', Bool.not_eq_false', Bool.true_eq_false, Bool.false_eq_true, Nat.reduceEqDiff, ↓reduceIte, if_true, if_false, Nat.reduceAdd, Int.reduceEq, Int.reduceLT, Int.reduceLE, g4]
    refine aw_loop (fun q (T : Env) H' => ∃ k : Nat, k ≤ 32 ∧ q = 32 - k ∧ T 8 = .int .i64 ((bits l w k).1 : Int) ∧ T 9 = .int .i64 (k : Int) ∧ App H.next H' (T 6) (l64 (bits l w k).2) ∧ Ext H.next H H') 32
      ⟨0, Nat.zero_le _, rfl, by simp only [pf_min, undef_bool, str_len, str_eql, str_neq, conv_in, un_not, eq_self, decide_true, decide_false, Bool.not_true, Bool.not_false, argE_0, argE_1, argE_2, argE_3, argE_4, aw_skip, aw_reg, aw_seq, aw_cond, aw_block, aw_exit, aw_ret, inSeq_normal, inSeq_exit, inSeq_ret, inBlk_exit, inBlk_normal, inBlk_ret, OptK_some, OptH_some, OptS_some, kont_app, ar_nil, ar_guard, ar_mv, ar_pick, ar_new, ar_box, ar_build, ar_buildSl, ar_load, ar_store, ar_nilChk, ar_bin, ar_un, ar_conv, ar_convSB, ar_convBS, ar_mkFunc, ar_mkIface, ar_mkSlice, ar_sl, ar_slStr, ar_fieldA, ar_field, ar_idxA, ar_idxArr, ar_idx, ar_idxS, ar_extract, ar_append, ar_len, ar_call, ar_callv, callvP_func, List.nil_append, List.cons_append, List.append_nil, ar_pf, ar_hf, ar_slA, upO_some, upO_none, sX_t, sX_c, sX_f, sXs, sXO, sXP, fin_t, fin_t2, fin_t3, up_same, up_ne, ne_eq, not_false_eq_true, AVal.bool.injEq, decide_eq_true_eq, decide_eq_false_iff_not, Int.ofNat_eq_natCast, Int.reduceNegSucc, Int.cast_ofNat_Int, reduceCtorEq, bin_lss, bin_leq, bin_gtr, bin_geq, bin_eql, bin_neq, bin_add, bin_sub, bin_mul, Bool.not_eq_true', Bool.not_eq_false', Bool.true_eq_false, Bool.false_eq_true, Nat.reduceEqDiff, ↓reduceIte, if_true, if_false, Nat.reduceAdd, Int.reduceEq, Int.reduceLT, Int.reduceLE]; try rfl, by simp only [pf_min, undef_bool, str_len, str_eql, str_neq, conv_in, un_not, eq_self, decide_true, decide_false, Bool.not_true, Bool.not_false, argE_0, argE_1, argE_2, argE_3, argE_4, aw_skip, aw_reg, aw_seq, aw_cond, aw_block, aw_exit, aw_ret, inSeq_normal, inSeq_exit, inSeq_ret, inBlk_exit, inBlk_normal, inBlk_ret, OptK_some, OptH_some, OptS_some, kont_app, ar_nil, ar_guard, ar_mv, ar_pick, ar_new, ar_box, ar_build, ar_buildSl, ar_load, ar_store, ar_nilChk, ar_bin, ar_un, ar_conv, ar_convSB, ar_convBS, ar_mkFunc, ar_mkIface, ar_mkSlice, ar_sl, ar_slStr, ar_fieldA, ar_field, ar_idxA, ar_idxArr, ar_idx, ar_idxS, ar_extract, ar_append, ar_len, ar_call, ar_callv, callvP_func, List.nil_append, List.cons_append, List.append_nil, ar_pf, ar_hf, ar_slA, upO_some, upO_none, sX_t, sX_c, sX_f, sXs, sXO, sXP, fin_t, fin_t2, fin_t3, up_same, up_ne, ne_eq, not_false_eq_true, AVal.bool.injEq, decide_eq_true_eq, decide_eq_false_iff_not, Int.ofNat_eq_natCast, Int.reduceNegSucc, Int.cast_ofNat_Int, reduceCtorEq, bin_lss, bin_leq, bin_gtr, bin_geq, bin_eql, bin_neq, bin_add, bin_sub, bin_mul, Bool.not_eq_true', Bool.not_eq_false', Bool.true_eq_false, Bool.false_eq_true, Nat.reduceEqDiff, ↓reduceIte, if_true, if_false, Nat.reduceAdd, Int.reduceEq, Int.reduceLT, Int.reduceLE]; try rfl, by simp only [pf_min, undef_bool, str_len, str_eql, str_neq, conv_in, un_not, eq_self, decide_true, decide_false, Bool.not_true, Bool.not_false, argE_0, argE_1, argE_2, argE_3, argE_4, aw_skip, aw_reg, aw_seq, aw_cond, aw_block, aw_exit, aw_ret, inSeq_normal, inSeq_exit, inSeq_ret, inBlk_exit, inBlk_normal, inBlk_ret, OptK_some, OptH_some, OptS_some, kont_app, ar_nil, ar_guard, ar_mv, ar_pick, ar_new, ar_box, ar_build, ar_buildSl, ar_load, ar_store, ar_nilChk, ar_bin, ar_un, ar_conv, ar_convSB, ar_convBS, ar_mkFunc, ar_mkIface, ar_mkSlice, ar_sl, ar_slStr, ar_fieldA, ar_field, ar_idxA, ar_idxArr, ar_idx, ar_idxS, ar_extract, ar_append, ar_len, ar_call, ar_callv, callvP_func, List.nil_append, List.cons_append, List.append_nil, ar_pf, ar_hf, ar_slA, upO_some, upO_none, sX_t, sX_c, sX_f, sXs, sXO, sXP, fin_t, fin_t2, fin_t3, up_same, up_ne, ne_eq, not_false_eq_true, AVal.bool.injEq, decide_eq_true_eq, decide_eq_false_iff_not, Int.ofNat_eq_natCast, Int.reduceNegSucc, Int.cast_ofNat_Int, reduceCtorEq, bin_lss, bin_leq, bin_gtr, bin_geq, bin_eql, bin_neq, bin_add, bin_sub, bin_mul, Bool.not_eq_true', Bool.not_eq_false', Bool.true_eq_false, Bool.false_eq_true, Nat.reduceEqDiff, ↓reduceIte, if_true, if_false, Nat.reduceAdd, Int.reduceEq, Int.reduceLT, Int.reduceLE]; exact hA, hE⟩ ?_
    clear g4 hA hE T H1
    rintro q T H1 ⟨k, hk, rfl, g8, g9, hA, hE⟩
    by_cases hlt : k < 32
    · have hlt' : (k : Int) < 32 := by omega
      have hb9 := bits_dig hd9 w k
      have hbl := bits_len l w k
      have hbv := bits_lt hd9 hv k
      have hbv1 := bits_lt hd9 hv (k + 1)
      have hpk : (2 : Nat) ^ (31 + (k + 1)) ≤ 2 ^ 63 := Nat.pow_le_pow_right (by omega) (by omega)
      have hbits : bits l w (k + 1) = (2 * (bits l w k).1 + (dbl (bits l w k).2).1, (dbl (bits l w k).2).2) := rfl
      rw [hbits] at hbv1
      simp only [pf_min, undef_bool, str_len, str_eql, str_neq, conv_in, un_not, eq_self, decide_true, decide_false, Bool.not_true, Bool.not_false, argE_0, argE_1, argE_2, argE_3, argE_4, aw_skip, aw_reg, aw_seq, aw_cond, aw_block, aw_exit, aw_ret, inSeq_normal, inSeq_exit, inSeq_ret, inBlk_exit, inBlk_normal, inBlk_ret, OptK_some, OptH_some, OptS_some, kont_app, ar_nil, ar_guard, ar_mv, ar_pick, ar_new, ar_box, ar_build, ar_buildSl, ar_load, ar_store, ar_nilChk, ar_bin, ar_un, ar_conv, ar_convSB, ar_convBS, ar_mkFunc, ar_mkIface, ar_mkSlice, ar_sl, ar_slStr, ar_fieldA, ar_field, ar_idxA, ar_idxArr, ar_idx, ar_idxS, ar_extract, ar_append, ar_len, ar_call, ar_callv, callvP_func, List.nil_append, List.cons_append, List.append_nil, ar_pf, ar_hf, ar_slA, upO_some, upO_none, sX_t, sX_c, sX_f, sXs, sXO, sXP, fin_t, fin_t2, fin_t3, up_same, up_ne, ne_eq, not_false_eq_true, AVal.bool.injEq, decide_eq_true_eq, decide_eq_false_iff_not, Int.ofNat_eq_natCast, Int.reduceNegSucc, Int.cast_ofNat_Int, reduceCtorEq, bin_lss, bin_leq, bin_gtr, bin_geq, bin_eql, bin_neq, bin_add, bin_sub, bin_mul, Bool.not_eq_true', Bool.not_eq_false', Bool.true_eq_false, Bool.false_eq_true, Nat.reduceEqDiff, ↓reduceIte, if_true, if_false, Nat.reduceAdd, Int.reduceEq, Int.reduceLT, Int.reduceLE, g8, g9, hlt', hA.cel.len, l64_len, hbl]
      generalize hm : (bits l w k).2 = m at *
      generalize hout : (bits l w k).1 = out at *
      have hov := dbl_over hb9
      have hw0 : IntKind.i64.wrap ((l.length : Int) - 1) = (l.length : Int) - 1 := wrap64 (by omega) (by omega)
      generalize hsl : T 6 = sl at *
      refine aw_cut (fun (T : Env) H' => T 8 = .int .i64 (out : Int) ∧ T 9 = .int .i64 (k : Int) ∧ T 10 = .int .i64 ((dbl m).1 : Int) ∧ App H.next H' (T 6) (l64 (dbl m).2) ∧ Ext H.next H H') (calls_mono _ _) ?_ ?_
      · refine aw_loop (fun q (T : Env) H' => ∃ j : Nat, j ≤ m.length ∧ j = q ∧ T 6 = sl ∧ T 8 = .int .i64 (out : Int) ∧ T 9 = .int .i64 (k : Int) ∧ T 10 = .int .i64 ((dbl (m.drop j)).1 : Int) ∧ T 11 = .int .i64 ((j : Int) - 1) ∧ App H.next H' sl (l64 (half m j)) ∧ Ext H.next H H') m.length
          ⟨m.length, by omega, rfl, by simp only [pf_min, undef_bool, str_len, str_eql, str_neq, conv_in, un_not, eq_self, decide_true, decide_false, Bool.not_true, Bool.not_false, argE_0, argE_1, argE_2, argE_3, argE_4, aw_skip, aw_reg, aw_seq, aw_cond, aw_block, aw_exit, aw_ret, inSeq_normal, inSeq_exit, inSeq_ret, inBlk_exit, inBlk_normal, inBlk_ret, OptK_some, OptH_some, OptS_some, kont_app, ar_nil, ar_guard, ar_mv, ar_pick, ar_new, ar_box, ar_build, ar_buildSl, ar_load, ar_store, ar_nilChk, ar_bin, ar_un, ar_conv, ar_convSB, ar_convBS, ar_mkFunc, ar_mkIface, ar_mkSlice, ar_sl, ar_slStr, ar_fieldA, ar_field, ar_idxA, ar_idxArr, ar_idx, ar_idxS, ar_extract, ar_append, ar_len, ar_call, ar_callv, callvP_func, List.nil_append, List.cons_append, List.append_nil, ar_pf, ar_hf, ar_slA, upO_some, upO_none, sX_t, sX_c, sX_f, sXs, sXO, sXP, fin_t, fin_t2, fin_t3, up_same, up_ne, ne_eq, not_false_eq_true, AVal.bool.injEq, decide_eq_true_eq, decide_eq_false_iff_not, Int.ofNat_eq_natCast, Int.reduceNegSucc, Int.cast_ofNat_Int, reduceCtorEq, bin_lss, bin_leq, bin_gtr, bin_geq, bin_eql, bin_neq, bin_add, bin_sub, bin_mul, Bool.not_eq_true', Bool.not_eq_false', Bool.true_eq_false, Bool.false_eq_true, Nat.reduceEqDiff, ↓reduceIte, if_true, if_false, Nat.reduceAdd, Int.reduceEq, Int.reduceLT, Int.reduceLE, hsl], by simp only [pf_min, undef_bool, str_len, str_eql, str_neq, conv_in, un_not, eq_self, decide_true, decide_false, Bool.not_true, Bool.not_false, argE_0, argE_1, argE_2, argE_3, argE_4, aw_skip, aw_reg, aw_seq, aw_cond, aw_block, aw_exit, aw_ret, inSeq_normal, inSeq_exit, inSeq_ret, inBlk_exit, inBlk_normal, inBlk_ret, OptK_some, OptH_some, OptS_some, kont_app, ar_nil, ar_guard, ar_mv, ar_pick, ar_new, ar_box, ar_build, ar_buildSl, ar_load, ar_store, ar_nilChk, ar_bin, ar_un, ar_conv, ar_convSB, ar_convBS, ar_mkFunc, ar_mkIface, ar_mkSlice, ar_sl, ar_slStr, ar_fieldA, ar_field, ar_idxA, ar_idxArr, ar_idx, ar_idxS, ar_extract, ar_append, ar_len, ar_call, ar_callv, callvP_func, List.nil_append, List.cons_append, List.append_nil, ar_pf, ar_hf, ar_slA, upO_some, upO_none, sX_t, sX_c, sX_f, sXs, sXO, sXP, fin_t, fin_t2, fin_t3, up_same, up_ne, ne_eq, not_false_eq_true, AVal.bool.injEq, decide_eq_true_eq, decide_eq_false_iff_not, Int.ofNat_eq_natCast, Int.reduceNegSucc, Int.cast_ofNat_Int, reduceCtorEq, bin_lss, bin_leq, bin_gtr, bin_geq, bin_eql, bin_neq, bin_add, bin_sub, bin_mul, Bool.not_eq_true', Bool.not_eq_false', Bool.true_eq_false, Bool.false_eq_true, Nat.reduceEqDiff, ↓reduceIte, if_true, if_false, Nat.reduceAdd, Int.reduceEq, Int.reduceLT, Int.reduceLE, g8], by simp only [pf_min, undef_bool, str_len, str_eql, str_neq, conv_in, un_not, eq_self, decide_true, decide_false, Bool.not_true, Bool.not_false, argE_0, argE_1, argE_2, argE_3, argE_4, aw_skip, aw_reg, aw_seq, aw_cond, aw_block, aw_exit, aw_ret, inSeq_normal, inSeq_exit, inSeq_ret, inBlk_exit, inBlk_normal, inBlk_ret, OptK_some, OptH_some, OptS_some, kont_app, ar_nil, ar_guard, ar_mv, ar_pick, ar_new, ar_box, ar_build, ar_buildSl, ar_load, ar_store, ar_nilChk, ar_bin, ar_un, ar_conv, ar_convSB, ar_convBS, ar_mkFunc, ar_mkIface, ar_mkSlice, ar_sl, ar_slStr, ar_fieldA, ar_field, ar_idxA, ar_idxArr, ar_idx, ar_idxS, ar_extract, ar_append, ar_len, ar_call, ar_callv, callvP_func, List.nil_append, List.cons_append, List.append_nil, ar_pf, ar_hf, ar_slA, upO_some, upO_none, sX_t, sX_c, sX_f, sXs, sXO, sXP, fin_t, fin_t2, fin_t3, up_same, up_ne, ne_eq, not_false_eq_true, AVal.bool.injEq, decide_eq_true_eq, decide_eq_false_iff_not, Int.ofNat_eq_natCast, Int.reduceNegSucc, Int.cast_ofNat_Int, reduceCtorEq, bin_lss, bin_leq, bin_gtr, bin_geq, bin_eql, bin_neq, bin_add, bin_sub, bin_mul, Bool.not_eq_true', Bool.not_eq_false', Bool.true_eq_false, Bool.false_eq_true, Nat.reduceEqDiff, ↓reduceIte, if_true, if_false, Nat.reduceAdd, Int.reduceEq, Int.reduceLT, Int.reduceLE, g9], by simp only [pf_min, undef_bool, str_len, str_eql, str_neq, conv_in, un_not, eq_self, decide_true, decide_false, Bool.not_true, Bool.not_false, argE_0, argE_1, argE_2, argE_3, argE_4, aw_skip, aw_reg, aw_seq, aw_cond, aw_block, aw_exit, aw_ret, inSeq_normal, inSeq_exit, inSeq_ret, inBlk_exit, inBlk_normal, inBlk_ret, OptK_some, OptH_some, OptS_some, kont_app, ar_nil, ar_guard, ar_mv, ar_pick, ar_new, ar_box, ar_build, ar_buildSl, ar_load, ar_store, ar_nilChk, ar_bin, ar_un, ar_conv, ar_convSB, ar_convBS, ar_mkFunc, ar_mkIface, ar_mkSlice, ar_sl, ar_slStr, ar_fieldA, ar_field, ar_idxA, ar_idxArr, ar_idx, ar_idxS, ar_extract, ar_append, ar_len, ar_call, ar_callv, callvP_func, List.nil_append, List.cons_append, List.append_nil, ar_pf, ar_hf, ar_slA, upO_some, upO_none, sX_t, sX_c, sX_f, sXs, sXO, sXP, fin_t, fin_t2, fin_t3, up_same, up_ne, ne_eq, not_false_eq_true, AVal.bool.injEq, decide_eq_true_eq, decide_eq_false_iff_not, Int.ofNat_eq_natCast, Int.reduceNegSucc, Int.cast_ofNat_Int, reduceCtorEq, bin_lss, bin_leq, bin_gtr, bin_geq, bin_eql, bin_neq, bin_add, bin_sub, bin_mul, Bool.not_eq_true', Bool.not_eq_false', Bool.true_eq_false, Bool.false_eq_true, Nat.reduceEqDiff, ↓reduceIte, if_true, if_false, Nat.reduceAdd, Int.reduceEq, Int.reduceLT, Int.reduceLE]; rw [List.drop_eq_nil_of_le (by omega)]; rfl, by simp only [pf_min, undef_bool, str_len, str_eql, str_neq, conv_in, un_not, eq_self, decide_true, decide_false, Bool.not_true, Bool.not_false, argE_0, argE_1, argE_2, argE_3, argE_4, aw_skip, aw_reg, aw_seq, aw_cond, aw_block, aw_exit, aw_ret, inSeq_normal, inSeq_exit, inSeq_ret, inBlk_exit, inBlk_normal, inBlk_ret, OptK_some, OptH_some, OptS_some, kont_app, ar_nil, ar_guard, ar_mv, ar_pick, ar_new, ar_box, ar_build, ar_buildSl, ar_load, ar_store, ar_nilChk, ar_bin, ar_un, ar_conv, ar_convSB, ar_convBS, ar_mkFunc, ar_mkIface, ar_mkSlice, ar_sl, ar_slStr, ar_fieldA, ar_field, ar_idxA, ar_idxArr, ar_idx, ar_idxS, ar_extract, ar_append, ar_len, ar_call, ar_callv, callvP_func, List.nil_append, List.cons_append, List.append_nil, ar_pf, ar_hf, ar_slA, upO_some, upO_none, sX_t, sX_c, sX_f, sXs, sXO, sXP, fin_t, fin_t2, fin_t3, up_same, up_ne, ne_eq, not_false_eq_true, AVal.bool.injEq, decide_eq_true_eq, decide_eq_false_iff_not, Int.ofNat_eq_natCast, Int.reduceNegSucc, Int.cast_ofNat_Int, reduceCtorEq, bin_lss, bin_leq, bin_gtr, bin_geq, bin_eql, bin_neq, bin_add, bin_sub, bin_mul, Bool.not_eq_true', Bool.not_eq_false', Bool.true_eq_false, Bool.false_eq_true, Nat.reduceEqDiff, ↓reduceIte, if_true, if_false, Nat.reduceAdd, Int.reduceEq, Int.reduceLT, Int.reduceLE, hw0, hbl], by rw [half_all]; exact hA, hE⟩ ?_
        clear g8 g9 hA hE hsl T H1
        rintro q T H1 ⟨j, hj, rfl, g6, g8, g9, g10, g11, hA, hE⟩
        cases j with
        | zero =>
          have c0 : ¬ (0 : Int) ≤ ((0 : Nat) : Int) - 1 := by omega
          rw [List.drop_zero] at g10
          rw [half_zero] at hA
          simp only [pf_min, undef_bool, str_len, str_eql, str_neq, conv_in, un_not, eq_self, decide_true, decide_false, Bool.not_true, Bool.not_false, argE_0, argE_1, argE_2, argE_3, argE_4, aw_skip, aw_reg, aw_seq, aw_cond, aw_block, aw_exit, aw_ret, inSeq_normal, inSeq_exit, inSeq_ret, inBlk_exit, inBlk_normal, inBlk_ret, OptK_some, OptH_some, OptS_some, kont_app, ar_nil, ar_guard, ar_mv, ar_pick, ar_new, ar_box, ar_build, ar_buildSl, ar_load, ar_store, ar_nilChk, ar_bin, ar_un, ar_conv, ar_convSB, ar_convBS, ar_mkFunc, ar_mkIface, ar_mkSlice, ar_sl, ar_slStr, ar_fieldA, ar_field, ar_idxA, ar_idxArr, ar_idx, ar_idxS, ar_extract, ar_append, ar_len, ar_call, ar_callv, callvP_func, List.nil_append, List.cons_append, List.append_nil, ar_pf, ar_hf, ar_slA, upO_some, upO_none, sX_t, sX_c, sX_f, sXs, sXO, sXP, fin_t, fin_t2, fin_t3, up_same, up_ne, ne_eq, not_false_eq_true, AVal.bool.injEq, decide_eq_true_eq, decide_eq_false_iff_not, Int.ofNat_eq_natCast, Int.reduceNegSucc, Int.cast_ofNat_Int, reduceCtorEq, bin_lss, bin_leq, bin_gtr, bin_geq, bin_eql, bin_neq, bin_add, bin_sub, bin_mul, Bool.not_eq_true', Bool.not_eq_false', Bool.true_eq_false, Bool.false_eq_true, Nat.reduceEqDiff, ↓reduceIte, if_true, if_false, Nat.reduceAdd, Int.reduceEq, Int.reduceLT, Int.reduceLE, g6, g8, g9, g10, g11, c0]
          exact ⟨by trivial, by trivial, by trivial, hA, hE⟩
        | succ j =>
          have c0 : (0 : Int) ≤ ((j + 1 : Nat) : Int) - 1 := by omega
          have ej : ((j + 1 : Nat) : Int) - 1 = (j : Int) := by omega
          rw [ej] at g11 c0
          obtain ⟨d, hdd⟩ := isSome_of_lt (l := m) (i := j) (by omega)
          have hdn := hb9 d (List.mem_of_getElem? hdd)
          have ho := dbl_over (l := m.drop (j + 1)) fun x hx => hb9 x (List.mem_of_mem_drop hx)
          have hset := half_set hdd
          have hdr : dbl (m.drop j) = ((d * 2 + (dbl (m.drop (j + 1))).1) / 10, (d * 2 + (dbl (m.drop (j + 1))).1) % 10 :: (dbl (m.drop (j + 1))).2) := by rw [drop_at hdd]; rfl
          generalize (dbl (m.drop (j + 1))).1 = o at *
          have hjl : j < (l64 (half m (j + 1))).length := by rw [l64_len, half_len]; omega
          have ia := hA.cel.idx .i64 hjl
          have l1 := hA.cel.load (l64_get (half_get hdd))
          have w1 : IntKind.i64.wrap ((d : Int) * 2) = ((d * 2 : Nat) : Int) := by rw [wrap64 (by omega) (by omega)]; omega
          have w2 : IntKind.i64.wrap (((d * 2 : Nat) : Int) + (o : Int)) = ((d * 2 + o : Nat) : Int) := by rw [wrap64 (by omega) (by omega)]; omega
          have e3 : aBin .rem (.int .i64 ((d * 2 + o : Nat) : Int)) (.int .i64 10) = some (.int .i64 (((d * 2 + o) % 10 : Nat) : Int)) := by
            rw [bin_rem _ _ _ (by omega)]; rfl
          have e4 : aBin .quo (.int .i64 ((d * 2 + o : Nat) : Int)) (.int .i64 10) = some (.int .i64 (((d * 2 + o) / 10 : Nat) : Int)) := by
            rw [bin_quo _ _ _ (by omega)]
            have : ((d * 2 + o : Nat) : Int).tdiv 10 = (((d * 2 + o) / 10 : Nat) : Int) := rfl
            rw [this, wrap64 (by omega) (by omega)]
          obtain ⟨H2, m2, r2, n2⟩ := App_store hA hjl (x := .int .i64 (((d * 2 + o) % 10 : Nat) : Int)) rfl
          have hwj : IntKind.i64.wrap ((j : Int) - 1) = (j : Int) - 1 := wrap64 (by omega) (by omega)
          simp only [pf_min, undef_bool, str_len, str_eql, str_neq, conv_in, un_not, eq_self, decide_true, decide_false, Bool.not_true, Bool.not_false, argE_0, argE_1, argE_2, argE_3, argE_4, aw_skip, aw_reg, aw_seq, aw_cond, aw_block, aw_exit, aw_ret, inSeq_normal, inSeq_exit, inSeq_ret, inBlk_exit, inBlk_normal, inBlk_ret, OptK_some, OptH_some, OptS_some, kont_app, ar_nil, ar_guard, ar_mv, ar_pick, ar_new, ar_box, ar_build, ar_buildSl, ar_load, ar_store, ar_nilChk, ar_bin, ar_un, ar_conv, ar_convSB, ar_convBS, ar_mkFunc, ar_mkIface, ar_mkSlice, ar_sl, ar_slStr, ar_fieldA, ar_field, ar_idxA, ar_idxArr, ar_idx, ar_idxS, ar_extract, ar_append, ar_len, ar_call, ar_callv, callvP_func, List.nil_append, List.cons_append, List.append_nil, ar_pf, ar_hf, ar_slA, upO_some, upO_none, sX_t, sX_c, sX_f, sXs, sXO, sXP, fin_t, fin_t2, fin_t3, up_same, up_ne, ne_eq, not_false_eq_true, AVal.bool.injEq, decide_eq_true_eq, decide_eq_false_iff_not, Int.ofNat_eq_natCast, Int.reduceNegSucc, Int.cast_ofNat_Int, reduceCtorEq, bin_lss, bin_leq, bin_gtr, bin_geq, bin_eql, bin_neq, bin_add, bin_sub, bin_mul, Bool.not_eq_true', Bool.not_eq_false', Bool.true_eq_false, Bool.false_eq_true, Nat.reduceEqDiff, ↓reduceIte, if_true, if_false, Nat.reduceAdd, Int.reduceEq, Int.reduceLT, Int.reduceLE, g6, g8, g9, g10, g11, c0, ia, l1, w1, w2, e3, e4, m2, hwj]
          refine ⟨_, Nat.lt_succ_self j, j, by omega, rfl, by trivial, by trivial, by trivial, by rw [hdr], by trivial, ?_, hE.trans n2⟩
          rw [← hset, l64_set]
          exact r2
      clear g8 g9 hA hE hsl T H1
      rintro T H1 ⟨g8, g9, g10, hA, hE⟩
      have w1 : IntKind.i64.wrap ((out : Int) * 2) = ((2 * out : Nat) : Int) := by rw [wrap64 (by omega) (by omega)]; omega
      have w2 : IntKind.i64.wrap (((2 * out : Nat) : Int) + ((dbl m).1 : Int)) = ((2 * out + (dbl m).1 : Nat) : Int) := by rw [wrap64 (by omega) (by omega)]; omega
      simp only [pf_min, undef_bool, str_len, str_eql, str_neq, conv_in, un_not, eq_self, decide_true, decide_false, Bool.not_true, Bool.not_false, argE_0, argE_1, argE_2, argE_3, argE_4, aw_skip, aw_reg, aw_seq, aw_cond, aw_block, aw_exit, aw_ret, inSeq_normal, inSeq_exit, inSeq_ret, inBlk_exit, inBlk_normal, inBlk_ret, OptK_some, OptH_some, OptS_some, kont_app, ar_nil, ar_guard, ar_mv, ar_pick, ar_new, ar_box, ar_build, ar_buildSl, ar_load, ar_store, ar_nilChk, ar_bin, ar_un, ar_conv, ar_convSB, ar_convBS, ar_mkFunc, ar_mkIface, ar_mkSlice, ar_sl, ar_slStr, ar_fieldA, ar_field, ar_idxA, ar_idxArr, ar_idx, ar_idxS, ar_extract, ar_append, ar_len, ar_call, ar_callv, callvP_func, List.nil_append, List.cons_append, List.append_nil, ar_pf, ar_hf, ar_slA, upO_some, upO_none, sX_t, sX_c, sX_f, sXs, sXO, sXP, fin_t, fin_t2, fin_t3, up_same, up_ne, ne_eq, not_false_eq_true, AVal.bool.injEq, decide_eq_true_eq, decide_eq_false_iff_not, Int.ofNat_eq_natCast, Int.reduceNegSucc, Int.cast_ofNat_Int, reduceCtorEq, bin_lss, bin_leq, bin_gtr, bin_geq, bin_eql, bin_neq, bin_add, bin_sub, bin_mul, Bool.not_eq_true', Bool.not_eq_false', Bool.true_eq_false, Bool.false_eq_true, Nat.reduceEqDiff, ↓reduceIte, if_true, if_false, Nat.reduceAdd, Int.reduceEq, Int.reduceLT, Int.reduceLE, g8, g9, g10, w1, w2, wrap1 k (by omega)]
      exact ⟨_, by omega, k + 1, by omega, rfl, by rw [hbits], rfl, by rw [hbits]; exact hA, hE⟩
    obtain rfl : k = 32 := by omega
    have hlast := bits_frac hd9 w
    rw [hlast] at g8
    simp only [pf_min, undef_bool, str_len, str_eql, str_neq, conv_in, un_not, eq_self, decide_true, decide_false, Bool.not_true, Bool.not_false, argE_0, argE_1, argE_2, argE_3, argE_4, aw_skip, aw_reg, aw_seq, aw_cond, aw_block, aw_exit, aw_ret, inSeq_normal, inSeq_exit, inSeq_ret, inBlk_exit, inBlk_normal, inBlk_ret, OptK_some, OptH_some, OptS_some, kont_app, ar_nil, ar_guard, ar_mv, ar_pick, ar_new, ar_box, ar_build, ar_buildSl, ar_load, ar_store, ar_nilChk, ar_bin, ar_un, ar_conv, ar_convSB, ar_convBS, ar_mkFunc, ar_mkIface, ar_mkSlice, ar_sl, ar_slStr, ar_fieldA, ar_field, ar_idxA, ar_idxArr, ar_idx, ar_idxS, ar_extract, ar_append, ar_len, ar_call, ar_callv, callvP_func, List.nil_append, List.cons_append, List.append_nil, ar_pf, ar_hf, ar_slA, upO_some, upO_none, sX_t, sX_c, sX_f, sXs, sXO, sXP, fin_t, fin_t2, fin_t3, up_same, up_ne, ne_eq, not_false_eq_true, AVal.bool.injEq, decide_eq_true_eq, decide_eq_false_iff_not, Int.ofNat_eq_natCast, Int.reduceNegSucc, Int.cast_ofNat_Int, reduceCtorEq, bin_lss, bin_leq, bin_gtr, bin_geq, bin_eql, bin_neq, bin_add, bin_sub, bin_mul, Bool.not_eq_true', Bool.not_eq_false', Bool.true_eq_false, Bool.false_eq_true, Nat.reduceEqDiff, ↓reduceIte, if_true, if_false, Nat.reduceAdd, Int.reduceEq, Int.reduceLT, Int.reduceLE, g8, g9, Int.cast_ofNat_Int, Int.lt_irrefl]
    exact ⟨by rw [Nat.mul_comm]; rfl, hE⟩
  · have hn' : ¬ ((numF s 0 - 0 : Nat) : Int) = (s.length : Int) := by omega
    have e : saysF s = none := by
      unfold saysF
      rw [if_neg (by rw [isNum_iff]; rintro ⟨⟨h, _⟩, _⟩; exact hn h)]
    rw [e]
    simp only [pf_min, undef_bool, str_len, str_eql, str_neq, conv_in, un_not, eq_self, decide_true, decide_false, Bool.not_true, Bool.not_false, argE_0, argE_1, argE_2, argE_3, argE_4, aw_skip, aw_reg, aw_seq, aw_cond, aw_block, aw_exit, aw_ret, inSeq_normal, inSeq_exit, inSeq_ret, inBlk_exit, inBlk_normal, inBlk_ret, OptK_some, OptH_some, OptS_some, kont_app, ar_nil, ar_guard, ar_mv, ar_pick, ar_new, ar_box, ar_build, ar_buildSl, ar_load, ar_store, ar_nilChk, ar_bin, ar_un, ar_conv, ar_convSB, ar_convBS, ar_mkFunc, ar_mkIface, ar_mkSlice, ar_sl, ar_slStr, ar_fieldA, ar_field, ar_idxA, ar_idxArr, ar_idx, ar_idxS, ar_extract, ar_append, ar_len, ar_call, ar_callv, callvP_func, List.nil_append, List.cons_append, List.append_nil, ar_pf, ar_hf, ar_slA, upO_some, upO_none, sX_t, sX_c, sX_f, sXs, sXO, sXP, fin_t, fin_t2, fin_t3, up_same, up_ne, ne_eq, not_false_eq_true, AVal.bool.injEq, decide_eq_true_eq, decide_eq_false_iff_not, Int.ofNat_eq_natCast, Int.reduceNegSucc, Int.cast_ofNat_Int, reduceCtorEq, bin_lss, bin_leq, bin_gtr, bin_geq, bin_eql, bin_neq, bin_add, bin_sub, bin_mul, Bool.not_eq_true', Bool.not_eq_false', Bool.true_eq_false, Bool.false_eq_true, Nat.reduceEqDiff, ↓reduceIte, if_true, if_false, Nat.reduceAdd, Int.reduceEq, Int.reduceLT, Int.reduceLE, hn']
    exact ⟨by trivial, Ext.refl _ _⟩
end Go.Proofs.Wo
/- Words: how a number is said, in plain Lean; the document's own. -/
namespace Go.Proofs.Wo
open Go.Abs Go.Abs.S
set_option linter.unusedSimpArgs false
variable {N : ANat}
/-- a number's digits, the last first -/
def revD (n : Nat) : List Nat := if h : n < 10 then [n] else n % 10 :: revD (n / 10)
termination_by n
decreasing_by omega
def decD (n : Nat) : List Nat := (revD n).reverse
theorem revD_lt {n : Nat} (h : n < 10) : revD n = [n] := by rw [revD, dif_pos h]
theorem revD_ge {n : Nat} (h : ¬ n < 10) : revD n = n % 10 :: revD (n / 10) := by rw [revD, dif_neg h]
theorem decD_lt {n : Nat} (h : n < 10) : decD n = [n] := by rw [decD, revD_lt h]; rfl
theorem decD_ge {n : Nat} (h : ¬ n < 10) : decD n = decD (n / 10) ++ [n % 10] := by rw [decD, revD_ge h]; simp [decD]
theorem decD_dig (n : Nat) : ∀ d ∈ decD n, d ≤ 9 := by
  induction n using Nat.strongRecOn with
  | _ n ih =>
    by_cases h : n < 10
    · rw [decD_lt h]; simp; omega
    · rw [decD_ge h]
      intro d hd
      rcases List.mem_append.1 hd with h1 | h1
      · exact ih (n / 10) (by omega) d h1
      · simp at h1; omega
theorem decD_val (n : Nat) : valN (decD n) = n := by
  induction n using Nat.strongRecOn with
  | _ n ih =>
    by_cases h : n < 10
    · rw [decD_lt h]; simp [valN]
    · rw [decD_ge h, valN_append, ih (n / 10) (by omega)]
      simp [valN]; omega
/-- the digits behind the point of a rest -/
def fracD : Nat → Nat → List Nat
  | 0, _ => []
  | k + 1, r => if r = 0 then [] else r * 10 / 4294967296 :: fracD k (r * 10 % 4294967296)
def asc (l : List Nat) : Bs := l.map fun d => UInt8.ofNat (48 + d)
theorem asc_append (a b : List Nat) : asc (a ++ b) = asc a ++ asc b := by simp [asc]
theorem asc_len (l : List Nat) : (asc l).length = l.length := by simp [asc]
/-- the tail of a numeral -/
def tailF (r : Nat) : Bs := if r = 0 then [] else 46 :: asc (fracD 32 r)
def numeralF (n : Int) : Bs := (if n < 0 then [45] else []) ++ (asc (decD (n.natAbs / 4294967296)) ++ tailF (n.natAbs % 4294967296))
theorem fracD_len (k r : Nat) : (fracD k r).length ≤ k := by
  induction k generalizing r with
  | zero => simp [fracD]
  | succ k ih =>
    rw [fracD]
    split
    · simp
    · have := ih (r * 10 % 4294967296); simp; omega
theorem decD_len (k : Nat) : ∀ n, n < 10 ^ (k + 1) → (decD n).length ≤ k + 1 := by
  induction k with
  | zero => intro n h; rw [decD_lt (by simpa using h)]; simp
  | succ k ih =>
    intro n h
    by_cases hn : n < 10
    · rw [decD_lt hn]; simp
    · rw [decD_ge hn]
      have := ih (n / 10) (by rw [Nat.pow_succ] at h; omega)
      simp; omega
end Go.Proofs.Wo
/- Words: the document's own: how a number is said: the contract. -/
namespace Go.Proofs.Wo
open Go.Abs Go.Abs.S
set_option linter.unusedSimpArgs false
variable {N : ANat}
theorem wrapU64 {a : Int} (h1 : 0 ≤ a) (h2 : a < 18446744073709551616) : IntKind.u64.wrap a = a := by
  rw [IntKind.wrap_u64]; omega
theorem un_neg (k : IntKind) (n : Int) : aUn .neg (.int k n) = some (.int k (k.wrap (0 - n))) := by
  simp only [aUn, wrF_eq]
theorem bs_one (H : AHeap) (n : Nat) : aBS (H.push (.cells [.int .u8 (n : Int)] 0 false)) (oneS H) = some (.str [UInt8.ofNat n]) := by
  have := rd_whole (H := H.push (.cells [.int .u8 (n : Int)] 0 false)) (b := H.next) (l := [.int .u8 (n : Int)]) (low := 0) (ro := false) (by rw [AHeap.get_push, if_pos rfl]) (by simp)
  simp only [List.length_cons, List.length_nil, Nat.zero_add] at this
  simp only [aBS, oneS, this, bytesOf, Int.toNat_natCast]
theorem frac_step {k r : Nat} (hk : k ≤ 32) (hr : r < 4294967296) (hd : 2 ^ (32 - k) ∣ r) (h0 : r ≠ 0) : ∃ k', k = k' + 1 ∧ fracD k r = r * 10 / 4294967296 :: fracD k' (r * 10 % 4294967296) ∧ 2 ^ (32 - k') ∣ r * 10 % 4294967296 := by
  cases k with
  | zero =>
    exfalso
    obtain ⟨c, hc⟩ := hd
    simp only [Nat.sub_zero] at hc
    have : c ≠ 0 := by rintro rfl; simp at hc; exact h0 hc
    have : 2 ^ 32 * 1 ≤ 2 ^ 32 * c := Nat.mul_le_mul_left _ (by omega)
    omega
  | succ k =>
    refine ⟨k, rfl, by rw [fracD, if_neg h0], ?_⟩
    have e : 32 - k = (32 - (k + 1)) + 1 := by omega
    have h1 : 2 ^ (32 - k) ∣ r * 10 := by
      obtain ⟨c, hc⟩ := hd
      refine ⟨c * 5, ?_⟩
      rw [e, Nat.pow_succ]
      generalize 2 ^ (32 - (k + 1)) = p at *
      subst hc
      rw [Nat.mul_assoc p 2, Nat.mul_assoc p c 10]
      congr 1
      omega
    have h2 : 2 ^ (32 - k) ∣ 4294967296 := by
      have := Nat.pow_dvd_pow 2 (show 32 - k ≤ 32 by omega)
      exact this
    exact (Nat.dvd_mod_iff h2).2 h1
def tl : ACode → ACode
  | .seq _ b => b
  | c => c
def code10 : ACode := tl (tl (tl (tl (tl c10.body))))
theorem asc_ne (n : Nat) : asc (decD n) ≠ [] := by
  by_cases h : n < 10
  · rw [decD_lt h]; simp [asc]
  · rw [decD_ge h]; simp [asc]
theorem tail10 {sg : Bs} (hsg : sg.length ≤ 1) {a r : Nat} (ha : a ≤ 2147483648) (hr : r < 4294967296) {T : Env} (g3 : T 3 = .str sg) (g5 : T 5 = .int .u64 (a : Int)) (g6 : T 6 = .int .u64 (r : Int)) (g7 : T 7 = .str []) {H : AHeap} :
    wp (ACalls Tryd.prog N) code10 (fin c10.res fun v H' => v = .str (sg ++ (asc (decD a) ++ tailF r)) ∧ Ext H.next H H') T H := by
  have hl10 : (asc (decD a)).length ≤ 10 := by rw [asc_len]; exact decD_len 9 a (by omega)
  simp only [code10, tl, c10, pf_min, undef_bool, str_len, str_eql, str_neq, conv_in, un_not, eq_self, decide_true, decide_false, Bool.not_true, Bool.not_false, argE_0, argE_1, argE_2, argE_3, argE_4, aw_skip, aw_reg, aw_seq, aw_cond, aw_block, aw_exit, aw_ret, inSeq_normal, inSeq_exit, inSeq_ret, inBlk_exit, inBlk_normal, inBlk_ret, OptK_some, OptH_some, OptS_some, kont_app, ar_nil, ar_guard, ar_mv, ar_pick, ar_new, ar_box, ar_build, ar_buildSl, ar_load, ar_store, ar_nilChk, ar_bin, ar_un, ar_conv, ar_convSB, ar_convBS, ar_mkFunc, ar_mkIface, ar_mkSlice, ar_sl, ar_slStr, ar_fieldA, ar_field, ar_idxA, ar_idxArr, ar_idx, ar_idxS, ar_extract, ar_append, ar_len, ar_call, ar_callv, callvP_func, List.nil_append, List.cons_append, List.append_nil, ar_pf, ar_hf, ar_slA, upO_some, upO_none, sX_t, sX_c, sX_f, sXs, sXO, sXP, fin_t, fin_t2, fin_t3, up_same, up_ne, ne_eq, not_false_eq_true, AVal.bool.injEq, decide_eq_true_eq, decide_eq_false_iff_not, Int.ofNat_eq_natCast, Int.reduceNegSucc, Int.cast_ofNat_Int, reduceCtorEq, bin_lss, bin_leq, bin_gtr, bin_geq, bin_eql, bin_neq, bin_add, bin_sub, bin_mul, Bool.not_eq_true', Bool.not_eq_false', Bool.true_eq_false, Bool.false_eq_true, Nat.reduceEqDiff, ↓reduceIte, if_true, if_false, Nat.reduceAdd, Int.reduceEq, Int.reduceLT, Int.reduceLE]
  refine aw_cut (fun (T : Env) H' => T 3 = .str sg ∧ T 6 = .int .u64 (r : Int) ∧ T 7 = .str (asc (decD a)) ∧ Ext H.next H H') (calls_mono _ _) ?_ ?_
  · refine aw_loop (fun q (T : Env) H' => ∃ (b : Nat) (acc : Bs), b ≤ a ∧ q = b + (if acc = [] then 1 else 0) ∧ T 3 = .str sg ∧ T 5 = .int .u64 (b : Int) ∧ T 6 = .int .u64 (r : Int) ∧ T 7 = .str acc ∧ asc (decD a) = (if b = 0 ∧ acc ≠ [] then [] else asc (decD b)) ++ acc ∧ Ext H.next H H') (a + 1)
      ⟨a, [], Nat.le_refl _, rfl, g3, g5, g6, g7, by simp, Ext.refl _ _⟩ ?_
    clear g3 g5 g6 g7 T
    rintro q T H1 ⟨b, acc, hb, rfl, g3, g5, g6, g7, hA, hE⟩
    by_cases hgo : 0 < b ∨ acc = []
    · have hif : ¬ (b = 0 ∧ acc ≠ []) := by rintro ⟨e1, e2⟩; rcases hgo with h | h; omega; exact e2 h
      rw [if_neg hif] at hA
      have w1 : ((b : Int)).tmod 10 = ((b % 10 : Nat) : Int) := rfl
      have w2 : ((b : Int)).tdiv 10 = ((b / 10 : Nat) : Int) := rfl
      have w3 : IntKind.u64.wrap (48 + ((b % 10 : Nat) : Int)) = ((48 + b % 10 : Nat) : Int) := by rw [wrapU64 (by omega) (by omega)]; omega
      have w4 : IntKind.u8.wrap ((48 + b % 10 : Nat) : Int) = ((48 + b % 10 : Nat) : Int) := wrapU8 (by omega) (by omega)
      have w5 : IntKind.u64.wrap ((b / 10 : Nat) : Int) = ((b / 10 : Nat) : Int) := wrapU64 (by omega) (by omega)
      have hlen : acc.length ≤ 10 := by rw [hA] at hl10; simp at hl10; omega
      have hadd := str_add (x := [UInt8.ofNat (48 + b % 10)]) (y := acc) (by simp; omega)
      have e1 := bin_rem .u64 (b : Int) 10 (by omega)
      have e2 := bin_quo .u64 (b : Int) 10 (by omega)
      have hstep : asc (decD a) = (if b / 10 = 0 ∧ [UInt8.ofNat (48 + b % 10)] ++ acc ≠ [] then [] else asc (decD (b / 10))) ++ ([UInt8.ofNat (48 + b % 10)] ++ acc) := by
        rw [hA]
        by_cases h10 : b < 10
        · have h0 : b / 10 = 0 := by omega
          have hm : b % 10 = b := by omega
          rw [decD_lt h10, if_pos ⟨h0, by simp⟩, hm]
          simp [asc]
        · rw [decD_ge h10, if_neg (by omega), asc_append]
          simp [asc]
      rcases hgo with h | h
      · have hgo' : (0 : Int) < (b : Int) := by omega
        simp only [pf_min, undef_bool, str_len, str_eql, str_neq, conv_in, un_not, eq_self, decide_true, decide_false, Bool.not_true, Bool.not_false, argE_0, argE_1, argE_2, argE_3, argE_4, aw_skip, aw_reg, aw_seq, aw_cond, aw_block, aw_exit, aw_ret, inSeq_normal, inSeq_exit, inSeq_ret, inBlk_exit, inBlk_normal, inBlk_ret, OptK_some, OptH_some, OptS_some, kont_app, ar_nil, ar_guard, ar_mv, ar_pick, ar_new, ar_box, ar_build, ar_buildSl, ar_load, ar_store, ar_nilChk, ar_bin, ar_un, ar_conv, ar_convSB, ar_convBS, ar_mkFunc, ar_mkIface, ar_mkSlice, ar_sl, ar_slStr, ar_fieldA, ar_field, ar_idxA, ar_idxArr, ar_idx, ar_idxS, ar_extract, ar_append, ar_len, ar_call, ar_callv, callvP_func, List.nil_append, List.cons_append, List.append_nil, ar_pf, ar_hf, ar_slA, upO_some, upO_none, sX_t, sX_c, sX_f, sXs, sXO, sXP, fin_t, fin_t2, fin_t3, up_same, up_ne, ne_eq, not_false_eq_true, AVal.bool.injEq, decide_eq_true_eq, decide_eq_false_iff_not, Int.ofNat_eq_natCast, Int.reduceNegSucc, Int.cast_ofNat_Int, reduceCtorEq, bin_lss, bin_leq, bin_gtr, bin_geq, bin_eql, bin_neq, bin_add, bin_sub, bin_mul, Bool.not_eq_true', Bool.not_eq_false', Bool.true_eq_false, Bool.false_eq_true, Nat.reduceEqDiff, ↓reduceIte, if_true, if_false, Nat.reduceAdd, Int.reduceEq, Int.reduceLT, Int.reduceLE, g3, g5, g6, g7, hgo', e1, e2, w1, w2, w3, w4, w5, build1 _ _ (x := .int .u8 ((48 + b % 10 : Nat) : Int)) rfl, bs_one, hadd]
        refine ⟨_, ?_, b / 10, _, by omega, rfl, by trivial, rfl, by trivial, rfl, hstep, hE.push hE.next _⟩
        simp; split <;> omega
      · subst h
        by_cases hz : (0 : Int) < (b : Int)
        · simp only [pf_min, undef_bool, str_len, str_eql, str_neq, conv_in, un_not, eq_self, decide_true, decide_false, Bool.not_true, Bool.not_false, argE_0, argE_1, argE_2, argE_3, argE_4, aw_skip, aw_reg, aw_seq, aw_cond, aw_block, aw_exit, aw_ret, inSeq_normal, inSeq_exit, inSeq_ret, inBlk_exit, inBlk_normal, inBlk_ret, OptK_some, OptH_some, OptS_some, kont_app, ar_nil, ar_guard, ar_mv, ar_pick, ar_new, ar_box, ar_build, ar_buildSl, ar_load, ar_store, ar_nilChk, ar_bin, ar_un, ar_conv, ar_convSB, ar_convBS, ar_mkFunc, ar_mkIface, ar_mkSlice, ar_sl, ar_slStr, ar_fieldA, ar_field, ar_idxA, ar_idxArr, ar_idx, ar_idxS, ar_extract, ar_append, ar_len, ar_call, ar_callv, callvP_func, List.nil_append, List.cons_append, List.append_nil, ar_pf, ar_hf, ar_slA, upO_some, upO_none, sX_t, sX_c, sX_f, sXs, sXO, sXP, fin_t, fin_t2, fin_t3, up_same, up_ne, ne_eq, not_false_eq_true, AVal.bool.injEq, decide_eq_true_eq, decide_eq_false_iff_not, Int.ofNat_eq_natCast, Int.reduceNegSucc, Int.cast_ofNat_Int, reduceCtorEq, bin_lss, bin_leq, bin_gtr, bin_geq, bin_eql, bin_neq, bin_add, bin_sub, bin_mul, Bool.not_eq_true', Bool.not_eq_false', Bool.true_eq_false, Bool.false_eq_true, Nat.reduceEqDiff, ↓reduceIte, if_true, if_false, Nat.reduceAdd, Int.reduceEq, Int.reduceLT, Int.reduceLE, g3, g5, g6, g7, hz, e1, e2, w1, w2, w3, w4, w5, build1 _ _ (x := .int .u8 ((48 + b % 10 : Nat) : Int)) rfl, bs_one, hadd]
          refine ⟨_, ?_, b / 10, _, by omega, rfl, by trivial, rfl, by trivial, rfl, hstep, hE.push hE.next _⟩
          simp; omega
        · simp only [pf_min, undef_bool, str_len, str_eql, str_neq, conv_in, un_not, eq_self, decide_true, decide_false, Bool.not_true, Bool.not_false, argE_0, argE_1, argE_2, argE_3, argE_4, aw_skip, aw_reg, aw_seq, aw_cond, aw_block, aw_exit, aw_ret, inSeq_normal, inSeq_exit, inSeq_ret, inBlk_exit, inBlk_normal, inBlk_ret, OptK_some, OptH_some, OptS_some, kont_app, ar_nil, ar_guard, ar_mv, ar_pick, ar_new, ar_box, ar_build, ar_buildSl, ar_load, ar_store, ar_nilChk, ar_bin, ar_un, ar_conv, ar_convSB, ar_convBS, ar_mkFunc, ar_mkIface, ar_mkSlice, ar_sl, ar_slStr, ar_fieldA, ar_field, ar_idxA, ar_idxArr, ar_idx, ar_idxS, ar_extract, ar_append, ar_len, ar_call, ar_callv, callvP_func, List.nil_append, List.cons_append, List.append_nil, ar_pf, ar_hf, ar_slA, upO_some, upO_none, sX_t, sX_c, sX_f, sXs, sXO, sXP, fin_t, fin_t2, fin_t3, up_same, up_ne, ne_eq, not_false_eq_true, AVal.bool.injEq, decide_eq_true_eq, decide_eq_false_iff_not, Int.ofNat_eq_natCast, Int.reduceNegSucc, Int.cast_ofNat_Int, reduceCtorEq, bin_lss, bin_leq, bin_gtr, bin_geq, bin_eql, bin_neq, bin_add, bin_sub, bin_mul, Bool.not_eq_true', Bool.not_eq_false', Bool.true_eq_false, Bool.false_eq_true, Nat.reduceEqDiff, ↓reduceIte, if_true, if_false, Nat.reduceAdd, Int.reduceEq, Int.reduceLT, Int.reduceLE, g3, g5, g6, g7, hz, e1, e2, w1, w2, w3, w4, w5, build1 _ _ (x := .int .u8 ((48 + b % 10 : Nat) : Int)) rfl, bs_one, hadd]
          refine ⟨_, ?_, b / 10, _, by omega, rfl, by trivial, rfl, by trivial, rfl, hstep, hE.push hE.next _⟩
          simp; omega
    · have hb0 : b = 0 := by omega
      have hne : ¬ acc = [] := fun h => hgo (.inr h)
      subst hb0
      rw [if_pos ⟨rfl, hne⟩] at hA
      have hz : ¬ (0 : Int) < ((0 : Nat) : Int) := by omega
      simp only [pf_min, undef_bool, str_len, str_eql, str_neq, conv_in, un_not, eq_self, decide_true, decide_false, Bool.not_true, Bool.not_false, argE_0, argE_1, argE_2, argE_3, argE_4, aw_skip, aw_reg, aw_seq, aw_cond, aw_block, aw_exit, aw_ret, inSeq_normal, inSeq_exit, inSeq_ret, inBlk_exit, inBlk_normal, inBlk_ret, OptK_some, OptH_some, OptS_some, kont_app, ar_nil, ar_guard, ar_mv, ar_pick, ar_new, ar_box, ar_build, ar_buildSl, ar_load, ar_store, ar_nilChk, ar_bin, ar_un, ar_conv, ar_convSB, ar_convBS, ar_mkFunc, ar_mkIface, ar_mkSlice, ar_sl, ar_slStr, ar_fieldA, ar_field, ar_idxA, ar_idxArr, ar_idx, ar_idxS, ar_extract, ar_append, ar_len, ar_call, ar_callv, callvP_func, List.nil_append, List.cons_append, List.append_nil, ar_pf, ar_hf, ar_slA, upO_some, upO_none, sX_t, sX_c, sX_f, sXs, sXO, sXP, fin_t, fin_t2, fin_t3, up_same, up_ne, ne_eq, not_false_eq_true, AVal.bool.injEq, decide_eq_true_eq, decide_eq_false_iff_not, Int.ofNat_eq_natCast, Int.reduceNegSucc, Int.cast_ofNat_Int, reduceCtorEq, bin_lss, bin_leq, bin_gtr, bin_geq, bin_eql, bin_neq, bin_add, bin_sub, bin_mul, Bool.not_eq_true', Bool.not_eq_false', Bool.true_eq_false, Bool.false_eq_true, Nat.reduceEqDiff, ↓reduceIte, if_true, if_false, Nat.reduceAdd, Int.reduceEq, Int.reduceLT, Int.reduceLE, g3, g5, g6, g7, hz, hne]
      exact ⟨by trivial, by trivial, by rw [hA]; rfl, hE⟩
  clear g3 g5 g6 g7 T
  rintro T H1 ⟨g3, g6, g7, hE⟩
  generalize asc (decD a) = w at *
  by_cases hr0 : r = 0
  · subst hr0
    have hz : ¬ (0 : Int) < ((0 : Nat) : Int) := by omega
    simp only [pf_min, undef_bool, str_len, str_eql, str_neq, conv_in, un_not, eq_self, decide_true, decide_false, Bool.not_true, Bool.not_false, argE_0, argE_1, argE_2, argE_3, argE_4, aw_skip, aw_reg, aw_seq, aw_cond, aw_block, aw_exit, aw_ret, inSeq_normal, inSeq_exit, inSeq_ret, inBlk_exit, inBlk_normal, inBlk_ret, OptK_some, OptH_some, OptS_some, kont_app, ar_nil, ar_guard, ar_mv, ar_pick, ar_new, ar_box, ar_build, ar_buildSl, ar_load, ar_store, ar_nilChk, ar_bin, ar_un, ar_conv, ar_convSB, ar_convBS, ar_mkFunc, ar_mkIface, ar_mkSlice, ar_sl, ar_slStr, ar_fieldA, ar_field, ar_idxA, ar_idxArr, ar_idx, ar_idxS, ar_extract, ar_append, ar_len, ar_call, ar_callv, callvP_func, List.nil_append, List.cons_append, List.append_nil, ar_pf, ar_hf, ar_slA, upO_some, upO_none, sX_t, sX_c, sX_f, sXs, sXO, sXP, fin_t, fin_t2, fin_t3, up_same, up_ne, ne_eq, not_false_eq_true, AVal.bool.injEq, decide_eq_true_eq, decide_eq_false_iff_not, Int.ofNat_eq_natCast, Int.reduceNegSucc, Int.cast_ofNat_Int, reduceCtorEq, bin_lss, bin_leq, bin_gtr, bin_geq, bin_eql, bin_neq, bin_add, bin_sub, bin_mul, Bool.not_eq_true', Bool.not_eq_false', Bool.true_eq_false, Bool.false_eq_true, Nat.reduceEqDiff, ↓reduceIte, if_true, if_false, Nat.reduceAdd, Int.reduceEq, Int.reduceLT, Int.reduceLE, g3, g6, g7, hz]
    refine aw_loop (fun q (T : Env) H' => T 3 = .str sg ∧ T 6 = .int .u64 0 ∧ T 7 = .str w ∧ Ext H.next H H') 0 ⟨g3, g6, g7, hE⟩ ?_
    clear g3 g6 g7 hE T H1
    rintro q T H1 ⟨g3, g6, g7, hE⟩
    have hadd := str_add (x := sg) (y := w) (by omega)
    simp only [pf_min, undef_bool, str_len, str_eql, str_neq, conv_in, un_not, eq_self, decide_true, decide_false, Bool.not_true, Bool.not_false, argE_0, argE_1, argE_2, argE_3, argE_4, aw_skip, aw_reg, aw_seq, aw_cond, aw_block, aw_exit, aw_ret, inSeq_normal, inSeq_exit, inSeq_ret, inBlk_exit, inBlk_normal, inBlk_ret, OptK_some, OptH_some, OptS_some, kont_app, ar_nil, ar_guard, ar_mv, ar_pick, ar_new, ar_box, ar_build, ar_buildSl, ar_load, ar_store, ar_nilChk, ar_bin, ar_un, ar_conv, ar_convSB, ar_convBS, ar_mkFunc, ar_mkIface, ar_mkSlice, ar_sl, ar_slStr, ar_fieldA, ar_field, ar_idxA, ar_idxArr, ar_idx, ar_idxS, ar_extract, ar_append, ar_len, ar_call, ar_callv, callvP_func, List.nil_append, List.cons_append, List.append_nil, ar_pf, ar_hf, ar_slA, upO_some, upO_none, sX_t, sX_c, sX_f, sXs, sXO, sXP, fin_t, fin_t2, fin_t3, up_same, up_ne, ne_eq, not_false_eq_true, AVal.bool.injEq, decide_eq_true_eq, decide_eq_false_iff_not, Int.ofNat_eq_natCast, Int.reduceNegSucc, Int.cast_ofNat_Int, reduceCtorEq, bin_lss, bin_leq, bin_gtr, bin_geq, bin_eql, bin_neq, bin_add, bin_sub, bin_mul, Bool.not_eq_true', Bool.not_eq_false', Bool.true_eq_false, Bool.false_eq_true, Nat.reduceEqDiff, ↓reduceIte, if_true, if_false, Nat.reduceAdd, Int.reduceEq, Int.reduceLT, Int.reduceLE, g3, g6, g7, Int.lt_irrefl, hadd]
    exact ⟨by simp [tailF], hE⟩
  · have hz : (0 : Int) < (r : Int) := by omega
    have hadd := str_add (x := w) (y := [46]) (by simp; omega)
    have ht : tailF r = [46] ++ asc (fracD 32 r) := by rw [tailF, if_neg hr0]; rfl
    rw [ht]
    simp only [pf_min, undef_bool, str_len, str_eql, str_neq, conv_in, un_not, eq_self, decide_true, decide_false, Bool.not_true, Bool.not_false, argE_0, argE_1, argE_2, argE_3, argE_4, aw_skip, aw_reg, aw_seq, aw_cond, aw_block, aw_exit, aw_ret, inSeq_normal, inSeq_exit, inSeq_ret, inBlk_exit, inBlk_normal, inBlk_ret, OptK_some, OptH_some, OptS_some, kont_app, ar_nil, ar_guard, ar_mv, ar_pick, ar_new, ar_box, ar_build, ar_buildSl, ar_load, ar_store, ar_nilChk, ar_bin, ar_un, ar_conv, ar_convSB, ar_convBS, ar_mkFunc, ar_mkIface, ar_mkSlice, ar_sl, ar_slStr, ar_fieldA, ar_field, ar_idxA, ar_idxArr, ar_idx, ar_idxS, ar_extract, ar_append, ar_len, ar_call, ar_callv, callvP_func, List.nil_append, List.cons_append, List.append_nil, ar_pf, ar_hf, ar_slA, upO_some, upO_none, sX_t, sX_c, sX_f, sXs, sXO, sXP, fin_t, fin_t2, fin_t3, up_same, up_ne, ne_eq, not_false_eq_true, AVal.bool.injEq, decide_eq_true_eq, decide_eq_false_iff_not, Int.ofNat_eq_natCast, Int.reduceNegSucc, Int.cast_ofNat_Int, reduceCtorEq, bin_lss, bin_leq, bin_gtr, bin_geq, bin_eql, bin_neq, bin_add, bin_sub, bin_mul, Bool.not_eq_true', Bool.not_eq_false', Bool.true_eq_false, Bool.false_eq_true, Nat.reduceEqDiff, ↓reduceIte, if_true, if_false, Nat.reduceAdd, Int.reduceEq, Int.reduceLT, Int.reduceLE, g3, g6, g7, hz, hadd]
    refine aw_loop (fun q (T : Env) H' => ∃ (x : Nat) (acc : Bs), q ≤ 32 ∧ x < 4294967296 ∧ 2 ^ (32 - q) ∣ x ∧ acc.length + q ≤ 50 ∧ T 3 = .str sg ∧ T 6 = .int .u64 (x : Int) ∧ T 7 = .str acc ∧ acc ++ asc (fracD q x) = w ++ ([46] ++ asc (fracD 32 r)) ∧ Ext H.next H H') 32
      ⟨r, w ++ [46], Nat.le_refl _, hr, by simp, by simp; omega, by simp only [pf_min, undef_bool, str_len, str_eql, str_neq, conv_in, un_not, eq_self, decide_true, decide_false, Bool.not_true, Bool.not_false, argE_0, argE_1, argE_2, argE_3, argE_4, aw_skip, aw_reg, aw_seq, aw_cond, aw_block, aw_exit, aw_ret, inSeq_normal, inSeq_exit, inSeq_ret, inBlk_exit, inBlk_normal, inBlk_ret, OptK_some, OptH_some, OptS_some, kont_app, ar_nil, ar_guard, ar_mv, ar_pick, ar_new, ar_box, ar_build, ar_buildSl, ar_load, ar_store, ar_nilChk, ar_bin, ar_un, ar_conv, ar_convSB, ar_convBS, ar_mkFunc, ar_mkIface, ar_mkSlice, ar_sl, ar_slStr, ar_fieldA, ar_field, ar_idxA, ar_idxArr, ar_idx, ar_idxS, ar_extract, ar_append, ar_len, ar_call, ar_callv, callvP_func, List.nil_append, List.cons_append, List.append_nil, ar_pf, ar_hf, ar_slA, upO_some, upO_none, sX_t, sX_c, sX_f, sXs, sXO, sXP, fin_t, fin_t2, fin_t3, up_same, up_ne, ne_eq, not_false_eq_true, AVal.bool.injEq, decide_eq_true_eq, decide_eq_false_iff_not, Int.ofNat_eq_natCast, Int.reduceNegSucc, Int.cast_ofNat_Int, reduceCtorEq, bin_lss, bin_leq, bin_gtr, bin_geq, bin_eql, bin_neq, bin_add, bin_sub, bin_mul, Bool.not_eq_true', Bool.not_eq_false', Bool.true_eq_false, Bool.false_eq_true, Nat.reduceEqDiff, ↓reduceIte, if_true, if_false, Nat.reduceAdd, Int.reduceEq, Int.reduceLT, Int.reduceLE, g3], by simp only [pf_min, undef_bool, str_len, str_eql, str_neq, conv_in, un_not, eq_self, decide_true, decide_false, Bool.not_true, Bool.not_false, argE_0, argE_1, argE_2, argE_3, argE_4, aw_skip, aw_reg, aw_seq, aw_cond, aw_block, aw_exit, aw_ret, inSeq_normal, inSeq_exit, inSeq_ret, inBlk_exit, inBlk_normal, inBlk_ret, OptK_some, OptH_some, OptS_some, kont_app, ar_nil, ar_guard, ar_mv, ar_pick, ar_new, ar_box, ar_build, ar_buildSl, ar_load, ar_store, ar_nilChk, ar_bin, ar_un, ar_conv, ar_convSB, ar_convBS, ar_mkFunc, ar_mkIface, ar_mkSlice, ar_sl, ar_slStr, ar_fieldA, ar_field, ar_idxA, ar_idxArr, ar_idx, ar_idxS, ar_extract, ar_append, ar_len, ar_call, ar_callv, callvP_func, List.nil_append, List.cons_append, List.append_nil, ar_pf, ar_hf, ar_slA, upO_some, upO_none, sX_t, sX_c, sX_f, sXs, sXO, sXP, fin_t, fin_t2, fin_t3, up_same, up_ne, ne_eq, not_false_eq_true, AVal.bool.injEq, decide_eq_true_eq, decide_eq_false_iff_not, Int.ofNat_eq_natCast, Int.reduceNegSucc, Int.cast_ofNat_Int, reduceCtorEq, bin_lss, bin_leq, bin_gtr, bin_geq, bin_eql, bin_neq, bin_add, bin_sub, bin_mul, Bool.not_eq_true', Bool.not_eq_false', Bool.true_eq_false, Bool.false_eq_true, Nat.reduceEqDiff, ↓reduceIte, if_true, if_false, Nat.reduceAdd, Int.reduceEq, Int.reduceLT, Int.reduceLE, g6], by simp only [pf_min, undef_bool, str_len, str_eql, str_neq, conv_in, un_not, eq_self, decide_true, decide_false, Bool.not_true, Bool.not_false, argE_0, argE_1, argE_2, argE_3, argE_4, aw_skip, aw_reg, aw_seq, aw_cond, aw_block, aw_exit, aw_ret, inSeq_normal, inSeq_exit, inSeq_ret, inBlk_exit, inBlk_normal, inBlk_ret, OptK_some, OptH_some, OptS_some, kont_app, ar_nil, ar_guard, ar_mv, ar_pick, ar_new, ar_box, ar_build, ar_buildSl, ar_load, ar_store, ar_nilChk, ar_bin, ar_un, ar_conv, ar_convSB, ar_convBS, ar_mkFunc, ar_mkIface, ar_mkSlice, ar_sl, ar_slStr, ar_fieldA, ar_field, ar_idxA, ar_idxArr, ar_idx, ar_idxS, ar_extract, ar_append, ar_len, ar_call, ar_callv, callvP_func, List.nil_append, List.cons_append, List.append_nil, ar_pf, ar_hf, ar_slA, upO_some, upO_none, sX_t, sX_c, sX_f, sXs, sXO, sXP, fin_t, fin_t2, fin_t3, up_same, up_ne, ne_eq, not_false_eq_true, AVal.bool.injEq, decide_eq_true_eq, decide_eq_false_iff_not, Int.ofNat_eq_natCast, Int.reduceNegSucc, Int.cast_ofNat_Int, reduceCtorEq, bin_lss, bin_leq, bin_gtr, bin_geq, bin_eql, bin_neq, bin_add, bin_sub, bin_mul, Bool.not_eq_true', Bool.not_eq_false', Bool.true_eq_false, Bool.false_eq_true, Nat.reduceEqDiff, ↓reduceIte, if_true, if_false, Nat.reduceAdd, Int.reduceEq, Int.reduceLT, Int.reduceLE], by simp, hE⟩ ?_
    clear g3 g6 g7 hE T H1 hadd
    rintro q T H1 ⟨x, acc, hq, hx, hdv, hal, g3, g6, g7, hA, hE⟩
    by_cases hx0 : x = 0
    · subst hx0
      have hz : ¬ (0 : Int) < ((0 : Nat) : Int) := by omega
      have hf : fracD q 0 = [] := by cases q <;> simp [fracD]
      rw [hf] at hA
      simp only [asc, List.map_nil, List.append_nil] at hA
      have hadd := str_add (x := sg) (y := acc) (by omega)
      simp only [pf_min, undef_bool, str_len, str_eql, str_neq, conv_in, un_not, eq_self, decide_true, decide_false, Bool.not_true, Bool.not_false, argE_0, argE_1, argE_2, argE_3, argE_4, aw_skip, aw_reg, aw_seq, aw_cond, aw_block, aw_exit, aw_ret, inSeq_normal, inSeq_exit, inSeq_ret, inBlk_exit, inBlk_normal, inBlk_ret, OptK_some, OptH_some, OptS_some, kont_app, ar_nil, ar_guard, ar_mv, ar_pick, ar_new, ar_box, ar_build, ar_buildSl, ar_load, ar_store, ar_nilChk, ar_bin, ar_un, ar_conv, ar_convSB, ar_convBS, ar_mkFunc, ar_mkIface, ar_mkSlice, ar_sl, ar_slStr, ar_fieldA, ar_field, ar_idxA, ar_idxArr, ar_idx, ar_idxS, ar_extract, ar_append, ar_len, ar_call, ar_callv, callvP_func, List.nil_append, List.cons_append, List.append_nil, ar_pf, ar_hf, ar_slA, upO_some, upO_none, sX_t, sX_c, sX_f, sXs, sXO, sXP, fin_t, fin_t2, fin_t3, up_same, up_ne, ne_eq, not_false_eq_true, AVal.bool.injEq, decide_eq_true_eq, decide_eq_false_iff_not, Int.ofNat_eq_natCast, Int.reduceNegSucc, Int.cast_ofNat_Int, reduceCtorEq, bin_lss, bin_leq, bin_gtr, bin_geq, bin_eql, bin_neq, bin_add, bin_sub, bin_mul, Bool.not_eq_true', Bool.not_eq_false', Bool.true_eq_false, Bool.false_eq_true, Nat.reduceEqDiff, ↓reduceIte, if_true, if_false, Nat.reduceAdd, Int.reduceEq, Int.reduceLT, Int.reduceLE, g3, g6, g7, hz, hadd]
      exact ⟨by rw [hA]; rfl, hE⟩
    · obtain ⟨k', rfl, hf, hdv'⟩ := frac_step hq hx hdv hx0
      have hz : (0 : Int) < (x : Int) := by omega
      have w1 : IntKind.u64.wrap ((x : Int) * 10) = ((x * 10 : Nat) : Int) := by rw [wrapU64 (by omega) (by omega)]; omega
      have w2 : (((x * 10 : Nat) : Int)).tdiv 4294967296 = ((x * 10 / 4294967296 : Nat) : Int) := rfl
      have w3 : (((x * 10 : Nat) : Int)).tmod 4294967296 = ((x * 10 % 4294967296 : Nat) : Int) := rfl
      have w4 : IntKind.u64.wrap ((x * 10 / 4294967296 : Nat) : Int) = ((x * 10 / 4294967296 : Nat) : Int) := wrapU64 (by omega) (by omega)
      have w5 : IntKind.u64.wrap (48 + ((x * 10 / 4294967296 : Nat) : Int)) = ((48 + x * 10 / 4294967296 : Nat) : Int) := by rw [wrapU64 (by omega) (by omega)]; omega
      have w6 : IntKind.u8.wrap ((48 + x * 10 / 4294967296 : Nat) : Int) = ((48 + x * 10 / 4294967296 : Nat) : Int) := wrapU8 (by omega) (by omega)
      have e1 := bin_rem .u64 ((x * 10 : Nat) : Int) 4294967296 (by omega)
      have e2 := bin_quo .u64 ((x * 10 : Nat) : Int) 4294967296 (by omega)
      have hadd := str_add (x := acc) (y := [UInt8.ofNat (48 + x * 10 / 4294967296)]) (by simp; omega)
      simp only [pf_min, undef_bool, str_len, str_eql, str_neq, conv_in, un_not, eq_self, decide_true, decide_false, Bool.not_true, Bool.not_false, argE_0, argE_1, argE_2, argE_3, argE_4, aw_skip, aw_reg, aw_seq, aw_cond, aw_block, aw_exit, aw_ret, inSeq_normal, inSeq_exit, inSeq_ret, inBlk_exit, inBlk_normal, inBlk_ret, OptK_some, OptH_some, OptS_some, kont_app, ar_nil, ar_guard, ar_mv, ar_pick, ar_new, ar_box, ar_build, ar_buildSl, ar_load, ar_store, ar_nilChk, ar_bin, ar_un, ar_conv, ar_convSB, ar_convBS, ar_mkFunc, ar_mkIface, ar_mkSlice, ar_sl, ar_slStr, ar_fieldA, ar_field, ar_idxA, ar_idxArr, ar_idx, ar_idxS, ar_extract, ar_append, ar_len, ar_call, ar_callv, callvP_func, List.nil_append, List.cons_append, List.append_nil, ar_pf, ar_hf, ar_slA, upO_some, upO_none, sX_t, sX_c, sX_f, sXs, sXO, sXP, fin_t, fin_t2, fin_t3, up_same, up_ne, ne_eq, not_false_eq_true, AVal.bool.injEq, decide_eq_true_eq, decide_eq_false_iff_not, Int.ofNat_eq_natCast, Int.reduceNegSucc, Int.cast_ofNat_Int, reduceCtorEq, bin_lss, bin_leq, bin_gtr, bin_geq, bin_eql, bin_neq, bin_add, bin_sub, bin_mul, Bool.not_eq_true', Bool.not_eq_false', Bool.true_eq_false, Bool.false_eq_true, Nat.reduceEqDiff, ↓reduceIte, if_true, if_false, Nat.reduceAdd, Int.reduceEq, Int.reduceLT, Int.reduceLE, g3, g6, g7, hz, w1, e1, e2, w2, w3, w4, w5, w6, build1 _ _ (x := .int .u8 ((48 + x * 10 / 4294967296 : Nat) : Int)) rfl, bs_one, hadd]
      refine ⟨k', by omega, x * 10 % 4294967296, _, by omega, by omega, hdv', ?_, by trivial, rfl, rfl, ?_, hE.push hE.next _⟩
      · simp; omega
      · refine Eq.trans ?_ hA
        rw [hf]; simp [asc]
theorem rsaid_spec (h10 : N.is 10 = false) {n : Int} (h1 : -9223372036854775808 ≤ n) (h2 : n ≤ 9223372036854775807) {H : AHeap} :
    ACalls Tryd.prog N 10 [.int .i64 n] H fun v H' => v = .str (numeralF n) ∧ Ext H.next H H' := by
  refine acalls_ofN h10 za10 rfl ?_
  have hsz : n.natAbs ≤ 9223372036854775808 := by omega
  have e1 := bin_rem .u64 ((n.natAbs : Nat) : Int) 4294967296 (by omega)
  have e2 := bin_quo .u64 ((n.natAbs : Nat) : Int) 4294967296 (by omega)
  have w3 : (((n.natAbs : Nat) : Int)).tdiv 4294967296 = ((n.natAbs / 4294967296 : Nat) : Int) := rfl
  have w4 : (((n.natAbs : Nat) : Int)).tmod 4294967296 = ((n.natAbs % 4294967296 : Nat) : Int) := rfl
  have w5 : IntKind.u64.wrap ((n.natAbs / 4294967296 : Nat) : Int) = ((n.natAbs / 4294967296 : Nat) : Int) := wrapU64 (by omega) (by omega)
  by_cases hneg : n < 0
  · have w1 : IntKind.u64.wrap n = n + 18446744073709551616 := by rw [IntKind.wrap_u64]; omega
    have w2 : IntKind.u64.wrap (0 - (n + 18446744073709551616)) = (n.natAbs : Int) := by rw [IntKind.wrap_u64]; omega
    have hd : numeralF n = [45] ++ (asc (decD (n.natAbs / 4294967296)) ++ tailF (n.natAbs % 4294967296)) := by rw [numeralF, if_pos hneg]
    rw [hd]
    have t := fun (T : Env) g3 g5 g6 g7 => tail10 (N := N) (sg := [45]) (by simp) (a := n.natAbs / 4294967296) (by omega) (r := n.natAbs % 4294967296) (by omega) (T := T) g3 g5 g6 g7 (H := H)
    simp only [code10, tl, c10, aw_seq, aw_block] at t
    simp only [c10, pf_min, undef_bool, str_len, str_eql, str_neq, conv_in, un_not, eq_self, decide_true, decide_false, Bool.not_true, Bool.not_false, argE_0, argE_1, argE_2, argE_3, argE_4, aw_skip, aw_reg, aw_seq, aw_cond, aw_block, aw_exit, aw_ret, inSeq_normal, inSeq_exit, inSeq_ret, inBlk_exit, inBlk_normal, inBlk_ret, OptK_some, OptH_some, OptS_some, kont_app, ar_nil, ar_guard, ar_mv, ar_pick, ar_new, ar_box, ar_build, ar_buildSl, ar_load, ar_store, ar_nilChk, ar_bin, ar_un, ar_conv, ar_convSB, ar_convBS, ar_mkFunc, ar_mkIface, ar_mkSlice, ar_sl, ar_slStr, ar_fieldA, ar_field, ar_idxA, ar_idxArr, ar_idx, ar_idxS, ar_extract, ar_append, ar_len, ar_call, ar_callv, callvP_func, List.nil_append, List.cons_append, List.append_nil, ar_pf, ar_hf, ar_slA, upO_some, upO_none, sX_t, sX_c, sX_f, sXs, sXO, sXP, fin_t, fin_t2, fin_t3, up_same, up_ne, ne_eq, not_false_eq_true, AVal.bool.injEq, decide_eq_true_eq, decide_eq_false_iff_not, Int.ofNat_eq_natCast, Int.reduceNegSucc, Int.cast_ofNat_Int, reduceCtorEq, bin_lss, bin_leq, bin_gtr, bin_geq, bin_eql, bin_neq, bin_add, bin_sub, bin_mul, Bool.not_eq_true', Bool.not_eq_false', Bool.true_eq_false, Bool.false_eq_true, Nat.reduceEqDiff, ↓reduceIte, if_true, if_false, Nat.reduceAdd, Int.reduceEq, Int.reduceLT, Int.reduceLE, hneg, w1, un_neg, w2, e1, e2, w3, w4, w5]
    refine t _ ?_ ?_ ?_ ?_ <;> simp only [pf_min, undef_bool, str_len, str_eql, str_neq, conv_in, un_not, eq_self, decide_true, decide_false, Bool.not_true, Bool.not_false, argE_0, argE_1, argE_2, argE_3, argE_4, aw_skip, aw_reg, aw_seq, aw_cond, aw_block, aw_exit, aw_ret, inSeq_normal, inSeq_exit, inSeq_ret, inBlk_exit, inBlk_normal, inBlk_ret, OptK_some, OptH_some, OptS_some, kont_app, ar_nil, ar_guard, ar_mv, ar_pick, ar_new, ar_box, ar_build, ar_buildSl, ar_load, ar_store, ar_nilChk, ar_bin, ar_un, ar_conv, ar_convSB, ar_convBS, ar_mkFunc, ar_mkIface, ar_mkSlice, ar_sl, ar_slStr, ar_fieldA, ar_field, ar_idxA, ar_idxArr, ar_idx, ar_idxS, ar_extract, ar_append, ar_len, ar_call, ar_callv, callvP_func, List.nil_append, List.cons_append, List.append_nil, ar_pf, ar_hf, ar_slA, upO_some, upO_none, sX_t, sX_c, sX_f, sXs, sXO, sXP, fin_t, fin_t2, fin_t3, up_same, up_ne, ne_eq, not_false_eq_true, AVal.bool.injEq, decide_eq_true_eq, decide_eq_false_iff_not, Int.ofNat_eq_natCast, Int.reduceNegSucc, Int.cast_ofNat_Int, reduceCtorEq, bin_lss, bin_leq, bin_gtr, bin_geq, bin_eql, bin_neq, bin_add, bin_sub, bin_mul, Bool.not_eq_true', Bool.not_eq_false', Bool.true_eq_false, Bool.false_eq_true, Nat.reduceEqDiff, ↓reduceIte, if_true, if_false, Nat.reduceAdd, Int.reduceEq, Int.reduceLT, Int.reduceLE]
  · have w1 : IntKind.u64.wrap n = (n.natAbs : Int) := by rw [IntKind.wrap_u64]; omega
    have hd : numeralF n = [] ++ (asc (decD (n.natAbs / 4294967296)) ++ tailF (n.natAbs % 4294967296)) := by rw [numeralF, if_neg hneg]
    rw [hd]
    have t := fun (T : Env) g3 g5 g6 g7 => tail10 (N := N) (sg := []) (by simp) (a := n.natAbs / 4294967296) (by omega) (r := n.natAbs % 4294967296) (by omega) (T := T) g3 g5 g6 g7 (H := H)
    simp only [code10, tl, c10, aw_seq, aw_block] at t
    simp only [c10, pf_min, undef_bool, str_len, str_eql, str_neq, conv_in, un_not, eq_self, decide_true, decide_false, Bool.not_true, Bool.not_false, argE_0, argE_1, argE_2, argE_3, argE_4, aw_skip, aw_reg, aw_seq, aw_cond, aw_block, aw_exit, aw_ret, inSeq_normal, inSeq_exit, inSeq_ret, inBlk_exit, inBlk_normal, inBlk_ret, OptK_some, OptH_some, OptS_some, kont_app, ar_nil, ar_guard, ar_mv, ar_pick, ar_new, ar_box, ar_build, ar_buildSl, ar_load, ar_store, ar_nilChk, ar_bin, ar_un, ar_conv, ar_convSB, ar_convBS, ar_mkFunc, ar_mkIface, ar_mkSlice, ar_sl, ar_slStr, ar_fieldA, ar_field, ar_idxA, ar_idxArr, ar_idx, ar_idxS, ar_extract, ar_append, ar_len, ar_call, ar_callv, callvP_func, List.nil_append, List.cons_append, List.append_nil, ar_pf, ar_hf, ar_slA, upO_some, upO_none, sX_t, sX_c, sX_f, sXs, sXO, sXP, fin_t, fin_t2, fin_t3, up_same, up_ne, ne_eq, not_false_eq_true, AVal.bool.injEq, decide_eq_true_eq, decide_eq_false_iff_not, Int.ofNat_eq_natCast, Int.reduceNegSucc, Int.cast_ofNat_Int, reduceCtorEq, bin_lss, bin_leq, bin_gtr, bin_geq, bin_eql, bin_neq, bin_add, bin_sub, bin_mul, Bool.not_eq_true', Bool.not_eq_false', Bool.true_eq_false, Bool.false_eq_true, Nat.reduceEqDiff, ↓reduceIte, if_true, if_false, Nat.reduceAdd, Int.reduceEq, Int.reduceLT, Int.reduceLE, hneg, w1, e1, e2, w3, w4, w5]
    refine t _ ?_ ?_ ?_ ?_ <;> simp only [pf_min, undef_bool, str_len, str_eql, str_neq, conv_in, un_not, eq_self, decide_true, decide_false, Bool.not_true, Bool.not_false, argE_0, argE_1, argE_2, argE_3, argE_4, aw_skip, aw_reg, aw_seq, aw_cond, aw_block, aw_exit, aw_ret, inSeq_normal, inSeq_exit, inSeq_ret, inBlk_exit, inBlk_normal, inBlk_ret, OptK_some, OptH_some, OptS_some, kont_app, ar_nil, ar_guard, ar_mv, ar_pick, ar_new, ar_box, ar_build, ar_buildSl, ar_load, ar_store, ar_nilChk, ar_bin, ar_un, ar_conv, ar_convSB, ar_convBS, ar_mkFunc, ar_mkIface, ar_mkSlice, ar_sl, ar_slStr, ar_fieldA, ar_field, ar_idxA, ar_idxArr, ar_idx, ar_idxS, ar_extract, ar_append, ar_len, ar_call, ar_callv, callvP_func, List.nil_append, List.cons_append, List.append_nil, ar_pf, ar_hf, ar_slA, upO_some, upO_none, sX_t, sX_c, sX_f, sXs, sXO, sXP, fin_t, fin_t2, fin_t3, up_same, up_ne, ne_eq, not_false_eq_true, AVal.bool.injEq, decide_eq_true_eq, decide_eq_false_iff_not, Int.ofNat_eq_natCast, Int.reduceNegSucc, Int.cast_ofNat_Int, reduceCtorEq, bin_lss, bin_leq, bin_gtr, bin_geq, bin_eql, bin_neq, bin_add, bin_sub, bin_mul, Bool.not_eq_true', Bool.not_eq_false', Bool.true_eq_false, Bool.false_eq_true, Nat.reduceEqDiff, ↓reduceIte, if_true, if_false, Nat.reduceAdd, Int.reduceEq, Int.reduceLT, Int.reduceLE]
end Go.Proofs.Wo
