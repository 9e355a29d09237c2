/- Part of a proof (W4 W5 W6); no condition. -/
import Derived.Test.YtdodomcjoekpbaaDoorP7
set_option linter.unusedSimpArgs false
set_option linter.unusedVariables false
/- Words: strings.Cut at a point; what a text says as a number: the contracts. -/
namespace Go.Proofs.Wo
open Go.Abs Go.Abs.S
set_option linter.unusedSimpArgs false
variable {N : ANat}
/-- not a point -/
def npt (c : UInt8) : Bool := !decide (c.toNat = 46)
def whole (s : Bs) : Bs := s.takeWhile npt
def behind (s : Bs) : Bs := (s.dropWhile npt).drop 1
def hasPt (s : Bs) : Bool := !(s.all npt)
theorem whole_le (s : Bs) : (whole s).length ≤ s.length := (List.takeWhile_sublist (p := npt) (l := s)).length_le
theorem whole_eq (s : Bs) : whole s = s.take (whole s).length := by
  exact (List.prefix_iff_eq_take.1 (List.takeWhile_prefix npt (l := s)))
theorem drop_whole (s : Bs) : s.drop (whole s).length = s.dropWhile npt := by
  have h : whole s ++ s.dropWhile npt = s := List.takeWhile_append_dropWhile (p := npt) (l := s)
  generalize hw : whole s = w at *
  conv => lhs; rw [← h]
  rw [List.drop_left]
theorem behind_eq (s : Bs) : behind s = s.drop ((whole s).length + 1) := by
  rw [behind, ← drop_whole, List.drop_drop]
theorem hasPt_lt {s : Bs} (h : hasPt s = true) : (whole s).length < s.length := by
  rcases Nat.lt_or_ge (whole s).length s.length with hl | hl
  · exact hl
  · have e : whole s = s := by rw [whole_eq s, List.take_of_length_le hl]
    have : s.all npt = true := by rw [← e]; exact List.all_takeWhile
    simp [hasPt, this] at h
theorem ibF_go (s : Bs) (n : Nat) : ibF 46 s n = if hasPt s then ((n + (whole s).length : Nat) : Int) else -1 := by
  induction s generalizing n with
  | nil => rfl
  | cons c r ih =>
    rw [ibF]
    by_cases h : c.toNat = 46
    · have hc : c = 46 := UInt8.toNat_inj.1 h
      subst hc
      simp [hasPt, npt, whole]
    · have hc : ¬ c = 46 := fun e => h (by rw [e]; rfl)
      have hn : npt c = true := by simp [npt, h]
      have e1 : hasPt (c :: r) = hasPt r := by simp [hasPt, hn]
      have e2 : (whole (c :: r)).length = (whole r).length + 1 := by rw [whole, List.takeWhile_cons_of_pos hn]; rfl
      have e3 : Nat.beq c.toNat (UInt8.toNat 46) = false := by
        cases hb : Nat.beq c.toNat (UInt8.toNat 46) with
        | false => rfl
        | true => exact absurd (Nat.eq_of_beq_eq_true hb) h
      rw [e1, e2, e3, cond_false, ih, show n + 1 + (whole r).length = n + ((whole r).length + 1) by omega]
theorem no_pt {s : Bs} (h : hasPt s = false) : whole s = s ∧ behind s = [] := by
  have ha : s.all npt = true := by simpa [hasPt] using h
  have hall := List.all_eq_true.1 ha
  have e : whole s = s := by
    rw [whole]
    have := List.takeWhile_append_of_pos (p := npt) (l₁ := s) (l₂ := []) hall
    simpa using this
  exact ⟨e, by rw [behind_eq, e]; simp⟩
theorem ibs_spec (h76 : N.is 76 = false) {H : AHeap} {s : Bs} : ACalls Tryd.prog N 76 [.str s, .int .u8 46] H fun v H' => v = .int .i64 (ibF 46 s 0) ∧ H = H' := by
  refine acalls_ofN h76 za76 rfl ?_
  have e : aPf .ibs [.str s, .int .u8 46] = some (.int .i64 (ibF 46 s 0)) := rfl
  simp only [c76, pf_min, undef_bool, str_len, str_eql, str_neq, conv_in, un_not, eq_self, decide_true, decide_false, Bool.not_true, Bool.not_false, argE_0, argE_1, argE_2, argE_3, argE_4, aw_skip, aw_reg, aw_seq, aw_cond, aw_block, aw_exit, aw_ret, inSeq_normal, inSeq_exit, inSeq_ret, inBlk_exit, inBlk_normal, inBlk_ret, OptK_some, OptH_some, OptS_some, kont_app, ar_nil, ar_guard, ar_mv, ar_pick, ar_new, ar_box, ar_build, ar_buildSl, ar_load, ar_store, ar_nilChk, ar_bin, ar_un, ar_conv, ar_convSB, ar_convBS, ar_mkFunc, ar_mkIface, ar_mkSlice, ar_sl, ar_slStr, ar_fieldA, ar_field, ar_idxA, ar_idxArr, ar_idx, ar_idxS, ar_extract, ar_append, ar_len, ar_call, ar_callv, callvP_func, List.nil_append, List.cons_append, List.append_nil, ar_pf, ar_hf, ar_slA, upO_some, upO_none, sX_t, sX_c, sX_f, sXs, sXO, sXP, fin_t, fin_t2, fin_t3, up_same, up_ne, ne_eq, not_false_eq_true, AVal.bool.injEq, decide_eq_true_eq, decide_eq_false_iff_not, Int.ofNat_eq_natCast, Int.reduceNegSucc, Int.cast_ofNat_Int, reduceCtorEq, bin_lss, bin_leq, bin_gtr, bin_geq, bin_eql, bin_neq, bin_add, bin_sub, bin_mul, Bool.not_eq_true', Bool.not_eq_false', Bool.true_eq_false, Bool.false_eq_true, Nat.reduceEqDiff, ↓reduceIte, if_true, if_false, Nat.reduceAdd, Int.reduceEq, Int.reduceLT, Int.reduceLE, e]
  exact ⟨by trivial, by trivial⟩
theorem index_spec (h74 : N.is 74 = false) (h76 : N.is 76 = false) {H : AHeap} {s : Bs} : ACalls Tryd.prog N 74 [.str s, .str [46]] H fun v H' => v = .int .i64 (ibF 46 s 0) ∧ H = H' := by
  refine acalls_ofN h74 za74 rfl ?_
  have i0 : aIdxS (.str [46]) (.int .i64 0) = some (.int .u8 46) := rfl
  have hl1 : ((List.length [(46 : UInt8)] : Nat) : Int) = 1 := rfl
  by_cases hs : [46] = s
  · subst hs
    have e : ibF 46 [46] 0 = 0 := rfl
    rw [e]
    simp only [c74, pf_min, undef_bool, str_len, str_eql, str_neq, conv_in, un_not, eq_self, decide_true, decide_false, Bool.not_true, Bool.not_false, argE_0, argE_1, argE_2, argE_3, argE_4, aw_skip, aw_reg, aw_seq, aw_cond, aw_block, aw_exit, aw_ret, inSeq_normal, inSeq_exit, inSeq_ret, inBlk_exit, inBlk_normal, inBlk_ret, OptK_some, OptH_some, OptS_some, kont_app, ar_nil, ar_guard, ar_mv, ar_pick, ar_new, ar_box, ar_build, ar_buildSl, ar_load, ar_store, ar_nilChk, ar_bin, ar_un, ar_conv, ar_convSB, ar_convBS, ar_mkFunc, ar_mkIface, ar_mkSlice, ar_sl, ar_slStr, ar_fieldA, ar_field, ar_idxA, ar_idxArr, ar_idx, ar_idxS, ar_extract, ar_append, ar_len, ar_call, ar_callv, callvP_func, List.nil_append, List.cons_append, List.append_nil, ar_pf, ar_hf, ar_slA, upO_some, upO_none, sX_t, sX_c, sX_f, sXs, sXO, sXP, fin_t, fin_t2, fin_t3, up_same, up_ne, ne_eq, not_false_eq_true, AVal.bool.injEq, decide_eq_true_eq, decide_eq_false_iff_not, Int.ofNat_eq_natCast, Int.reduceNegSucc, Int.cast_ofNat_Int, reduceCtorEq, bin_lss, bin_leq, bin_gtr, bin_geq, bin_eql, bin_neq, bin_add, bin_sub, bin_mul, Bool.not_eq_true', Bool.not_eq_false', Bool.true_eq_false, Bool.false_eq_true, Nat.reduceEqDiff, ↓reduceIte, if_true, if_false, Nat.reduceAdd, Int.reduceEq, Int.reduceLT, Int.reduceLE, hl1]
    exact ⟨by trivial, by trivial⟩
  · simp only [c74, pf_min, undef_bool, str_len, str_eql, str_neq, conv_in, un_not, eq_self, decide_true, decide_false, Bool.not_true, Bool.not_false, argE_0, argE_1, argE_2, argE_3, argE_4, aw_skip, aw_reg, aw_seq, aw_cond, aw_block, aw_exit, aw_ret, inSeq_normal, inSeq_exit, inSeq_ret, inBlk_exit, inBlk_normal, inBlk_ret, OptK_some, OptH_some, OptS_some, kont_app, ar_nil, ar_guard, ar_mv, ar_pick, ar_new, ar_box, ar_build, ar_buildSl, ar_load, ar_store, ar_nilChk, ar_bin, ar_un, ar_conv, ar_convSB, ar_convBS, ar_mkFunc, ar_mkIface, ar_mkSlice, ar_sl, ar_slStr, ar_fieldA, ar_field, ar_idxA, ar_idxArr, ar_idx, ar_idxS, ar_extract, ar_append, ar_len, ar_call, ar_callv, callvP_func, List.nil_append, List.cons_append, List.append_nil, ar_pf, ar_hf, ar_slA, upO_some, upO_none, sX_t, sX_c, sX_f, sXs, sXO, sXP, fin_t, fin_t2, fin_t3, up_same, up_ne, ne_eq, not_false_eq_true, AVal.bool.injEq, decide_eq_true_eq, decide_eq_false_iff_not, Int.ofNat_eq_natCast, Int.reduceNegSucc, Int.cast_ofNat_Int, reduceCtorEq, bin_lss, bin_leq, bin_gtr, bin_geq, bin_eql, bin_neq, bin_add, bin_sub, bin_mul, Bool.not_eq_true', Bool.not_eq_false', Bool.true_eq_false, Bool.false_eq_true, Nat.reduceEqDiff, ↓reduceIte, if_true, if_false, Nat.reduceAdd, Int.reduceEq, Int.reduceLT, Int.reduceLE, hl1, hs, i0]
    refine (ibs_spec h76).mono ?_
    rintro v _ ⟨rfl, rfl⟩
    simp only [pf_min, undef_bool, str_len, str_eql, str_neq, conv_in, un_not, eq_self, decide_true, decide_false, Bool.not_true, Bool.not_false, argE_0, argE_1, argE_2, argE_3, argE_4, aw_skip, aw_reg, aw_seq, aw_cond, aw_block, aw_exit, aw_ret, inSeq_normal, inSeq_exit, inSeq_ret, inBlk_exit, inBlk_normal, inBlk_ret, OptK_some, OptH_some, OptS_some, kont_app, ar_nil, ar_guard, ar_mv, ar_pick, ar_new, ar_box, ar_build, ar_buildSl, ar_load, ar_store, ar_nilChk, ar_bin, ar_un, ar_conv, ar_convSB, ar_convBS, ar_mkFunc, ar_mkIface, ar_mkSlice, ar_sl, ar_slStr, ar_fieldA, ar_field, ar_idxA, ar_idxArr, ar_idx, ar_idxS, ar_extract, ar_append, ar_len, ar_call, ar_callv, callvP_func, List.nil_append, List.cons_append, List.append_nil, ar_pf, ar_hf, ar_slA, upO_some, upO_none, sX_t, sX_c, sX_f, sXs, sXO, sXP, fin_t, fin_t2, fin_t3, up_same, up_ne, ne_eq, not_false_eq_true, AVal.bool.injEq, decide_eq_true_eq, decide_eq_false_iff_not, Int.ofNat_eq_natCast, Int.reduceNegSucc, Int.cast_ofNat_Int, reduceCtorEq, bin_lss, bin_leq, bin_gtr, bin_geq, bin_eql, bin_neq, bin_add, bin_sub, bin_mul, Bool.not_eq_true', Bool.not_eq_false', Bool.true_eq_false, Bool.false_eq_true, Nat.reduceEqDiff, ↓reduceIte, if_true, if_false, Nat.reduceAdd, Int.reduceEq, Int.reduceLT, Int.reduceLE]
    exact ⟨by trivial, by trivial⟩
theorem cut_spec (h34 : N.is 34 = false) (h57 : N.is 57 = false) (h74 : N.is 74 = false) (h76 : N.is 76 = false) {H : AHeap} {s : Bs} (hs : s.length ≤ 4611686018427387904) :
    ACalls Tryd.prog N 34 [.str s, .str [46]] H fun v H' => v = .tuple [.str (whole s), .str (behind s), .bool (hasPt s)] ∧ H = H' := by
  refine acalls_ofN h34 za34 rfl ?_
  simp only [c34, pf_min, undef_bool, str_len, str_eql, str_neq, conv_in, un_not, eq_self, decide_true, decide_false, Bool.not_true, Bool.not_false, argE_0, argE_1, argE_2, argE_3, argE_4, aw_skip, aw_reg, aw_seq, aw_cond, aw_block, aw_exit, aw_ret, inSeq_normal, inSeq_exit, inSeq_ret, inBlk_exit, inBlk_normal, inBlk_ret, OptK_some, OptH_some, OptS_some, kont_app, ar_nil, ar_guard, ar_mv, ar_pick, ar_new, ar_box, ar_build, ar_buildSl, ar_load, ar_store, ar_nilChk, ar_bin, ar_un, ar_conv, ar_convSB, ar_convBS, ar_mkFunc, ar_mkIface, ar_mkSlice, ar_sl, ar_slStr, ar_fieldA, ar_field, ar_idxA, ar_idxArr, ar_idx, ar_idxS, ar_extract, ar_append, ar_len, ar_call, ar_callv, callvP_func, List.nil_append, List.cons_append, List.append_nil, ar_pf, ar_hf, ar_slA, upO_some, upO_none, sX_t, sX_c, sX_f, sXs, sXO, sXP, fin_t, fin_t2, fin_t3, up_same, up_ne, ne_eq, not_false_eq_true, AVal.bool.injEq, decide_eq_true_eq, decide_eq_false_iff_not, Int.ofNat_eq_natCast, Int.reduceNegSucc, Int.cast_ofNat_Int, reduceCtorEq, bin_lss, bin_leq, bin_gtr, bin_geq, bin_eql, bin_neq, bin_add, bin_sub, bin_mul, Bool.not_eq_true', Bool.not_eq_false', Bool.true_eq_false, Bool.false_eq_true, Nat.reduceEqDiff, ↓reduceIte, if_true, if_false, Nat.reduceAdd, Int.reduceEq, Int.reduceLT, Int.reduceLE]
  have key : ACalls Tryd.prog N 57 [.str s, .str [46]] H fun v H' => v = .tuple [.str (whole s), .str (behind s), .bool (hasPt s)] ∧ H = H' := by
    refine acalls_ofN h57 za57 rfl ?_
    simp only [c57, pf_min, undef_bool, str_len, str_eql, str_neq, conv_in, un_not, eq_self, decide_true, decide_false, Bool.not_true, Bool.not_false, argE_0, argE_1, argE_2, argE_3, argE_4, aw_skip, aw_reg, aw_seq, aw_cond, aw_block, aw_exit, aw_ret, inSeq_normal, inSeq_exit, inSeq_ret, inBlk_exit, inBlk_normal, inBlk_ret, OptK_some, OptH_some, OptS_some, kont_app, ar_nil, ar_guard, ar_mv, ar_pick, ar_new, ar_box, ar_build, ar_buildSl, ar_load, ar_store, ar_nilChk, ar_bin, ar_un, ar_conv, ar_convSB, ar_convBS, ar_mkFunc, ar_mkIface, ar_mkSlice, ar_sl, ar_slStr, ar_fieldA, ar_field, ar_idxA, ar_idxArr, ar_idx, ar_idxS, ar_extract, ar_append, ar_len, ar_call, ar_callv, callvP_func, List.nil_append, List.cons_append, List.append_nil, ar_pf, ar_hf, ar_slA, upO_some, upO_none, sX_t, sX_c, sX_f, sXs, sXO, sXP, fin_t, fin_t2, fin_t3, up_same, up_ne, ne_eq, not_false_eq_true, AVal.bool.injEq, decide_eq_true_eq, decide_eq_false_iff_not, Int.ofNat_eq_natCast, Int.reduceNegSucc, Int.cast_ofNat_Int, reduceCtorEq, bin_lss, bin_leq, bin_gtr, bin_geq, bin_eql, bin_neq, bin_add, bin_sub, bin_mul, Bool.not_eq_true', Bool.not_eq_false', Bool.true_eq_false, Bool.false_eq_true, Nat.reduceEqDiff, ↓reduceIte, if_true, if_false, Nat.reduceAdd, Int.reduceEq, Int.reduceLT, Int.reduceLE]
    refine (index_spec h74 h76).mono ?_
    rintro v _ ⟨rfl, rfl⟩
    have hl1 : ((List.length [(46 : UInt8)] : Nat) : Int) = 1 := rfl
    rw [ibF_go]
    cases hp : hasPt s with
    | true =>
      have hlt := hasPt_lt hp
      have hge : (0 : Int) ≤ ((0 + (whole s).length : Nat) : Int) := by omega
      rw [Nat.zero_add] at *
      have e1 := str_slH (s := s) (h := (whole s).length) (whole_le s)
      have e2 := str_slL (s := s) (l := (whole s).length + 1) (by omega)
      rw [← whole_eq] at e1
      rw [← behind_eq] at e2
      simp only [pf_min, undef_bool, str_len, str_eql, str_neq, conv_in, un_not, eq_self, decide_true, decide_false, Bool.not_true, Bool.not_false, argE_0, argE_1, argE_2, argE_3, argE_4, aw_skip, aw_reg, aw_seq, aw_cond, aw_block, aw_exit, aw_ret, inSeq_normal, inSeq_exit, inSeq_ret, inBlk_exit, inBlk_normal, inBlk_ret, OptK_some, OptH_some, OptS_some, kont_app, ar_nil, ar_guard, ar_mv, ar_pick, ar_new, ar_box, ar_build, ar_buildSl, ar_load, ar_store, ar_nilChk, ar_bin, ar_un, ar_conv, ar_convSB, ar_convBS, ar_mkFunc, ar_mkIface, ar_mkSlice, ar_sl, ar_slStr, ar_fieldA, ar_field, ar_idxA, ar_idxArr, ar_idx, ar_idxS, ar_extract, ar_append, ar_len, ar_call, ar_callv, callvP_func, List.nil_append, List.cons_append, List.append_nil, ar_pf, ar_hf, ar_slA, upO_some, upO_none, sX_t, sX_c, sX_f, sXs, sXO, sXP, fin_t, fin_t2, fin_t3, up_same, up_ne, ne_eq, not_false_eq_true, AVal.bool.injEq, decide_eq_true_eq, decide_eq_false_iff_not, Int.ofNat_eq_natCast, Int.reduceNegSucc, Int.cast_ofNat_Int, reduceCtorEq, bin_lss, bin_leq, bin_gtr, bin_geq, bin_eql, bin_neq, bin_add, bin_sub, bin_mul, Bool.not_eq_true', Bool.not_eq_false', Bool.true_eq_false, Bool.false_eq_true, Nat.reduceEqDiff, ↓reduceIte, if_true, if_false, Nat.reduceAdd, Int.reduceEq, Int.reduceLT, Int.reduceLE, hge, hl1, wrap1 (whole s).length (by omega), e1, e2]
      exact ⟨by trivial, by trivial⟩
    | false =>
      obtain ⟨e1, e2⟩ := no_pt hp
      simp only [pf_min, undef_bool, str_len, str_eql, str_neq, conv_in, un_not, eq_self, decide_true, decide_false, Bool.not_true, Bool.not_false, argE_0, argE_1, argE_2, argE_3, argE_4, aw_skip, aw_reg, aw_seq, aw_cond, aw_block, aw_exit, aw_ret, inSeq_normal, inSeq_exit, inSeq_ret, inBlk_exit, inBlk_normal, inBlk_ret, OptK_some, OptH_some, OptS_some, kont_app, ar_nil, ar_guard, ar_mv, ar_pick, ar_new, ar_box, ar_build, ar_buildSl, ar_load, ar_store, ar_nilChk, ar_bin, ar_un, ar_conv, ar_convSB, ar_convBS, ar_mkFunc, ar_mkIface, ar_mkSlice, ar_sl, ar_slStr, ar_fieldA, ar_field, ar_idxA, ar_idxArr, ar_idx, ar_idxS, ar_extract, ar_append, ar_len, ar_call, ar_callv, callvP_func, List.nil_append, List.cons_append, List.append_nil, ar_pf, ar_hf, ar_slA, upO_some, upO_none, sX_t, sX_c, sX_f, sXs, sXO, sXP, fin_t, fin_t2, fin_t3, up_same, up_ne, ne_eq, not_false_eq_true, AVal.bool.injEq, decide_eq_true_eq, decide_eq_false_iff_not, Int.ofNat_eq_natCast, Int.reduceNegSucc, Int.cast_ofNat_Int, reduceCtorEq, bin_lss, bin_leq, bin_gtr, bin_geq, bin_eql, bin_neq, bin_add, bin_sub, bin_mul, Bool.not_eq_true', Bool.not_eq_false', Bool.true_eq_false, Bool.false_eq_true, Nat.reduceEqDiff, ↓reduceIte, if_true, if_false, Nat.reduceAdd, Int.reduceEq, Int.reduceLT, Int.reduceLE, e1, e2]
      exact ⟨by trivial, by trivial⟩
  refine key.mono ?_
  rintro v _ ⟨rfl, rfl⟩
  simp only [aExtract, List.getElem?_cons_zero, List.getElem?_cons_succ, pf_min, undef_bool, str_len, str_eql, str_neq, conv_in, un_not, eq_self, decide_true, decide_false, Bool.not_true, Bool.not_false, argE_0, argE_1, argE_2, argE_3, argE_4, aw_skip, aw_reg, aw_seq, aw_cond, aw_block, aw_exit, aw_ret, inSeq_normal, inSeq_exit, inSeq_ret, inBlk_exit, inBlk_normal, inBlk_ret, OptK_some, OptH_some, OptS_some, kont_app, ar_nil, ar_guard, ar_mv, ar_pick, ar_new, ar_box, ar_build, ar_buildSl, ar_load, ar_store, ar_nilChk, ar_bin, ar_un, ar_conv, ar_convSB, ar_convBS, ar_mkFunc, ar_mkIface, ar_mkSlice, ar_sl, ar_slStr, ar_fieldA, ar_field, ar_idxA, ar_idxArr, ar_idx, ar_idxS, ar_extract, ar_append, ar_len, ar_call, ar_callv, callvP_func, List.nil_append, List.cons_append, List.append_nil, ar_pf, ar_hf, ar_slA, upO_some, upO_none, sX_t, sX_c, sX_f, sXs, sXO, sXP, fin_t, fin_t2, fin_t3, up_same, up_ne, ne_eq, not_false_eq_true, AVal.bool.injEq, decide_eq_true_eq, decide_eq_false_iff_not, Int.ofNat_eq_natCast, Int.reduceNegSucc, Int.cast_ofNat_Int, reduceCtorEq, bin_lss, bin_leq, bin_gtr, bin_geq, bin_eql, bin_neq, bin_add, bin_sub, bin_mul, Bool.not_eq_true', Bool.not_eq_false', Bool.true_eq_false, Bool.false_eq_true, Nat.reduceEqDiff, ↓reduceIte, if_true, if_false, Nat.reduceAdd, Int.reduceEq, Int.reduceLT, Int.reduceLE]
  exact ⟨by trivial, by trivial⟩
end Go.Proofs.Wo
/- Words: what a text says as a number: the contract. -/
namespace Go.Proofs.Wo
open Go.Abs Go.Abs.S
set_option linter.unusedSimpArgs false
variable {N : ANat}
def isNum (s : Bs) : Bool := (match s with | [] => false | c :: _ => dig c) && decide (numF s 0 = s.length)
def saysF (s : Bs) : Option Nat := if isNum s = true ∧ valF (whole s) < 2147483648 then some (valF (whole s) * 2 ^ 32 + frac (digs (behind s))) else none
def told : Option Nat → AVal
  | some n => .tuple [.int .i64 (n : Int), .bool true]
  | none => .tuple [.int .i64 0, .bool false]
theorem dig_npt {c : UInt8} (h : dig c = true) : npt c = true := by
  simp [dig] at h; simp [npt]; omega
theorem whole_run (s : Bs) : (whole s).length = runF npt s 0 := by simp [runF, whole]
/-- a numeral's digits -/
theorem num_digs {s : Bs} (h : isNum s = true) : (∀ c ∈ whole s, dig c = true) ∧ ∀ c ∈ behind s, dig c = true := by
  simp only [isNum, Bool.and_eq_true, decide_eq_true_eq] at h
  obtain ⟨h0, h1⟩ := h
  have hin : ∀ {a j : Nat} {c : UInt8}, a ≤ j → j < runF dig s a → s[j]? = some c → dig c = true := by
    intro a j c ha hj hc
    obtain ⟨d, hd, hp⟩ := runF_in ha hj
    rw [hc] at hd; cases hd; exact hp
  have hle := runF_le (p := dig) (s := s) (i := 0) (Nat.zero_le _)
  by_cases hd : s[runF dig s 0]? = some 46
  · have hlt := (List.getElem?_eq_some_iff.1 hd).1
    have hp0 : runF dig s 0 ≠ 0 := by
      intro e
      cases s with
      | nil => simp at hlt
      | cons c r =>
        simp only at h0
        rw [runF_go (c := c) rfl h0] at e
        have := runF_ge dig (c :: r) (0 + 1)
        omega
    have hw : (whole s).length = runF dig s 0 := by
      rw [whole_run]
      rcases Nat.lt_trichotomy (runF npt s 0) (runF dig s 0) with hl | hl | hl
      · obtain ⟨c, hc⟩ := isSome_of_lt (l := s) (i := runF npt s 0) (by omega)
        have := runF_out hc
        rw [dig_npt (hin (Nat.zero_le _) hl hc)] at this
        cases this
      · exact hl
      · obtain ⟨c, hc, hp⟩ := runF_in (Nat.zero_le _) hl
        rw [hd] at hc; cases hc
        simp [npt] at hp
    unfold numF at h1
    rw [if_neg (by rintro (e | e); exact hp0 e; exact e hd)] at h1
    split at h1
    · constructor
      · intro c hc
        rw [whole_eq, hw] at hc
        obtain ⟨j, hj⟩ := List.mem_iff_getElem?.1 hc
        have hjl := (List.getElem?_eq_some_iff.1 hj).1
        simp only [List.length_take] at hjl
        rw [List.getElem?_take_of_lt (by omega)] at hj
        exact hin (Nat.zero_le _) (by omega) hj
      · intro c hc
        rw [behind_eq, hw] at hc
        obtain ⟨j, hj⟩ := List.mem_iff_getElem?.1 hc
        rw [List.getElem?_drop] at hj
        have hjl := (List.getElem?_eq_some_iff.1 hj).1
        exact hin (a := runF dig s 0 + 1) (by omega) (by omega) hj
    · omega
  · unfold numF at h1
    rw [if_pos (.inr hd)] at h1
    have hall : ∀ c ∈ s, dig c = true := by
      intro c hc
      obtain ⟨j, hj⟩ := List.mem_iff_getElem?.1 hc
      have hjl := (List.getElem?_eq_some_iff.1 hj).1
      exact hin (Nat.zero_le _) (by omega) hj
    have hp : hasPt s = false := by
      simp only [hasPt, Bool.not_eq_false']
      exact List.all_eq_true.2 fun c hc => dig_npt (hall c hc)
    obtain ⟨e1, e2⟩ := no_pt hp
    rw [e1, e2]
    exact ⟨hall, by simp⟩
theorem val_take_le (l : Bs) (i : Nat) : valF (l.take i) ≤ valF l := by
  have h := foldl_val (l.drop i) (valF (l.take i))
  have e : valF l = List.foldl (fun n c => n * 10 + dv c) (valF (l.take i)) (l.drop i) := by
    unfold valF
    rw [← List.foldl_append, List.take_append_drop]
  rw [e, h]
  have : valF (l.take i) * 1 ≤ valF (l.take i) * 10 ^ (l.drop i).length := Nat.mul_le_mul_left _ (Nat.pos_of_ne_zero (by simp))
  omega
theorem number_spec (h12 : N.is 12 = false) (h22 : N.is 22 = false) (h23 : N.is 23 = false) (h25 : N.is 25 = false) (h34 : N.is 34 = false) (h35 : N.is 35 = false) (h57 : N.is 57 = false) (h74 : N.is 74 = false) (h76 : N.is 76 = false)
    {H : AHeap} {s : Bs} (hs : s.length ≤ 4611686018427387904) : ACalls Tryd.prog N 12 [.str s] H fun v H' => v = told (saysF s) ∧ Ext H.next H H' := by
  refine acalls_ofN h12 za12 rfl ?_
  cases s with
  | nil =>
    have e : saysF [] = none := rfl
    rw [e]
    simp only [c12, pf_min, undef_bool, str_len, str_eql, str_neq, conv_in, un_not, eq_self, decide_true, decide_false, Bool.not_true, Bool.not_false, argE_0, argE_1, argE_2, argE_3, argE_4, aw_skip, aw_reg, aw_seq, aw_cond, aw_block, aw_exit, aw_ret, inSeq_normal, inSeq_exit, inSeq_ret, inBlk_exit, inBlk_normal, inBlk_ret, OptK_some, OptH_some, OptS_some, kont_app, ar_nil, ar_guard, ar_mv, ar_pick, ar_new, ar_box, ar_build, ar_buildSl, ar_load, ar_store, ar_nilChk, ar_bin, ar_un, ar_conv, ar_convSB, ar_convBS, ar_mkFunc, ar_mkIface, ar_mkSlice, ar_sl, ar_slStr, ar_fieldA, ar_field, ar_idxA, ar_idxArr, ar_idx, ar_idxS, ar_extract, ar_append, ar_len, ar_call, ar_callv, callvP_func, List.nil_append, List.cons_append, List.append_nil, ar_pf, ar_hf, ar_slA, upO_some, upO_none, sX_t, sX_c, sX_f, sXs, sXO, sXP, fin_t, fin_t2, fin_t3, up_same, up_ne, ne_eq, not_false_eq_true, AVal.bool.injEq, decide_eq_true_eq, decide_eq_false_iff_not, Int.ofNat_eq_natCast, Int.reduceNegSucc, Int.cast_ofNat_Int, reduceCtorEq, bin_lss, bin_leq, bin_gtr, bin_geq, bin_eql, bin_neq, bin_add, bin_sub, bin_mul, Bool.not_eq_true', Bool.not_eq_false', Bool.true_eq_false, Bool.false_eq_true, Nat.reduceEqDiff, ↓reduceIte, if_true, if_false, Nat.reduceAdd, Int.reduceEq, Int.reduceLT, Int.reduceLE]
    exact ⟨by trivial, Ext.refl _ _⟩
  | cons c r =>
    have i0 : aIdxS (.str (c :: r)) (.int .i64 0) = some (by8 c) := str_idx (s := c :: r) (i := 0) rfl .i64
    have hne : ¬ c :: r = [] := by simp
    simp only [c12, pf_min, undef_bool, str_len, str_eql, str_neq, conv_in, un_not, eq_self, decide_true, decide_false, Bool.not_true, Bool.not_false, argE_0, argE_1, argE_2, argE_3, argE_4, aw_skip, aw_reg, aw_seq, aw_cond, aw_block, aw_exit, aw_ret, inSeq_normal, inSeq_exit, inSeq_ret, inBlk_exit, inBlk_normal, inBlk_ret, OptK_some, OptH_some, OptS_some, kont_app, ar_nil, ar_guard, ar_mv, ar_pick, ar_new, ar_box, ar_build, ar_buildSl, ar_load, ar_store, ar_nilChk, ar_bin, ar_un, ar_conv, ar_convSB, ar_convBS, ar_mkFunc, ar_mkIface, ar_mkSlice, ar_sl, ar_slStr, ar_fieldA, ar_field, ar_idxA, ar_idxArr, ar_idx, ar_idxS, ar_extract, ar_append, ar_len, ar_call, ar_callv, callvP_func, List.nil_append, List.cons_append, List.append_nil, ar_pf, ar_hf, ar_slA, upO_some, upO_none, sX_t, sX_c, sX_f, sXs, sXO, sXP, fin_t, fin_t2, fin_t3, up_same, up_ne, ne_eq, not_false_eq_true, AVal.bool.injEq, decide_eq_true_eq, decide_eq_false_iff_not, Int.ofNat_eq_natCast, Int.reduceNegSucc, Int.cast_ofNat_Int, reduceCtorEq, bin_lss, bin_leq, bin_gtr, bin_geq, bin_eql, bin_neq, bin_add, bin_sub, bin_mul, Bool.not_eq_true', Bool.not_eq_false', Bool.true_eq_false, Bool.false_eq_true, Nat.reduceEqDiff, ↓reduceIte, if_true, if_false, Nat.reduceAdd, Int.reduceEq, Int.reduceLT, Int.reduceLE, hne, i0]
    refine (digit_spec h22 c H).mono ?_
    rintro v _ ⟨rfl, rfl⟩
    cases hd : dig c with
    | false =>
      have e : saysF (c :: r) = none := by simp [saysF, isNum, hd]
      rw [e]
      simp only [pf_min, undef_bool, str_len, str_eql, str_neq, conv_in, un_not, eq_self, decide_true, decide_false, Bool.not_true, Bool.not_false, argE_0, argE_1, argE_2, argE_3, argE_4, aw_skip, aw_reg, aw_seq, aw_cond, aw_block, aw_exit, aw_ret, inSeq_normal, inSeq_exit, inSeq_ret, inBlk_exit, inBlk_normal, inBlk_ret, OptK_some, OptH_some, OptS_some, kont_app, ar_nil, ar_guard, ar_mv, ar_pick, ar_new, ar_box, ar_build, ar_buildSl, ar_load, ar_store, ar_nilChk, ar_bin, ar_un, ar_conv, ar_convSB, ar_convBS, ar_mkFunc, ar_mkIface, ar_mkSlice, ar_sl, ar_slStr, ar_fieldA, ar_field, ar_idxA, ar_idxArr, ar_idx, ar_idxS, ar_extract, ar_append, ar_len, ar_call, ar_callv, callvP_func, List.nil_append, List.cons_append, List.append_nil, ar_pf, ar_hf, ar_slA, upO_some, upO_none, sX_t, sX_c, sX_f, sXs, sXO, sXP, fin_t, fin_t2, fin_t3, up_same, up_ne, ne_eq, not_false_eq_true, AVal.bool.injEq, decide_eq_true_eq, decide_eq_false_iff_not, Int.ofNat_eq_natCast, Int.reduceNegSucc, Int.cast_ofNat_Int, reduceCtorEq, bin_lss, bin_leq, bin_gtr, bin_geq, bin_eql, bin_neq, bin_add, bin_sub, bin_mul, Bool.not_eq_true', Bool.not_eq_false', Bool.true_eq_false, Bool.false_eq_true, Nat.reduceEqDiff, ↓reduceIte, if_true, if_false, Nat.reduceAdd, Int.reduceEq, Int.reduceLT, Int.reduceLE]
      exact ⟨by trivial, Ext.refl _ _⟩
    | true =>
    simp only [pf_min, undef_bool, str_len, str_eql, str_neq, conv_in, un_not, eq_self, decide_true, decide_false, Bool.not_true, Bool.not_false, argE_0, argE_1, argE_2, argE_3, argE_4, aw_skip, aw_reg, aw_seq, aw_cond, aw_block, aw_exit, aw_ret, inSeq_normal, inSeq_exit, inSeq_ret, inBlk_exit, inBlk_normal, inBlk_ret, OptK_some, OptH_some, OptS_some, kont_app, ar_nil, ar_guard, ar_mv, ar_pick, ar_new, ar_box, ar_build, ar_buildSl, ar_load, ar_store, ar_nilChk, ar_bin, ar_un, ar_conv, ar_convSB, ar_convBS, ar_mkFunc, ar_mkIface, ar_mkSlice, ar_sl, ar_slStr, ar_fieldA, ar_field, ar_idxA, ar_idxArr, ar_idx, ar_idxS, ar_extract, ar_append, ar_len, ar_call, ar_callv, callvP_func, List.nil_append, List.cons_append, List.append_nil, ar_pf, ar_hf, ar_slA, upO_some, upO_none, sX_t, sX_c, sX_f, sXs, sXO, sXP, fin_t, fin_t2, fin_t3, up_same, up_ne, ne_eq, not_false_eq_true, AVal.bool.injEq, decide_eq_true_eq, decide_eq_false_iff_not, Int.ofNat_eq_natCast, Int.reduceNegSucc, Int.cast_ofNat_Int, reduceCtorEq, bin_lss, bin_leq, bin_gtr, bin_geq, bin_eql, bin_neq, bin_add, bin_sub, bin_mul, Bool.not_eq_true', Bool.not_eq_false', Bool.true_eq_false, Bool.false_eq_true, Nat.reduceEqDiff, ↓reduceIte, if_true, if_false, Nat.reduceAdd, Int.reduceEq, Int.reduceLT, Int.reduceLE]
    refine (numeral_spec h23 h25 h22 (Nat.zero_le _) hs).mono ?_
    rintro v _ ⟨rfl, rfl⟩
    have hle := numF_le (s := c :: r) (Nat.zero_le _)
    by_cases hn : numF (c :: r) 0 = (c :: r).length
    · have hnum : isNum (c :: r) = true := by simp only [isNum, hd, hn, decide_true, Bool.and_self]
      have hn' : ((numF (c :: r) 0 : Nat) : Int) = ((c :: r).length : Int) := by rw [hn]
      generalize c :: r = s at *
      obtain ⟨hw, hb⟩ := num_digs hnum
      simp only [pf_min, undef_bool, str_len, str_eql, str_neq, conv_in, un_not, eq_self, decide_true, decide_false, Bool.not_true, Bool.not_false, argE_0, argE_1, argE_2, argE_3, argE_4, aw_skip, aw_reg, aw_seq, aw_cond, aw_block, aw_exit, aw_ret, inSeq_normal, inSeq_exit, inSeq_ret, inBlk_exit, inBlk_normal, inBlk_ret, OptK_some, OptH_some, OptS_some, kont_app, ar_nil, ar_guard, ar_mv, ar_pick, ar_new, ar_box, ar_build, ar_buildSl, ar_load, ar_store, ar_nilChk, ar_bin, ar_un, ar_conv, ar_convSB, ar_convBS, ar_mkFunc, ar_mkIface, ar_mkSlice, ar_sl, ar_slStr, ar_fieldA, ar_field, ar_idxA, ar_idxArr, ar_idx, ar_idxS, ar_extract, ar_append, ar_len, ar_call, ar_callv, callvP_func, List.nil_append, List.cons_append, List.append_nil, ar_pf, ar_hf, ar_slA, upO_some, upO_none, sX_t, sX_c, sX_f, sXs, sXO, sXP, fin_t, fin_t2, fin_t3, up_same, up_ne, ne_eq, not_false_eq_true, AVal.bool.injEq, decide_eq_true_eq, decide_eq_false_iff_not, Int.ofNat_eq_natCast, Int.reduceNegSucc, Int.cast_ofNat_Int, reduceCtorEq, bin_lss, bin_leq, bin_gtr, bin_geq, bin_eql, bin_neq, bin_add, bin_sub, bin_mul, Bool.not_eq_true', Bool.not_eq_false', Bool.true_eq_false, Bool.false_eq_true, Nat.reduceEqDiff, ↓reduceIte, if_true, if_false, Nat.reduceAdd, Int.reduceEq, Int.reduceLT, Int.reduceLE, hn']
      refine (cut_spec h34 h57 h74 h76 hs).mono ?_
      rintro v _ ⟨rfl, rfl⟩
      simp only [aExtract, List.getElem?_cons_zero, List.getElem?_cons_succ, pf_min, undef_bool, str_len, str_eql, str_neq, conv_in, un_not, eq_self, decide_true, decide_false, Bool.not_true, Bool.not_false, argE_0, argE_1, argE_2, argE_3, argE_4, aw_skip, aw_reg, aw_seq, aw_cond, aw_block, aw_exit, aw_ret, inSeq_normal, inSeq_exit, inSeq_ret, inBlk_exit, inBlk_normal, inBlk_ret, OptK_some, OptH_some, OptS_some, kont_app, ar_nil, ar_guard, ar_mv, ar_pick, ar_new, ar_box, ar_build, ar_buildSl, ar_load, ar_store, ar_nilChk, ar_bin, ar_un, ar_conv, ar_convSB, ar_convBS, ar_mkFunc, ar_mkIface, ar_mkSlice, ar_sl, ar_slStr, ar_fieldA, ar_field, ar_idxA, ar_idxArr, ar_idx, ar_idxS, ar_extract, ar_append, ar_len, ar_call, ar_callv, callvP_func, List.nil_append, List.cons_append, List.append_nil, ar_pf, ar_hf, ar_slA, upO_some, upO_none, sX_t, sX_c, sX_f, sXs, sXO, sXP, fin_t, fin_t2, fin_t3, up_same, up_ne, ne_eq, not_false_eq_true, AVal.bool.injEq, decide_eq_true_eq, decide_eq_false_iff_not, Int.ofNat_eq_natCast, Int.reduceNegSucc, Int.cast_ofNat_Int, reduceCtorEq, bin_lss, bin_leq, bin_gtr, bin_geq, bin_eql, bin_neq, bin_add, bin_sub, bin_mul, Bool.not_eq_true', Bool.not_eq_false', Bool.true_eq_false, Bool.false_eq_true, Nat.reduceEqDiff, ↓reduceIte, if_true, if_false, Nat.reduceAdd, Int.reduceEq, Int.reduceLT, Int.reduceLE]
      have hwl := whole_le s
      have hbl : (behind s).length ≤ s.length := by rw [behind_eq]; simp
      have hsay : saysF s = if valF (whole s) < 2147483648 then some (valF (whole s) * 2 ^ 32 + frac (digs (behind s))) else none := by simp [saysF, hnum]
      rw [hsay]
      generalize whole s = w at *
      generalize behind s = t at *
      refine aw_loop (fun q (T : Env) H' => ∃ i : Nat, i ≤ w.length ∧ q = w.length - i ∧ T 4 = .str w ∧ T 5 = .str t ∧ T 7 = .int .i64 (valF (w.take i) : Int) ∧ valF (w.take i) < 2147483648 ∧ T 31 = .int .i64 (w.length : Int) ∧ T 32 = .int .i64 (i : Int) ∧ H = H') w.length
        ⟨0, Nat.zero_le _, rfl, rfl, rfl, rfl, by simp [valF], rfl, rfl, rfl⟩ ?_
      rintro q T _ ⟨i, hi, rfl, g4, g5, g7, hv, g31, g32, rfl⟩
      by_cases hlt : i < w.length
      · have hlt' : (i : Int) < (w.length : Int) := by omega
        obtain ⟨c, hc⟩ := isSome_of_lt hlt
        have hdc := hw c (List.mem_of_getElem? hc)
        have hdv : (c.toNat : Int) - 48 = ((dv c : Nat) : Int) := by simp [dig] at hdc; unfold dv; omega
        have hd9 : dv c ≤ 9 := by simp [dig] at hdc; unfold dv; omega
        have hw1 : IntKind.u8.wrap ((dv c : Nat) : Int) = ((dv c : Nat) : Int) := wrapU8 (by omega) (by omega)
        have hw2 : IntKind.i64.wrap ((dv c : Nat) : Int) = ((dv c : Nat) : Int) := wrap64 (by omega) (by omega)
        have hw3 : IntKind.i64.wrap ((valF (w.take i) : Int) * 10) = ((valF (w.take i) * 10 : Nat) : Int) := by rw [wrap64 (by omega) (by omega)]; omega
        have hw4 : IntKind.i64.wrap (((valF (w.take i) * 10 : Nat) : Int) + ((dv c : Nat) : Int)) = ((valF (w.take (i + 1)) : Nat) : Int) := by
          rw [wrap64 (by omega) (by omega), List.take_add_one, hc, Option.toList_some, val_snoc]; omega
        simp only [pf_min, undef_bool, str_len, str_eql, str_neq, conv_in, un_not, eq_self, decide_true, decide_false, Bool.not_true, Bool.not_false, argE_0, argE_1, argE_2, argE_3, argE_4, aw_skip, aw_reg, aw_seq, aw_cond, aw_block, aw_exit, aw_ret, inSeq_normal, inSeq_exit, inSeq_ret, inBlk_exit, inBlk_normal, inBlk_ret, OptK_some, OptH_some, OptS_some, kont_app, ar_nil, ar_guard, ar_mv, ar_pick, ar_new, ar_box, ar_build, ar_buildSl, ar_load, ar_store, ar_nilChk, ar_bin, ar_un, ar_conv, ar_convSB, ar_convBS, ar_mkFunc, ar_mkIface, ar_mkSlice, ar_sl, ar_slStr, ar_fieldA, ar_field, ar_idxA, ar_idxArr, ar_idx, ar_idxS, ar_extract, ar_append, ar_len, ar_call, ar_callv, callvP_func, List.nil_append, List.cons_append, List.append_nil, ar_pf, ar_hf, ar_slA, upO_some, upO_none, sX_t, sX_c, sX_f, sXs, sXO, sXP, fin_t, fin_t2, fin_t3, up_same, up_ne, ne_eq, not_false_eq_true, AVal.bool.injEq, decide_eq_true_eq, decide_eq_false_iff_not, Int.ofNat_eq_natCast, Int.reduceNegSucc, Int.cast_ofNat_Int, reduceCtorEq, bin_lss, bin_leq, bin_gtr, bin_geq, bin_eql, bin_neq, bin_add, bin_sub, bin_mul, Bool.not_eq_true', Bool.not_eq_false', Bool.true_eq_false, Bool.false_eq_true, Nat.reduceEqDiff, ↓reduceIte, if_true, if_false, Nat.reduceAdd, Int.reduceEq, Int.reduceLT, Int.reduceLE, g4, g5, g7, g31, g32, hlt', str_idx hc, hdv, hw1, hw2, hw3, hw4]
        by_cases hbig : valF (w.take (i + 1)) < 2147483648
        · have hbig' : ¬ (2147483648 : Int) ≤ ((valF (w.take (i + 1)) : Nat) : Int) := by omega
          simp only [pf_min, undef_bool, str_len, str_eql, str_neq, conv_in, un_not, eq_self, decide_true, decide_false, Bool.not_true, Bool.not_false, argE_0, argE_1, argE_2, argE_3, argE_4, aw_skip, aw_reg, aw_seq, aw_cond, aw_block, aw_exit, aw_ret, inSeq_normal, inSeq_exit, inSeq_ret, inBlk_exit, inBlk_normal, inBlk_ret, OptK_some, OptH_some, OptS_some, kont_app, ar_nil, ar_guard, ar_mv, ar_pick, ar_new, ar_box, ar_build, ar_buildSl, ar_load, ar_store, ar_nilChk, ar_bin, ar_un, ar_conv, ar_convSB, ar_convBS, ar_mkFunc, ar_mkIface, ar_mkSlice, ar_sl, ar_slStr, ar_fieldA, ar_field, ar_idxA, ar_idxArr, ar_idx, ar_idxS, ar_extract, ar_append, ar_len, ar_call, ar_callv, callvP_func, List.nil_append, List.cons_append, List.append_nil, ar_pf, ar_hf, ar_slA, upO_some, upO_none, sX_t, sX_c, sX_f, sXs, sXO, sXP, fin_t, fin_t2, fin_t3, up_same, up_ne, ne_eq, not_false_eq_true, AVal.bool.injEq, decide_eq_true_eq, decide_eq_false_iff_not, Int.ofNat_eq_natCast, Int.reduceNegSucc, Int.cast_ofNat_Int, reduceCtorEq, bin_lss, bin_leq, bin_gtr, bin_geq, bin_eql, bin_neq, bin_add, bin_sub, bin_mul, Bool.not_eq_true', Bool.not_eq_false', Bool.true_eq_false, Bool.false_eq_true, Nat.reduceEqDiff, ↓reduceIte, if_true, if_false, Nat.reduceAdd, Int.reduceEq, Int.reduceLT, Int.reduceLE, g4, g5, g7, g31, g32, hbig', wrap1 i (by omega)]
          exact ⟨_, by omega, i + 1, by omega, rfl, by trivial, by trivial, rfl, hbig, by trivial, rfl, by trivial⟩
        · have hbig' : (2147483648 : Int) ≤ ((valF (w.take (i + 1)) : Nat) : Int) := by omega
          have := val_take_le w (i + 1)
          simp only [pf_min, undef_bool, str_len, str_eql, str_neq, conv_in, un_not, eq_self, decide_true, decide_false, Bool.not_true, Bool.not_false, argE_0, argE_1, argE_2, argE_3, argE_4, aw_skip, aw_reg, aw_seq, aw_cond, aw_block, aw_exit, aw_ret, inSeq_normal, inSeq_exit, inSeq_ret, inBlk_exit, inBlk_normal, inBlk_ret, OptK_some, OptH_some, OptS_some, kont_app, ar_nil, ar_guard, ar_mv, ar_pick, ar_new, ar_box, ar_build, ar_buildSl, ar_load, ar_store, ar_nilChk, ar_bin, ar_un, ar_conv, ar_convSB, ar_convBS, ar_mkFunc, ar_mkIface, ar_mkSlice, ar_sl, ar_slStr, ar_fieldA, ar_field, ar_idxA, ar_idxArr, ar_idx, ar_idxS, ar_extract, ar_append, ar_len, ar_call, ar_callv, callvP_func, List.nil_append, List.cons_append, List.append_nil, ar_pf, ar_hf, ar_slA, upO_some, upO_none, sX_t, sX_c, sX_f, sXs, sXO, sXP, fin_t, fin_t2, fin_t3, up_same, up_ne, ne_eq, not_false_eq_true, AVal.bool.injEq, decide_eq_true_eq, decide_eq_false_iff_not, Int.ofNat_eq_natCast, Int.reduceNegSucc, Int.cast_ofNat_Int, reduceCtorEq, bin_lss, bin_leq, bin_gtr, bin_geq, bin_eql, bin_neq, bin_add, bin_sub, bin_mul, Bool.not_eq_true', Bool.not_eq_false', Bool.true_eq_false, Bool.false_eq_true, Nat.reduceEqDiff, ↓reduceIte, if_true, if_false, Nat.reduceAdd, Int.reduceEq, Int.reduceLT, Int.reduceLE, g4, g5, g7, g31, g32, hbig']
          exact ⟨by rw [if_neg (by omega)]; rfl, Ext.refl _ _⟩
      · obtain rfl : i = w.length := by omega
        rw [List.take_length] at g7 hv
        have e1 := bin_shlN (k' := .u64) (a := valF w) (b := 32) (by omega) (by omega)
        simp only [Int.cast_ofNat_Int] at e1
        simp only [pf_min, undef_bool, str_len, str_eql, str_neq, conv_in, un_not, eq_self, decide_true, decide_false, Bool.not_true, Bool.not_false, argE_0, argE_1, argE_2, argE_3, argE_4, aw_skip, aw_reg, aw_seq, aw_cond, aw_block, aw_exit, aw_ret, inSeq_normal, inSeq_exit, inSeq_ret, inBlk_exit, inBlk_normal, inBlk_ret, OptK_some, OptH_some, OptS_some, kont_app, ar_nil, ar_guard, ar_mv, ar_pick, ar_new, ar_box, ar_build, ar_buildSl, ar_load, ar_store, ar_nilChk, ar_bin, ar_un, ar_conv, ar_convSB, ar_convBS, ar_mkFunc, ar_mkIface, ar_mkSlice, ar_sl, ar_slStr, ar_fieldA, ar_field, ar_idxA, ar_idxArr, ar_idx, ar_idxS, ar_extract, ar_append, ar_len, ar_call, ar_callv, callvP_func, List.nil_append, List.cons_append, List.append_nil, ar_pf, ar_hf, ar_slA, upO_some, upO_none, sX_t, sX_c, sX_f, sXs, sXO, sXP, fin_t, fin_t2, fin_t3, up_same, up_ne, ne_eq, not_false_eq_true, AVal.bool.injEq, decide_eq_true_eq, decide_eq_false_iff_not, Int.ofNat_eq_natCast, Int.reduceNegSucc, Int.cast_ofNat_Int, reduceCtorEq, bin_lss, bin_leq, bin_gtr, bin_geq, bin_eql, bin_neq, bin_add, bin_sub, bin_mul, Bool.not_eq_true', Bool.not_eq_false', Bool.true_eq_false, Bool.false_eq_true, Nat.reduceEqDiff, ↓reduceIte, if_true, if_false, Nat.reduceAdd, Int.reduceEq, Int.reduceLT, Int.reduceLE, g4, g5, g7, g31, g32, Int.lt_irrefl, e1]
        refine (part_spec h35 hb (by omega)).mono ?_
        rintro v H' ⟨rfl, hx⟩
        have hf := frac_lt (digs_le hb)
        have e2 := bin_orN (a := valF w * 2 ^ 32) (b := frac (digs t)) (by omega) (by omega)
        rw [or_low 32 _ hf] at e2
        simp only [pf_min, undef_bool, str_len, str_eql, str_neq, conv_in, un_not, eq_self, decide_true, decide_false, Bool.not_true, Bool.not_false, argE_0, argE_1, argE_2, argE_3, argE_4, aw_skip, aw_reg, aw_seq, aw_cond, aw_block, aw_exit, aw_ret, inSeq_normal, inSeq_exit, inSeq_ret, inBlk_exit, inBlk_normal, inBlk_ret, OptK_some, OptH_some, OptS_some, kont_app, ar_nil, ar_guard, ar_mv, ar_pick, ar_new, ar_box, ar_build, ar_buildSl, ar_load, ar_store, ar_nilChk, ar_bin, ar_un, ar_conv, ar_convSB, ar_convBS, ar_mkFunc, ar_mkIface, ar_mkSlice, ar_sl, ar_slStr, ar_fieldA, ar_field, ar_idxA, ar_idxArr, ar_idx, ar_idxS, ar_extract, ar_append, ar_len, ar_call, ar_callv, callvP_func, List.nil_append, List.cons_append, List.append_nil, ar_pf, ar_hf, ar_slA, upO_some, upO_none, sX_t, sX_c, sX_f, sXs, sXO, sXP, fin_t, fin_t2, fin_t3, up_same, up_ne, ne_eq, not_false_eq_true, AVal.bool.injEq, decide_eq_true_eq, decide_eq_false_iff_not, Int.ofNat_eq_natCast, Int.reduceNegSucc, Int.cast_ofNat_Int, reduceCtorEq, bin_lss, bin_leq, bin_gtr, bin_geq, bin_eql, bin_neq, bin_add, bin_sub, bin_mul, Bool.not_eq_true', Bool.not_eq_false', Bool.true_eq_false, Bool.false_eq_true, Nat.reduceEqDiff, ↓reduceIte, if_true, if_false, Nat.reduceAdd, Int.reduceEq, Int.reduceLT, Int.reduceLE, e2]
        exact ⟨by rw [if_pos hv]; rfl, hx⟩
    · have hn' : ¬ ((numF (c :: r) 0 : Nat) : Int) = ((c :: r).length : Int) := by omega
      have e : saysF (c :: r) = none := by simp only [saysF, isNum, hn, decide_false, Bool.and_false, Bool.false_eq_true, false_and, if_false]
      rw [e]
      simp only [pf_min, undef_bool, str_len, str_eql, str_neq, conv_in, un_not, eq_self, decide_true, decide_false, Bool.not_true, Bool.not_false, argE_0, argE_1, argE_2, argE_3, argE_4, aw_skip, aw_reg, aw_seq, aw_cond, aw_block, aw_exit, aw_ret, inSeq_normal, inSeq_exit, inSeq_ret, inBlk_exit, inBlk_normal, inBlk_ret, OptK_some, OptH_some, OptS_some, kont_app, ar_nil, ar_guard, ar_mv, ar_pick, ar_new, ar_box, ar_build, ar_buildSl, ar_load, ar_store, ar_nilChk, ar_bin, ar_un, ar_conv, ar_convSB, ar_convBS, ar_mkFunc, ar_mkIface, ar_mkSlice, ar_sl, ar_slStr, ar_fieldA, ar_field, ar_idxA, ar_idxArr, ar_idx, ar_idxS, ar_extract, ar_append, ar_len, ar_call, ar_callv, callvP_func, List.nil_append, List.cons_append, List.append_nil, ar_pf, ar_hf, ar_slA, upO_some, upO_none, sX_t, sX_c, sX_f, sXs, sXO, sXP, fin_t, fin_t2, fin_t3, up_same, up_ne, ne_eq, not_false_eq_true, AVal.bool.injEq, decide_eq_true_eq, decide_eq_false_iff_not, Int.ofNat_eq_natCast, Int.reduceNegSucc, Int.cast_ofNat_Int, reduceCtorEq, bin_lss, bin_leq, bin_gtr, bin_geq, bin_eql, bin_neq, bin_add, bin_sub, bin_mul, Bool.not_eq_true', Bool.not_eq_false', Bool.true_eq_false, Bool.false_eq_true, Nat.reduceEqDiff, ↓reduceIte, if_true, if_false, Nat.reduceAdd, Int.reduceEq, Int.reduceLT, Int.reduceLE, hn']
      exact ⟨by trivial, Ext.refl _ _⟩
end Go.Proofs.Wo
/- Words: the document's own: digits, where a numeral ends, what a text says as a number. -/
namespace Go.Proofs.Wo
open Go.Abs Go.Abs.S
set_option linter.unusedSimpArgs false
variable {N : ANat}
theorem rdigit_spec (hN : N.is 54 = false) : Says N 54 dig := by
  intro c H
  refine acalls_ofN hN za54 rfl ?_
  by_cases h1 : (48 : Int) ≤ (c.toNat : Int)
  · by_cases h2 : (c.toNat : Int) ≤ 57
    · simp only [c54, pf_min, undef_bool, str_len, str_eql, str_neq, conv_in, un_not, eq_self, decide_true, decide_false, Bool.not_true, Bool.not_false, argE_0, argE_1, argE_2, argE_3, argE_4, aw_skip, aw_reg, aw_seq, aw_cond, aw_block, aw_exit, aw_ret, inSeq_normal, inSeq_exit, inSeq_ret, inBlk_exit, inBlk_normal, inBlk_ret, OptK_some, OptH_some, OptS_some, kont_app, ar_nil, ar_guard, ar_mv, ar_pick, ar_new, ar_box, ar_build, ar_buildSl, ar_load, ar_store, ar_nilChk, ar_bin, ar_un, ar_conv, ar_convSB, ar_convBS, ar_mkFunc, ar_mkIface, ar_mkSlice, ar_sl, ar_slStr, ar_fieldA, ar_field, ar_idxA, ar_idxArr, ar_idx, ar_idxS, ar_extract, ar_append, ar_len, ar_call, ar_callv, callvP_func, List.nil_append, List.cons_append, List.append_nil, ar_pf, ar_hf, ar_slA, upO_some, upO_none, sX_t, sX_c, sX_f, sXs, sXO, sXP, fin_t, fin_t2, fin_t3, up_same, up_ne, ne_eq, not_false_eq_true, AVal.bool.injEq, decide_eq_true_eq, decide_eq_false_iff_not, Int.ofNat_eq_natCast, Int.reduceNegSucc, Int.cast_ofNat_Int, reduceCtorEq, bin_lss, bin_leq, bin_gtr, bin_geq, bin_eql, bin_neq, bin_add, bin_sub, bin_mul, Bool.not_eq_true', Bool.not_eq_false', Bool.true_eq_false, Bool.false_eq_true, Nat.reduceEqDiff, ↓reduceIte, if_true, if_false, Nat.reduceAdd, Int.reduceEq, Int.reduceLT, Int.reduceLE, h1, h2]
      exact ⟨by simp [dig]; omega, by trivial⟩
    · simp only [c54, pf_min, undef_bool, str_len, str_eql, str_neq, conv_in, un_not, eq_self, decide_true, decide_false, Bool.not_true, Bool.not_false, argE_0, argE_1, argE_2, argE_3, argE_4, aw_skip, aw_reg, aw_seq, aw_cond, aw_block, aw_exit, aw_ret, inSeq_normal, inSeq_exit, inSeq_ret, inBlk_exit, inBlk_normal, inBlk_ret, OptK_some, OptH_some, OptS_some, kont_app, ar_nil, ar_guard, ar_mv, ar_pick, ar_new, ar_box, ar_build, ar_buildSl, ar_load, ar_store, ar_nilChk, ar_bin, ar_un, ar_conv, ar_convSB, ar_convBS, ar_mkFunc, ar_mkIface, ar_mkSlice, ar_sl, ar_slStr, ar_fieldA, ar_field, ar_idxA, ar_idxArr, ar_idx, ar_idxS, ar_extract, ar_append, ar_len, ar_call, ar_callv, callvP_func, List.nil_append, List.cons_append, List.append_nil, ar_pf, ar_hf, ar_slA, upO_some, upO_none, sX_t, sX_c, sX_f, sXs, sXO, sXP, fin_t, fin_t2, fin_t3, up_same, up_ne, ne_eq, not_false_eq_true, AVal.bool.injEq, decide_eq_true_eq, decide_eq_false_iff_not, Int.ofNat_eq_natCast, Int.reduceNegSucc, Int.cast_ofNat_Int, reduceCtorEq, bin_lss, bin_leq, bin_gtr, bin_geq, bin_eql, bin_neq, bin_add, bin_sub, bin_mul, Bool.not_eq_true', Bool.not_eq_false', Bool.true_eq_false, Bool.false_eq_true, Nat.reduceEqDiff, ↓reduceIte, if_true, if_false, Nat.reduceAdd, Int.reduceEq, Int.reduceLT, Int.reduceLE, h1, h2]
      exact ⟨by simp [dig]; omega, by trivial⟩
  · simp only [c54, pf_min, undef_bool, str_len, str_eql, str_neq, conv_in, un_not, eq_self, decide_true, decide_false, Bool.not_true, Bool.not_false, argE_0, argE_1, argE_2, argE_3, argE_4, aw_skip, aw_reg, aw_seq, aw_cond, aw_block, aw_exit, aw_ret, inSeq_normal, inSeq_exit, inSeq_ret, inBlk_exit, inBlk_normal, inBlk_ret, OptK_some, OptH_some, OptS_some, kont_app, ar_nil, ar_guard, ar_mv, ar_pick, ar_new, ar_box, ar_build, ar_buildSl, ar_load, ar_store, ar_nilChk, ar_bin, ar_un, ar_conv, ar_convSB, ar_convBS, ar_mkFunc, ar_mkIface, ar_mkSlice, ar_sl, ar_slStr, ar_fieldA, ar_field, ar_idxA, ar_idxArr, ar_idx, ar_idxS, ar_extract, ar_append, ar_len, ar_call, ar_callv, callvP_func, List.nil_append, List.cons_append, List.append_nil, ar_pf, ar_hf, ar_slA, upO_some, upO_none, sX_t, sX_c, sX_f, sXs, sXO, sXP, fin_t, fin_t2, fin_t3, up_same, up_ne, ne_eq, not_false_eq_true, AVal.bool.injEq, decide_eq_true_eq, decide_eq_false_iff_not, Int.ofNat_eq_natCast, Int.reduceNegSucc, Int.cast_ofNat_Int, reduceCtorEq, bin_lss, bin_leq, bin_gtr, bin_geq, bin_eql, bin_neq, bin_add, bin_sub, bin_mul, Bool.not_eq_true', Bool.not_eq_false', Bool.true_eq_false, Bool.false_eq_true, Nat.reduceEqDiff, ↓reduceIte, if_true, if_false, Nat.reduceAdd, Int.reduceEq, Int.reduceLT, Int.reduceLE, h1]
    exact ⟨by simp [dig]; omega, by trivial⟩
theorem rnumeral_spec (h36 : N.is 36 = false) (h54 : N.is 54 = false) {H : AHeap} {s : Bs} {i : Nat} (hi : i ≤ s.length) (hs : s.length ≤ 4611686018427387904) :
    ACalls Tryd.prog N 36 [.str s, .int .i64 (i : Int)] H fun v H' => v = .int .i64 ((numF s i - i : Nat) : Int) ∧ H = H' := by
  refine acalls_ofN h36 za36 rfl ?_
  simp only [c36, pf_min, undef_bool, str_len, str_eql, str_neq, conv_in, un_not, eq_self, decide_true, decide_false, Bool.not_true, Bool.not_false, argE_0, argE_1, argE_2, argE_3, argE_4, aw_skip, aw_reg, aw_seq, aw_cond, aw_block, aw_exit, aw_ret, inSeq_normal, inSeq_exit, inSeq_ret, inBlk_exit, inBlk_normal, inBlk_ret, OptK_some, OptH_some, OptS_some, kont_app, ar_nil, ar_guard, ar_mv, ar_pick, ar_new, ar_box, ar_build, ar_buildSl, ar_load, ar_store, ar_nilChk, ar_bin, ar_un, ar_conv, ar_convSB, ar_convBS, ar_mkFunc, ar_mkIface, ar_mkSlice, ar_sl, ar_slStr, ar_fieldA, ar_field, ar_idxA, ar_idxArr, ar_idx, ar_idxS, ar_extract, ar_append, ar_len, ar_call, ar_callv, callvP_func, List.nil_append, List.cons_append, List.append_nil, ar_pf, ar_hf, ar_slA, upO_some, upO_none, sX_t, sX_c, sX_f, sXs, sXO, sXP, fin_t, fin_t2, fin_t3, up_same, up_ne, ne_eq, not_false_eq_true, AVal.bool.injEq, decide_eq_true_eq, decide_eq_false_iff_not, Int.ofNat_eq_natCast, Int.reduceNegSucc, Int.cast_ofNat_Int, reduceCtorEq, bin_lss, bin_leq, bin_gtr, bin_geq, bin_eql, bin_neq, bin_add, bin_sub, bin_mul, Bool.not_eq_true', Bool.not_eq_false', Bool.true_eq_false, Bool.false_eq_true, Nat.reduceEqDiff, ↓reduceIte, if_true, if_false, Nat.reduceAdd, Int.reduceEq, Int.reduceLT, Int.reduceLE]
  refine aw_cut (fun (T : Env) H' => T 0 = .str s ∧ T 1 = .int .i64 (i : Int) ∧ T 5 = .int .i64 (runF dig s i : Int) ∧ H = H') (calls_mono _ _) ?_ ?_
  · refine aw_loop (fun q (T : Env) H' => ∃ j : Nat, j ≤ s.length ∧ q = s.length - j ∧ T 0 = .str s ∧ T 1 = .int .i64 (i : Int) ∧ T 5 = .int .i64 (j : Int) ∧ runF dig s i = runF dig s j ∧ H = H') (s.length - i) ⟨i, hi, rfl, rfl, rfl, rfl, rfl, rfl⟩ ?_
    rintro q T _ ⟨j, hj, rfl, g0, g1, g5, hA, rfl⟩
    by_cases hlt : j < s.length
    · have hlt' : (j : Int) < (s.length : Int) := by omega
      obtain ⟨c, hc⟩ := isSome_of_lt hlt
      simp only [pf_min, undef_bool, str_len, str_eql, str_neq, conv_in, un_not, eq_self, decide_true, decide_false, Bool.not_true, Bool.not_false, argE_0, argE_1, argE_2, argE_3, argE_4, aw_skip, aw_reg, aw_seq, aw_cond, aw_block, aw_exit, aw_ret, inSeq_normal, inSeq_exit, inSeq_ret, inBlk_exit, inBlk_normal, inBlk_ret, OptK_some, OptH_some, OptS_some, kont_app, ar_nil, ar_guard, ar_mv, ar_pick, ar_new, ar_box, ar_build, ar_buildSl, ar_load, ar_store, ar_nilChk, ar_bin, ar_un, ar_conv, ar_convSB, ar_convBS, ar_mkFunc, ar_mkIface, ar_mkSlice, ar_sl, ar_slStr, ar_fieldA, ar_field, ar_idxA, ar_idxArr, ar_idx, ar_idxS, ar_extract, ar_append, ar_len, ar_call, ar_callv, callvP_func, List.nil_append, List.cons_append, List.append_nil, ar_pf, ar_hf, ar_slA, upO_some, upO_none, sX_t, sX_c, sX_f, sXs, sXO, sXP, fin_t, fin_t2, fin_t3, up_same, up_ne, ne_eq, not_false_eq_true, AVal.bool.injEq, decide_eq_true_eq, decide_eq_false_iff_not, Int.ofNat_eq_natCast, Int.reduceNegSucc, Int.cast_ofNat_Int, reduceCtorEq, bin_lss, bin_leq, bin_gtr, bin_geq, bin_eql, bin_neq, bin_add, bin_sub, bin_mul, Bool.not_eq_true', Bool.not_eq_false', Bool.true_eq_false, Bool.false_eq_true, Nat.reduceEqDiff, ↓reduceIte, if_true, if_false, Nat.reduceAdd, Int.reduceEq, Int.reduceLT, Int.reduceLE, g0, g1, g5, hlt', str_idx hc]
      refine (rdigit_spec h54 c H).mono ?_
      rintro v _ ⟨rfl, rfl⟩
      cases hb : dig c with
      | true =>
        simp only [pf_min, undef_bool, str_len, str_eql, str_neq, conv_in, un_not, eq_self, decide_true, decide_false, Bool.not_true, Bool.not_false, argE_0, argE_1, argE_2, argE_3, argE_4, aw_skip, aw_reg, aw_seq, aw_cond, aw_block, aw_exit, aw_ret, inSeq_normal, inSeq_exit, inSeq_ret, inBlk_exit, inBlk_normal, inBlk_ret, OptK_some, OptH_some, OptS_some, kont_app, ar_nil, ar_guard, ar_mv, ar_pick, ar_new, ar_box, ar_build, ar_buildSl, ar_load, ar_store, ar_nilChk, ar_bin, ar_un, ar_conv, ar_convSB, ar_convBS, ar_mkFunc, ar_mkIface, ar_mkSlice, ar_sl, ar_slStr, ar_fieldA, ar_field, ar_idxA, ar_idxArr, ar_idx, ar_idxS, ar_extract, ar_append, ar_len, ar_call, ar_callv, callvP_func, List.nil_append, List.cons_append, List.append_nil, ar_pf, ar_hf, ar_slA, upO_some, upO_none, sX_t, sX_c, sX_f, sXs, sXO, sXP, fin_t, fin_t2, fin_t3, up_same, up_ne, ne_eq, not_false_eq_true, AVal.bool.injEq, decide_eq_true_eq, decide_eq_false_iff_not, Int.ofNat_eq_natCast, Int.reduceNegSucc, Int.cast_ofNat_Int, reduceCtorEq, bin_lss, bin_leq, bin_gtr, bin_geq, bin_eql, bin_neq, bin_add, bin_sub, bin_mul, Bool.not_eq_true', Bool.not_eq_false', Bool.true_eq_false, Bool.false_eq_true, Nat.reduceEqDiff, ↓reduceIte, if_true, if_false, Nat.reduceAdd, Int.reduceEq, Int.reduceLT, Int.reduceLE, g0, g1, g5, wrap1 j (by omega)]
        exact ⟨_, by omega, j + 1, by omega, rfl, by trivial, by trivial, rfl, by rw [hA, runF_go hc hb], by trivial⟩
      | false =>
        simp only [pf_min, undef_bool, str_len, str_eql, str_neq, conv_in, un_not, eq_self, decide_true, decide_false, Bool.not_true, Bool.not_false, argE_0, argE_1, argE_2, argE_3, argE_4, aw_skip, aw_reg, aw_seq, aw_cond, aw_block, aw_exit, aw_ret, inSeq_normal, inSeq_exit, inSeq_ret, inBlk_exit, inBlk_normal, inBlk_ret, OptK_some, OptH_some, OptS_some, kont_app, ar_nil, ar_guard, ar_mv, ar_pick, ar_new, ar_box, ar_build, ar_buildSl, ar_load, ar_store, ar_nilChk, ar_bin, ar_un, ar_conv, ar_convSB, ar_convBS, ar_mkFunc, ar_mkIface, ar_mkSlice, ar_sl, ar_slStr, ar_fieldA, ar_field, ar_idxA, ar_idxArr, ar_idx, ar_idxS, ar_extract, ar_append, ar_len, ar_call, ar_callv, callvP_func, List.nil_append, List.cons_append, List.append_nil, ar_pf, ar_hf, ar_slA, upO_some, upO_none, sX_t, sX_c, sX_f, sXs, sXO, sXP, fin_t, fin_t2, fin_t3, up_same, up_ne, ne_eq, not_false_eq_true, AVal.bool.injEq, decide_eq_true_eq, decide_eq_false_iff_not, Int.ofNat_eq_natCast, Int.reduceNegSucc, Int.cast_ofNat_Int, reduceCtorEq, bin_lss, bin_leq, bin_gtr, bin_geq, bin_eql, bin_neq, bin_add, bin_sub, bin_mul, Bool.not_eq_true', Bool.not_eq_false', Bool.true_eq_false, Bool.false_eq_true, Nat.reduceEqDiff, ↓reduceIte, if_true, if_false, Nat.reduceAdd, Int.reduceEq, Int.reduceLT, Int.reduceLE, g0, g1, g5]
        exact ⟨by trivial, by trivial, by rw [hA, runF_no hc hb], by trivial⟩
    · have hlt' : ¬ (j : Int) < (s.length : Int) := by omega
      simp only [pf_min, undef_bool, str_len, str_eql, str_neq, conv_in, un_not, eq_self, decide_true, decide_false, Bool.not_true, Bool.not_false, argE_0, argE_1, argE_2, argE_3, argE_4, aw_skip, aw_reg, aw_seq, aw_cond, aw_block, aw_exit, aw_ret, inSeq_normal, inSeq_exit, inSeq_ret, inBlk_exit, inBlk_normal, inBlk_ret, OptK_some, OptH_some, OptS_some, kont_app, ar_nil, ar_guard, ar_mv, ar_pick, ar_new, ar_box, ar_build, ar_buildSl, ar_load, ar_store, ar_nilChk, ar_bin, ar_un, ar_conv, ar_convSB, ar_convBS, ar_mkFunc, ar_mkIface, ar_mkSlice, ar_sl, ar_slStr, ar_fieldA, ar_field, ar_idxA, ar_idxArr, ar_idx, ar_idxS, ar_extract, ar_append, ar_len, ar_call, ar_callv, callvP_func, List.nil_append, List.cons_append, List.append_nil, ar_pf, ar_hf, ar_slA, upO_some, upO_none, sX_t, sX_c, sX_f, sXs, sXO, sXP, fin_t, fin_t2, fin_t3, up_same, up_ne, ne_eq, not_false_eq_true, AVal.bool.injEq, decide_eq_true_eq, decide_eq_false_iff_not, Int.ofNat_eq_natCast, Int.reduceNegSucc, Int.cast_ofNat_Int, reduceCtorEq, bin_lss, bin_leq, bin_gtr, bin_geq, bin_eql, bin_neq, bin_add, bin_sub, bin_mul, Bool.not_eq_true', Bool.not_eq_false', Bool.true_eq_false, Bool.false_eq_true, Nat.reduceEqDiff, ↓reduceIte, if_true, if_false, Nat.reduceAdd, Int.reduceEq, Int.reduceLT, Int.reduceLE, g0, g1, g5, hlt']
      exact ⟨by trivial, by trivial, by rw [hA, runF_end (by omega)], by trivial⟩
  rintro T _ ⟨g0, g1, g5, rfl⟩
  have hle := runF_le (p := dig) hi
  have hge := runF_ge dig s i
  have hdef : numF s i = if runF dig s i = i ∨ s[runF dig s i]? ≠ some 46 then runF dig s i else if runF dig s i + 1 < runF dig s (runF dig s i + 1) then runF dig s (runF dig s i + 1) else runF dig s i := rfl
  rw [hdef]
  generalize runF dig s i = e at *
  by_cases he : e = i
  · subst he
    simp only [pf_min, undef_bool, str_len, str_eql, str_neq, conv_in, un_not, eq_self, decide_true, decide_false, Bool.not_true, Bool.not_false, argE_0, argE_1, argE_2, argE_3, argE_4, aw_skip, aw_reg, aw_seq, aw_cond, aw_block, aw_exit, aw_ret, inSeq_normal, inSeq_exit, inSeq_ret, inBlk_exit, inBlk_normal, inBlk_ret, OptK_some, OptH_some, OptS_some, kont_app, ar_nil, ar_guard, ar_mv, ar_pick, ar_new, ar_box, ar_build, ar_buildSl, ar_load, ar_store, ar_nilChk, ar_bin, ar_un, ar_conv, ar_convSB, ar_convBS, ar_mkFunc, ar_mkIface, ar_mkSlice, ar_sl, ar_slStr, ar_fieldA, ar_field, ar_idxA, ar_idxArr, ar_idx, ar_idxS, ar_extract, ar_append, ar_len, ar_call, ar_callv, callvP_func, List.nil_append, List.cons_append, List.append_nil, ar_pf, ar_hf, ar_slA, upO_some, upO_none, sX_t, sX_c, sX_f, sXs, sXO, sXP, fin_t, fin_t2, fin_t3, up_same, up_ne, ne_eq, not_false_eq_true, AVal.bool.injEq, decide_eq_true_eq, decide_eq_false_iff_not, Int.ofNat_eq_natCast, Int.reduceNegSucc, Int.cast_ofNat_Int, reduceCtorEq, bin_lss, bin_leq, bin_gtr, bin_geq, bin_eql, bin_neq, bin_add, bin_sub, bin_mul, Bool.not_eq_true', Bool.not_eq_false', Bool.true_eq_false, Bool.false_eq_true, Nat.reduceEqDiff, ↓reduceIte, if_true, if_false, Nat.reduceAdd, Int.reduceEq, Int.reduceLT, Int.reduceLE, g0, g1, g5]
    exact ⟨by rw [if_pos (.inl (by trivial))]; simp, by trivial⟩
  have he' : ¬ (e : Int) = (i : Int) := by omega
  simp only [pf_min, undef_bool, str_len, str_eql, str_neq, conv_in, un_not, eq_self, decide_true, decide_false, Bool.not_true, Bool.not_false, argE_0, argE_1, argE_2, argE_3, argE_4, aw_skip, aw_reg, aw_seq, aw_cond, aw_block, aw_exit, aw_ret, inSeq_normal, inSeq_exit, inSeq_ret, inBlk_exit, inBlk_normal, inBlk_ret, OptK_some, OptH_some, OptS_some, kont_app, ar_nil, ar_guard, ar_mv, ar_pick, ar_new, ar_box, ar_build, ar_buildSl, ar_load, ar_store, ar_nilChk, ar_bin, ar_un, ar_conv, ar_convSB, ar_convBS, ar_mkFunc, ar_mkIface, ar_mkSlice, ar_sl, ar_slStr, ar_fieldA, ar_field, ar_idxA, ar_idxArr, ar_idx, ar_idxS, ar_extract, ar_append, ar_len, ar_call, ar_callv, callvP_func, List.nil_append, List.cons_append, List.append_nil, ar_pf, ar_hf, ar_slA, upO_some, upO_none, sX_t, sX_c, sX_f, sXs, sXO, sXP, fin_t, fin_t2, fin_t3, up_same, up_ne, ne_eq, not_false_eq_true, AVal.bool.injEq, decide_eq_true_eq, decide_eq_false_iff_not, Int.ofNat_eq_natCast, Int.reduceNegSucc, Int.cast_ofNat_Int, reduceCtorEq, bin_lss, bin_leq, bin_gtr, bin_geq, bin_eql, bin_neq, bin_add, bin_sub, bin_mul, Bool.not_eq_true', Bool.not_eq_false', Bool.true_eq_false, Bool.false_eq_true, Nat.reduceEqDiff, ↓reduceIte, if_true, if_false, Nat.reduceAdd, Int.reduceEq, Int.reduceLT, Int.reduceLE, g0, g1, g5, he', wrap1 e (by omega)]
  refine aw_cut (fun (T : Env) H' => ∃ m : Nat, m = (if s[e]? = some 46 then runF dig s (e + 1) else e + 1) ∧ T 0 = .str s ∧ T 1 = .int .i64 (i : Int) ∧ T 5 = .int .i64 (e : Int) ∧ T 6 = .int .i64 (m : Int) ∧ H = H') (calls_mono _ _) ?_ ?_
  · refine aw_loop (fun q (T : Env) H' => ∃ m : Nat, e + 1 ≤ m ∧ m ≤ s.length + 1 ∧ q = s.length + 1 - m ∧ T 0 = .str s ∧ T 1 = .int .i64 (i : Int) ∧ T 5 = .int .i64 (e : Int) ∧ T 6 = .int .i64 (m : Int) ∧ (s[e]? = some 46 → runF dig s (e + 1) = runF dig s m) ∧ (s[e]? ≠ some 46 → m = e + 1) ∧ H = H') (s.length + 1 - (e + 1)) ⟨e + 1, by omega, by omega, rfl, by simp only [pf_min, undef_bool, str_len, str_eql, str_neq, conv_in, un_not, eq_self, decide_true, decide_false, Bool.not_true, Bool.not_false, argE_0, argE_1, argE_2, argE_3, argE_4, aw_skip, aw_reg, aw_seq, aw_cond, aw_block, aw_exit, aw_ret, inSeq_normal, inSeq_exit, inSeq_ret, inBlk_exit, inBlk_normal, inBlk_ret, OptK_some, OptH_some, OptS_some, kont_app, ar_nil, ar_guard, ar_mv, ar_pick, ar_new, ar_box, ar_build, ar_buildSl, ar_load, ar_store, ar_nilChk, ar_bin, ar_un, ar_conv, ar_convSB, ar_convBS, ar_mkFunc, ar_mkIface, ar_mkSlice, ar_sl, ar_slStr, ar_fieldA, ar_field, ar_idxA, ar_idxArr, ar_idx, ar_idxS, ar_extract, ar_append, ar_len, ar_call, ar_callv, callvP_func, List.nil_append, List.cons_append, List.append_nil, ar_pf, ar_hf, ar_slA, upO_some, upO_none, sX_t, sX_c, sX_f, sXs, sXO, sXP, fin_t, fin_t2, fin_t3, up_same, up_ne, ne_eq, not_false_eq_true, AVal.bool.injEq, decide_eq_true_eq, decide_eq_false_iff_not, Int.ofNat_eq_natCast, Int.reduceNegSucc, Int.cast_ofNat_Int, reduceCtorEq, bin_lss, bin_leq, bin_gtr, bin_geq, bin_eql, bin_neq, bin_add, bin_sub, bin_mul, Bool.not_eq_true', Bool.not_eq_false', Bool.true_eq_false, Bool.false_eq_true, Nat.reduceEqDiff, ↓reduceIte, if_true, if_false, Nat.reduceAdd, Int.reduceEq, Int.reduceLT, Int.reduceLE, g0], by simp only [pf_min, undef_bool, str_len, str_eql, str_neq, conv_in, un_not, eq_self, decide_true, decide_false, Bool.not_true, Bool.not_false, argE_0, argE_1, argE_2, argE_3, argE_4, aw_skip, aw_reg, aw_seq, aw_cond, aw_block, aw_exit, aw_ret, inSeq_normal, inSeq_exit, inSeq_ret, inBlk_exit, inBlk_normal, inBlk_ret, OptK_some, OptH_some, OptS_some, kont_app, ar_nil, ar_guard, ar_mv, ar_pick, ar_new, ar_box, ar_build, ar_buildSl, ar_load, ar_store, ar_nilChk, ar_bin, ar_un, ar_conv, ar_convSB, ar_convBS, ar_mkFunc, ar_mkIface, ar_mkSlice, ar_sl, ar_slStr, ar_fieldA, ar_field, ar_idxA, ar_idxArr, ar_idx, ar_idxS, ar_extract, ar_append, ar_len, ar_call, ar_callv, callvP_func, List.nil_append, List.cons_append, List.append_nil, ar_pf, ar_hf, ar_slA, upO_some, upO_none, sX_t, sX_c, sX_f, sXs, sXO, sXP, fin_t, fin_t2, fin_t3, up_same, up_ne, ne_eq, not_false_eq_true, AVal.bool.injEq, decide_eq_true_eq, decide_eq_false_iff_not, Int.ofNat_eq_natCast, Int.reduceNegSucc, Int.cast_ofNat_Int, reduceCtorEq, bin_lss, bin_leq, bin_gtr, bin_geq, bin_eql, bin_neq, bin_add, bin_sub, bin_mul, Bool.not_eq_true', Bool.not_eq_false', Bool.true_eq_false, Bool.false_eq_true, Nat.reduceEqDiff, ↓reduceIte, if_true, if_false, Nat.reduceAdd, Int.reduceEq, Int.reduceLT, Int.reduceLE, g1], by simp only [pf_min, undef_bool, str_len, str_eql, str_neq, conv_in, un_not, eq_self, decide_true, decide_false, Bool.not_true, Bool.not_false, argE_0, argE_1, argE_2, argE_3, argE_4, aw_skip, aw_reg, aw_seq, aw_cond, aw_block, aw_exit, aw_ret, inSeq_normal, inSeq_exit, inSeq_ret, inBlk_exit, inBlk_normal, inBlk_ret, OptK_some, OptH_some, OptS_some, kont_app, ar_nil, ar_guard, ar_mv, ar_pick, ar_new, ar_box, ar_build, ar_buildSl, ar_load, ar_store, ar_nilChk, ar_bin, ar_un, ar_conv, ar_convSB, ar_convBS, ar_mkFunc, ar_mkIface, ar_mkSlice, ar_sl, ar_slStr, ar_fieldA, ar_field, ar_idxA, ar_idxArr, ar_idx, ar_idxS, ar_extract, ar_append, ar_len, ar_call, ar_callv, callvP_func, List.nil_append, List.cons_append, List.append_nil, ar_pf, ar_hf, ar_slA, upO_some, upO_none, sX_t, sX_c, sX_f, sXs, sXO, sXP, fin_t, fin_t2, fin_t3, up_same, up_ne, ne_eq, not_false_eq_true, AVal.bool.injEq, decide_eq_true_eq, decide_eq_false_iff_not, Int.ofNat_eq_natCast, Int.reduceNegSucc, Int.cast_ofNat_Int, reduceCtorEq, bin_lss, bin_leq, bin_gtr, bin_geq, bin_eql, bin_neq, bin_add, bin_sub, bin_mul, Bool.not_eq_true', Bool.not_eq_false', Bool.true_eq_false, Bool.false_eq_true, Nat.reduceEqDiff, ↓reduceIte, if_true, if_false, Nat.reduceAdd, Int.reduceEq, Int.reduceLT, Int.reduceLE, g5], by simp only [pf_min, undef_bool, str_len, str_eql, str_neq, conv_in, un_not, eq_self, decide_true, decide_false, Bool.not_true, Bool.not_false, argE_0, argE_1, argE_2, argE_3, argE_4, aw_skip, aw_reg, aw_seq, aw_cond, aw_block, aw_exit, aw_ret, inSeq_normal, inSeq_exit, inSeq_ret, inBlk_exit, inBlk_normal, inBlk_ret, OptK_some, OptH_some, OptS_some, kont_app, ar_nil, ar_guard, ar_mv, ar_pick, ar_new, ar_box, ar_build, ar_buildSl, ar_load, ar_store, ar_nilChk, ar_bin, ar_un, ar_conv, ar_convSB, ar_convBS, ar_mkFunc, ar_mkIface, ar_mkSlice, ar_sl, ar_slStr, ar_fieldA, ar_field, ar_idxA, ar_idxArr, ar_idx, ar_idxS, ar_extract, ar_append, ar_len, ar_call, ar_callv, callvP_func, List.nil_append, List.cons_append, List.append_nil, ar_pf, ar_hf, ar_slA, upO_some, upO_none, sX_t, sX_c, sX_f, sXs, sXO, sXP, fin_t, fin_t2, fin_t3, up_same, up_ne, ne_eq, not_false_eq_true, AVal.bool.injEq, decide_eq_true_eq, decide_eq_false_iff_not, Int.ofNat_eq_natCast, Int.reduceNegSucc, Int.cast_ofNat_Int, reduceCtorEq, bin_lss, bin_leq, bin_gtr, bin_geq, bin_eql, bin_neq, bin_add, bin_sub, bin_mul, Bool.not_eq_true', Bool.not_eq_false', Bool.true_eq_false, Bool.false_eq_true, Nat.reduceEqDiff, ↓reduceIte, if_true, if_false, Nat.reduceAdd, Int.reduceEq, Int.reduceLT, Int.reduceLE], fun _ => rfl, fun _ => rfl, rfl⟩ ?_
    clear g0 g1 g5
    rintro q T _ ⟨m, h1, h2, rfl, g0, g1, g5, g6, hA, hB, rfl⟩
    by_cases hlt : e < s.length
    · have hlt' : (e : Int) < (s.length : Int) := by omega
      obtain ⟨c, hc⟩ := isSome_of_lt hlt
      by_cases hp : (c.toNat : Int) = 46
      · have hc46 : s[e]? = some 46 := by
          rw [hc]; congr 1; exact UInt8.toNat_inj.1 (by simpa using (show c.toNat = 46 by omega))
        by_cases hml : m < s.length
        · have hml' : (m : Int) < (s.length : Int) := by omega
          obtain ⟨d, hd⟩ := isSome_of_lt hml
          simp only [pf_min, undef_bool, str_len, str_eql, str_neq, conv_in, un_not, eq_self, decide_true, decide_false, Bool.not_true, Bool.not_false, argE_0, argE_1, argE_2, argE_3, argE_4, aw_skip, aw_reg, aw_seq, aw_cond, aw_block, aw_exit, aw_ret, inSeq_normal, inSeq_exit, inSeq_ret, inBlk_exit, inBlk_normal, inBlk_ret, OptK_some, OptH_some, OptS_some, kont_app, ar_nil, ar_guard, ar_mv, ar_pick, ar_new, ar_box, ar_build, ar_buildSl, ar_load, ar_store, ar_nilChk, ar_bin, ar_un, ar_conv, ar_convSB, ar_convBS, ar_mkFunc, ar_mkIface, ar_mkSlice, ar_sl, ar_slStr, ar_fieldA, ar_field, ar_idxA, ar_idxArr, ar_idx, ar_idxS, ar_extract, ar_append, ar_len, ar_call, ar_callv, callvP_func, List.nil_append, List.cons_append, List.append_nil, ar_pf, ar_hf, ar_slA, upO_some, upO_none, sX_t, sX_c, sX_f, sXs, sXO, sXP, fin_t, fin_t2, fin_t3, up_same, up_ne, ne_eq, not_false_eq_true, AVal.bool.injEq, decide_eq_true_eq, decide_eq_false_iff_not, Int.ofNat_eq_natCast, Int.reduceNegSucc, Int.cast_ofNat_Int, reduceCtorEq, bin_lss, bin_leq, bin_gtr, bin_geq, bin_eql, bin_neq, bin_add, bin_sub, bin_mul, Bool.not_eq_true', Bool.not_eq_false', Bool.true_eq_false, Bool.false_eq_true, Nat.reduceEqDiff, ↓reduceIte, if_true, if_false, Nat.reduceAdd, Int.reduceEq, Int.reduceLT, Int.reduceLE, g0, g1, g5, g6, hlt', str_idx hc, hp, hml', str_idx hd]
          refine (rdigit_spec h54 d H).mono ?_
          rintro v _ ⟨rfl, rfl⟩
          cases hb : dig d with
          | true =>
            simp only [pf_min, undef_bool, str_len, str_eql, str_neq, conv_in, un_not, eq_self, decide_true, decide_false, Bool.not_true, Bool.not_false, argE_0, argE_1, argE_2, argE_3, argE_4, aw_skip, aw_reg, aw_seq, aw_cond, aw_block, aw_exit, aw_ret, inSeq_normal, inSeq_exit, inSeq_ret, inBlk_exit, inBlk_normal, inBlk_ret, OptK_some, OptH_some, OptS_some, kont_app, ar_nil, ar_guard, ar_mv, ar_pick, ar_new, ar_box, ar_build, ar_buildSl, ar_load, ar_store, ar_nilChk, ar_bin, ar_un, ar_conv, ar_convSB, ar_convBS, ar_mkFunc, ar_mkIface, ar_mkSlice, ar_sl, ar_slStr, ar_fieldA, ar_field, ar_idxA, ar_idxArr, ar_idx, ar_idxS, ar_extract, ar_append, ar_len, ar_call, ar_callv, callvP_func, List.nil_append, List.cons_append, List.append_nil, ar_pf, ar_hf, ar_slA, upO_some, upO_none, sX_t, sX_c, sX_f, sXs, sXO, sXP, fin_t, fin_t2, fin_t3, up_same, up_ne, ne_eq, not_false_eq_true, AVal.bool.injEq, decide_eq_true_eq, decide_eq_false_iff_not, Int.ofNat_eq_natCast, Int.reduceNegSucc, Int.cast_ofNat_Int, reduceCtorEq, bin_lss, bin_leq, bin_gtr, bin_geq, bin_eql, bin_neq, bin_add, bin_sub, bin_mul, Bool.not_eq_true', Bool.not_eq_false', Bool.true_eq_false, Bool.false_eq_true, Nat.reduceEqDiff, ↓reduceIte, if_true, if_false, Nat.reduceAdd, Int.reduceEq, Int.reduceLT, Int.reduceLE, g0, g1, g5, g6, wrap1 m (by omega)]
            exact ⟨_, by omega, m + 1, by omega, by omega, rfl, by trivial, by trivial, by trivial, rfl, fun h => by rw [hA h, runF_go hd hb], fun h => absurd hc46 h, by trivial⟩
          | false =>
            simp only [pf_min, undef_bool, str_len, str_eql, str_neq, conv_in, un_not, eq_self, decide_true, decide_false, Bool.not_true, Bool.not_false, argE_0, argE_1, argE_2, argE_3, argE_4, aw_skip, aw_reg, aw_seq, aw_cond, aw_block, aw_exit, aw_ret, inSeq_normal, inSeq_exit, inSeq_ret, inBlk_exit, inBlk_normal, inBlk_ret, OptK_some, OptH_some, OptS_some, kont_app, ar_nil, ar_guard, ar_mv, ar_pick, ar_new, ar_box, ar_build, ar_buildSl, ar_load, ar_store, ar_nilChk, ar_bin, ar_un, ar_conv, ar_convSB, ar_convBS, ar_mkFunc, ar_mkIface, ar_mkSlice, ar_sl, ar_slStr, ar_fieldA, ar_field, ar_idxA, ar_idxArr, ar_idx, ar_idxS, ar_extract, ar_append, ar_len, ar_call, ar_callv, callvP_func, List.nil_append, List.cons_append, List.append_nil, ar_pf, ar_hf, ar_slA, upO_some, upO_none, sX_t, sX_c, sX_f, sXs, sXO, sXP, fin_t, fin_t2, fin_t3, up_same, up_ne, ne_eq, not_false_eq_true, AVal.bool.injEq, decide_eq_true_eq, decide_eq_false_iff_not, Int.ofNat_eq_natCast, Int.reduceNegSucc, Int.cast_ofNat_Int, reduceCtorEq, bin_lss, bin_leq, bin_gtr, bin_geq, bin_eql, bin_neq, bin_add, bin_sub, bin_mul, Bool.not_eq_true', Bool.not_eq_false', Bool.true_eq_false, Bool.false_eq_true, Nat.reduceEqDiff, ↓reduceIte, if_true, if_false, Nat.reduceAdd, Int.reduceEq, Int.reduceLT, Int.reduceLE, g0, g1, g5, g6]
            exact ⟨m, by rw [if_pos hc46, hA hc46, runF_no hd hb], by trivial, by trivial, by trivial, by trivial, by trivial⟩
        · have hml' : ¬ (m : Int) < (s.length : Int) := by omega
          simp only [pf_min, undef_bool, str_len, str_eql, str_neq, conv_in, un_not, eq_self, decide_true, decide_false, Bool.not_true, Bool.not_false, argE_0, argE_1, argE_2, argE_3, argE_4, aw_skip, aw_reg, aw_seq, aw_cond, aw_block, aw_exit, aw_ret, inSeq_normal, inSeq_exit, inSeq_ret, inBlk_exit, inBlk_normal, inBlk_ret, OptK_some, OptH_some, OptS_some, kont_app, ar_nil, ar_guard, ar_mv, ar_pick, ar_new, ar_box, ar_build, ar_buildSl, ar_load, ar_store, ar_nilChk, ar_bin, ar_un, ar_conv, ar_convSB, ar_convBS, ar_mkFunc, ar_mkIface, ar_mkSlice, ar_sl, ar_slStr, ar_fieldA, ar_field, ar_idxA, ar_idxArr, ar_idx, ar_idxS, ar_extract, ar_append, ar_len, ar_call, ar_callv, callvP_func, List.nil_append, List.cons_append, List.append_nil, ar_pf, ar_hf, ar_slA, upO_some, upO_none, sX_t, sX_c, sX_f, sXs, sXO, sXP, fin_t, fin_t2, fin_t3, up_same, up_ne, ne_eq, not_false_eq_true, AVal.bool.injEq, decide_eq_true_eq, decide_eq_false_iff_not, Int.ofNat_eq_natCast, Int.reduceNegSucc, Int.cast_ofNat_Int, reduceCtorEq, bin_lss, bin_leq, bin_gtr, bin_geq, bin_eql, bin_neq, bin_add, bin_sub, bin_mul, Bool.not_eq_true', Bool.not_eq_false', Bool.true_eq_false, Bool.false_eq_true, Nat.reduceEqDiff, ↓reduceIte, if_true, if_false, Nat.reduceAdd, Int.reduceEq, Int.reduceLT, Int.reduceLE, g0, g1, g5, g6, hlt', str_idx hc, hp, hml']
          exact ⟨m, by rw [if_pos hc46, hA hc46, runF_end (by omega)], by trivial, by trivial, by trivial, by trivial, by trivial⟩
      · have hc46 : s[e]? ≠ some 46 := by
          rw [hc]; intro h; cases h; exact hp rfl
        simp only [pf_min, undef_bool, str_len, str_eql, str_neq, conv_in, un_not, eq_self, decide_true, decide_false, Bool.not_true, Bool.not_false, argE_0, argE_1, argE_2, argE_3, argE_4, aw_skip, aw_reg, aw_seq, aw_cond, aw_block, aw_exit, aw_ret, inSeq_normal, inSeq_exit, inSeq_ret, inBlk_exit, inBlk_normal, inBlk_ret, OptK_some, OptH_some, OptS_some, kont_app, ar_nil, ar_guard, ar_mv, ar_pick, ar_new, ar_box, ar_build, ar_buildSl, ar_load, ar_store, ar_nilChk, ar_bin, ar_un, ar_conv, ar_convSB, ar_convBS, ar_mkFunc, ar_mkIface, ar_mkSlice, ar_sl, ar_slStr, ar_fieldA, ar_field, ar_idxA, ar_idxArr, ar_idx, ar_idxS, ar_extract, ar_append, ar_len, ar_call, ar_callv, callvP_func, List.nil_append, List.cons_append, List.append_nil, ar_pf, ar_hf, ar_slA, upO_some, upO_none, sX_t, sX_c, sX_f, sXs, sXO, sXP, fin_t, fin_t2, fin_t3, up_same, up_ne, ne_eq, not_false_eq_true, AVal.bool.injEq, decide_eq_true_eq, decide_eq_false_iff_not, Int.ofNat_eq_natCast, Int.reduceNegSucc, Int.cast_ofNat_Int, reduceCtorEq, bin_lss, bin_leq, bin_gtr, bin_geq, bin_eql, bin_neq, bin_add, bin_sub, bin_mul, Bool.not_eq_true', Bool.not_eq_false', Bool.true_eq_false, Bool.false_eq_true, Nat.reduceEqDiff, ↓reduceIte, if_true, if_false, Nat.reduceAdd, Int.reduceEq, Int.reduceLT, Int.reduceLE, g0, g1, g5, g6, hlt', str_idx hc, hp]
        exact ⟨m, by rw [if_neg hc46, hB hc46], by trivial, by trivial, by trivial, by trivial, by trivial⟩
    · have hlt' : ¬ (e : Int) < (s.length : Int) := by omega
      have hc46 : s[e]? ≠ some 46 := by rw [List.getElem?_eq_none (by omega)]; simp
      simp only [pf_min, undef_bool, str_len, str_eql, str_neq, conv_in, un_not, eq_self, decide_true, decide_false, Bool.not_true, Bool.not_false, argE_0, argE_1, argE_2, argE_3, argE_4, aw_skip, aw_reg, aw_seq, aw_cond, aw_block, aw_exit, aw_ret, inSeq_normal, inSeq_exit, inSeq_ret, inBlk_exit, inBlk_normal, inBlk_ret, OptK_some, OptH_some, OptS_some, kont_app, ar_nil, ar_guard, ar_mv, ar_pick, ar_new, ar_box, ar_build, ar_buildSl, ar_load, ar_store, ar_nilChk, ar_bin, ar_un, ar_conv, ar_convSB, ar_convBS, ar_mkFunc, ar_mkIface, ar_mkSlice, ar_sl, ar_slStr, ar_fieldA, ar_field, ar_idxA, ar_idxArr, ar_idx, ar_idxS, ar_extract, ar_append, ar_len, ar_call, ar_callv, callvP_func, List.nil_append, List.cons_append, List.append_nil, ar_pf, ar_hf, ar_slA, upO_some, upO_none, sX_t, sX_c, sX_f, sXs, sXO, sXP, fin_t, fin_t2, fin_t3, up_same, up_ne, ne_eq, not_false_eq_true, AVal.bool.injEq, decide_eq_true_eq, decide_eq_false_iff_not, Int.ofNat_eq_natCast, Int.reduceNegSucc, Int.cast_ofNat_Int, reduceCtorEq, bin_lss, bin_leq, bin_gtr, bin_geq, bin_eql, bin_neq, bin_add, bin_sub, bin_mul, Bool.not_eq_true', Bool.not_eq_false', Bool.true_eq_false, Bool.false_eq_true, Nat.reduceEqDiff, ↓reduceIte, if_true, if_false, Nat.reduceAdd, Int.reduceEq, Int.reduceLT, Int.reduceLE, g0, g1, g5, g6, hlt']
      exact ⟨m, by rw [if_neg hc46, hB hc46], by trivial, by trivial, by trivial, by trivial, by trivial⟩
  clear g0 g1 g5
  rintro T _ ⟨m, hm, g0, g1, g5, g6, rfl⟩
  have hm1 : m ≤ s.length + 1 := by
    rw [hm]; split
    · rename_i h
      have := (List.getElem?_eq_some_iff.1 h).1
      have := runF_le (p := dig) (s := s) (i := e + 1) (by omega)
      omega
    · omega
  by_cases hc46 : s[e]? = some 46
  · rw [if_pos hc46] at hm
    rw [if_neg (by rintro (h | h); exact he h; exact h hc46), ← hm]
    by_cases hgt : e + 1 < m
    · rw [if_pos hgt]
      have hgt2 : (((e + 1 : Nat)) : Int) < (m : Int) := by omega
      simp only [pf_min, undef_bool, str_len, str_eql, str_neq, conv_in, un_not, eq_self, decide_true, decide_false, Bool.not_true, Bool.not_false, argE_0, argE_1, argE_2, argE_3, argE_4, aw_skip, aw_reg, aw_seq, aw_cond, aw_block, aw_exit, aw_ret, inSeq_normal, inSeq_exit, inSeq_ret, inBlk_exit, inBlk_normal, inBlk_ret, OptK_some, OptH_some, OptS_some, kont_app, ar_nil, ar_guard, ar_mv, ar_pick, ar_new, ar_box, ar_build, ar_buildSl, ar_load, ar_store, ar_nilChk, ar_bin, ar_un, ar_conv, ar_convSB, ar_convBS, ar_mkFunc, ar_mkIface, ar_mkSlice, ar_sl, ar_slStr, ar_fieldA, ar_field, ar_idxA, ar_idxArr, ar_idx, ar_idxS, ar_extract, ar_append, ar_len, ar_call, ar_callv, callvP_func, List.nil_append, List.cons_append, List.append_nil, ar_pf, ar_hf, ar_slA, upO_some, upO_none, sX_t, sX_c, sX_f, sXs, sXO, sXP, fin_t, fin_t2, fin_t3, up_same, up_ne, ne_eq, not_false_eq_true, AVal.bool.injEq, decide_eq_true_eq, decide_eq_false_iff_not, Int.ofNat_eq_natCast, Int.reduceNegSucc, Int.cast_ofNat_Int, reduceCtorEq, bin_lss, bin_leq, bin_gtr, bin_geq, bin_eql, bin_neq, bin_add, bin_sub, bin_mul, Bool.not_eq_true', Bool.not_eq_false', Bool.true_eq_false, Bool.false_eq_true, Nat.reduceEqDiff, ↓reduceIte, if_true, if_false, Nat.reduceAdd, Int.reduceEq, Int.reduceLT, Int.reduceLE, g0, g1, g5, g6, wrap1 e (by omega), hgt2]
      exact ⟨by rw [wrap64 (by omega) (by omega)]; congr 1; omega, by trivial⟩
    · rw [if_neg hgt]
      have hgt2 : ¬ (((e + 1 : Nat)) : Int) < (m : Int) := by omega
      simp only [pf_min, undef_bool, str_len, str_eql, str_neq, conv_in, un_not, eq_self, decide_true, decide_false, Bool.not_true, Bool.not_false, argE_0, argE_1, argE_2, argE_3, argE_4, aw_skip, aw_reg, aw_seq, aw_cond, aw_block, aw_exit, aw_ret, inSeq_normal, inSeq_exit, inSeq_ret, inBlk_exit, inBlk_normal, inBlk_ret, OptK_some, OptH_some, OptS_some, kont_app, ar_nil, ar_guard, ar_mv, ar_pick, ar_new, ar_box, ar_build, ar_buildSl, ar_load, ar_store, ar_nilChk, ar_bin, ar_un, ar_conv, ar_convSB, ar_convBS, ar_mkFunc, ar_mkIface, ar_mkSlice, ar_sl, ar_slStr, ar_fieldA, ar_field, ar_idxA, ar_idxArr, ar_idx, ar_idxS, ar_extract, ar_append, ar_len, ar_call, ar_callv, callvP_func, List.nil_append, List.cons_append, List.append_nil, ar_pf, ar_hf, ar_slA, upO_some, upO_none, sX_t, sX_c, sX_f, sXs, sXO, sXP, fin_t, fin_t2, fin_t3, up_same, up_ne, ne_eq, not_false_eq_true, AVal.bool.injEq, decide_eq_true_eq, decide_eq_false_iff_not, Int.ofNat_eq_natCast, Int.reduceNegSucc, Int.cast_ofNat_Int, reduceCtorEq, bin_lss, bin_leq, bin_gtr, bin_geq, bin_eql, bin_neq, bin_add, bin_sub, bin_mul, Bool.not_eq_true', Bool.not_eq_false', Bool.true_eq_false, Bool.false_eq_true, Nat.reduceEqDiff, ↓reduceIte, if_true, if_false, Nat.reduceAdd, Int.reduceEq, Int.reduceLT, Int.reduceLE, g0, g1, g5, g6, wrap1 e (by omega), hgt2]
      exact ⟨by rw [wrap64 (by omega) (by omega)]; congr 1; omega, by trivial⟩
  · rw [if_neg hc46] at hm
    rw [if_pos (.inr hc46)]
    have hgt2 : ¬ (((e + 1 : Nat)) : Int) < (m : Int) := by omega
    simp only [pf_min, undef_bool, str_len, str_eql, str_neq, conv_in, un_not, eq_self, decide_true, decide_false, Bool.not_true, Bool.not_false, argE_0, argE_1, argE_2, argE_3, argE_4, aw_skip, aw_reg, aw_seq, aw_cond, aw_block, aw_exit, aw_ret, inSeq_normal, inSeq_exit, inSeq_ret, inBlk_exit, inBlk_normal, inBlk_ret, OptK_some, OptH_some, OptS_some, kont_app, ar_nil, ar_guard, ar_mv, ar_pick, ar_new, ar_box, ar_build, ar_buildSl, ar_load, ar_store, ar_nilChk, ar_bin, ar_un, ar_conv, ar_convSB, ar_convBS, ar_mkFunc, ar_mkIface, ar_mkSlice, ar_sl, ar_slStr, ar_fieldA, ar_field, ar_idxA, ar_idxArr, ar_idx, ar_idxS, ar_extract, ar_append, ar_len, ar_call, ar_callv, callvP_func, List.nil_append, List.cons_append, List.append_nil, ar_pf, ar_hf, ar_slA, upO_some, upO_none, sX_t, sX_c, sX_f, sXs, sXO, sXP, fin_t, fin_t2, fin_t3, up_same, up_ne, ne_eq, not_false_eq_true, AVal.bool.injEq, decide_eq_true_eq, decide_eq_false_iff_not, Int.ofNat_eq_natCast, Int.reduceNegSucc, Int.cast_ofNat_Int, reduceCtorEq, bin_lss, bin_leq, bin_gtr, bin_geq, bin_eql, bin_neq, bin_add, bin_sub, bin_mul, Bool.not_eq_true', Bool.not_eq_false', Bool.true_eq_false, Bool.false_eq_true, Nat.reduceEqDiff, ↓reduceIte, if_true, if_false, Nat.reduceAdd, Int.reduceEq, Int.reduceLT, Int.reduceLE, g0, g1, g5, g6, wrap1 e (by omega), hgt2]
    exact ⟨by rw [wrap64 (by omega) (by omega)]; congr 1; omega, by trivial⟩
end Go.Proofs.Wo
